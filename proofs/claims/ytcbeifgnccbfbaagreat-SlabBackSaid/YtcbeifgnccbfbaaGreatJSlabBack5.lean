/-
  DERIVED. Part 5 of the texts of this claim: What programs over cells need to know: run with some cells known, they do the same, or ask for the next cell that they would read. No program is named.
-/
import Derived.Test.YtcbeifgnccbfbaaGreatJSlabBack4
set_option linter.unusedSimpArgs false
set_option linter.unusedVariables false
namespace Go.Sl
theorem VS.there_of {s : VS} {i : Int} (h : s.there i = true) : 0 ≤ i ∧ i < s.n ∧ s.miss < 0 := by
  simp only [VS.there, Bool.and_eq_true, decide_eq_true_eq] at h
  exact ⟨h.1.1, h.1.2, h.2⟩
theorem VS.there_stuck {s : VS} {i : Int} (h : 0 ≤ s.miss) : s.there i = false := by
  simp only [VS.there, Bool.and_eq_false_iff, decide_eq_false_iff_not]
  exact .inr (by omega)
theorem Pg.run_stuck {α : Type} (p : Pg α) : ∀ s : VS, 0 ≤ s.miss → (p.run s).1 = s := by
  induction p with
  | ret a => intro s _; rfl
  | get i k ih =>
    intro s h
    have e : s.read i = s := by simp only [VS.read, VS.there_stuck h, cond_false]
    rw [Pg.run_get, e]; exact ih _ s h
  | put i x k ih =>
    intro s h
    have e : s.set i x = s := by simp only [VS.set, VS.there_stuck h, cond_false]
    rw [Pg.run_put, e]; exact ih s h
structure Full (s : VS) : Prop where
  miss : s.miss = -1
  src : ∀ i : Int, 0 ≤ i → i < s.n → (s.src i).isSome = true
  rn : s.reads.Nodup
  ri : ∀ i ∈ s.reads, 0 ≤ i ∧ i < s.n
theorem VS.read_cases (s : VS) (i : Int) : s.read i = s ∨ (s.there i = true ∧ s.put i = none ∧ s.src i = none ∧ s.read i = { s with miss := i }) ∨ (s.there i = true ∧ s.put i = none ∧ (s.src i).isSome = true ∧ s.reads.contains i = false ∧ s.read i = { s with reads := s.reads ++ [i] }) := by
  unfold VS.read
  cases ht : s.there i with
  | false => exact .inl rfl
  | true =>
    simp only [cond_true]
    cases hp : s.put i with
    | some v => exact .inl rfl
    | none =>
      cases hs : s.src i with
      | none => exact .inr (.inl ⟨by trivial, by trivial, by trivial, rfl⟩)
      | some v =>
        simp only
        cases hc : s.reads.contains i with
        | true => exact .inl rfl
        | false => exact .inr (.inr ⟨by trivial, by trivial, rfl, by trivial, rfl⟩)
theorem nodup_snoc' {xs : List Int} {i : Int} (h : xs.Nodup) (hi : xs.contains i = false) : (xs ++ [i]).Nodup := by
  rw [List.nodup_append]
  refine ⟨h, by simp, fun a ha b hb => ?_⟩
  simp only [List.mem_singleton] at hb
  subst hb
  intro e
  subst e
  have : xs.contains a = true := by simpa using ha
  rw [hi] at this; cases this
theorem Full.read {s : VS} (h : Full s) (i : Int) : Full (s.read i) := by
  rcases s.read_cases i with e | ⟨ht, _, hs, _⟩ | ⟨ht, _, _, hc, e⟩
  · rw [e]; exact h
  · obtain ⟨h0, h1, _⟩ := VS.there_of ht
    have := h.src i h0 h1
    rw [hs] at this; cases this
  · rw [e]
    obtain ⟨h0, h1, _⟩ := VS.there_of ht
    refine { miss := h.miss, src := h.src, rn := nodup_snoc' h.rn hc, ri := fun j hj => ?_ }
    have hj' : j ∈ s.reads ++ [i] := hj
    simp only [List.mem_append, List.mem_singleton] at hj'
    rcases hj' with hj' | rfl
    · exact h.ri j hj'
    · exact ⟨h0, h1⟩
theorem VS.set_same (s : VS) (i x : Int) : (s.set i x).n = s.n ∧ (s.set i x).src = s.src ∧ (s.set i x).reads = s.reads ∧ (s.set i x).miss = s.miss ∧ (s.set i x).all = s.all := by
  unfold VS.set
  cases s.there i <;> exact ⟨rfl, rfl, rfl, rfl, rfl⟩
theorem VS.read_same (s : VS) (i : Int) : (s.read i).n = s.n ∧ (s.read i).src = s.src ∧ (s.read i).put = s.put ∧ (s.read i).wrote = s.wrote ∧ (s.read i).all = s.all := by
  rcases s.read_cases i with e | ⟨_, _, _, e⟩ | ⟨_, _, _, _, e⟩ <;> rw [e] <;> exact ⟨rfl, rfl, rfl, rfl, rfl⟩
theorem Full.set {s : VS} (h : Full s) (i x : Int) : Full (s.set i x) := by
  obtain ⟨e1, e2, e3, e4, _⟩ := s.set_same i x
  exact { miss := by rw [e4]; exact h.miss, src := by rw [e1, e2]; exact h.src, rn := by rw [e3]; exact h.rn, ri := by rw [e1, e3]; exact h.ri }
theorem Full.run {α : Type} (p : Pg α) : ∀ {s : VS}, Full s → Full (p.run s).1 := by
  induction p with
  | ret a => intro s h; exact h
  | get i k ih => intro s h; exact ih _ (h.read i)
  | put i x k ih => intro s h; exact ih (h.set i x)
theorem Pg.run_reads {α : Type} (p : Pg α) : ∀ s : VS, ∃ r, (p.run s).1.reads = s.reads ++ r := by
  induction p with
  | ret a => intro s; exact ⟨[], by simp [Pg.run]⟩
  | get i k ih =>
    intro s
    obtain ⟨r, hr⟩ := ih (s.get i) (s.read i)
    rw [Pg.run_get, hr]
    rcases s.read_cases i with e | ⟨_, _, _, e⟩ | ⟨_, _, _, _, e⟩ <;> rw [e]
    · exact ⟨r, rfl⟩
    · exact ⟨r, rfl⟩
    · exact ⟨i :: r, by simp⟩
  | put i x k ih =>
    intro s
    obtain ⟨r, hr⟩ := ih (s.set i x)
    rw [Pg.run_put, hr, (s.set_same i x).2.2.1]
    exact ⟨r, rfl⟩
theorem VS.whole_full (xs : List Int) : Full (VS.whole xs) where
  miss := rfl
  src := fun i h0 h1 => by
    have e1 : decide (0 ≤ i) = true := by simpa using h0
    have e2 : decide (i < (xs.length : Int)) = true := by simpa [VS.whole] using h1
    simp only [VS.whole, e1, e2, Bool.and_self, cond_true, Option.isSome_some]
  rn := List.nodup_nil
  ri := fun i h => by cases h
structure Sim (kn : Int → Bool) (s k : VS) : Prop where
  full : Full s
  n : k.n = s.n
  put : k.put = s.put
  reads : k.reads = s.reads
  wrote : k.wrote = s.wrote
  miss : k.miss = -1
  src : ∀ i : Int, 0 ≤ i → i < s.n → k.src i = bif kn i then s.src i else none
  rk : ∀ i ∈ s.reads, kn i = true
theorem Sim.there {kn : Int → Bool} {s k : VS} (h : Sim kn s k) (i : Int) : k.there i = s.there i := by
  simp only [VS.there, h.n, h.miss, h.full.miss]
theorem Sim.set {kn : Int → Bool} {s k : VS} (h : Sim kn s k) (i x : Int) : Sim kn (s.set i x) (k.set i x) := by
  obtain ⟨e1, e2, e3, e4, _⟩ := s.set_same i x
  obtain ⟨f1, f2, f3, f4, _⟩ := k.set_same i x
  exact { full := h.full.set i x
          n := by rw [e1, f1]; exact h.n
          put := by unfold VS.set; rw [h.there i, h.put]; cases s.there i <;> simp [h.put]
          reads := by rw [e3, f3]; exact h.reads
          wrote := by unfold VS.set; rw [h.there i, h.put, h.wrote]; cases s.there i <;> simp [h.wrote]
          miss := by rw [f4]; exact h.miss
          src := by rw [e1, e2, f2]; exact h.src
          rk := by rw [e3]; exact h.rk }
def Ends {α : Type} (kn : Int → Bool) (s : VS × α) (k : VS × α) : Prop :=
  (Sim kn s.1 k.1 ∧ s.2 = k.2) ∨ ∃ pre i rest, s.1.reads = pre ++ i :: rest ∧ (∀ j ∈ pre, kn j = true) ∧ kn i = false ∧ k.1.miss = i ∧ k.1.reads = pre
theorem Sim.run {α : Type} (kn : Int → Bool) (p : Pg α) : ∀ {s k : VS}, Sim kn s k → Ends kn (p.run s) (p.run k) := by
  induction p with
  | ret a => intro s k h; exact .inl ⟨h, rfl⟩
  | put i x q ih => intro s k h; exact ih (h.set i x)
  | get i q ih =>
    intro s k h
    rw [Pg.run_get, Pg.run_get]
    have step : Sim kn (s.read i) (k.read i) → s.get i = k.get i → Ends kn ((q (s.get i)).run (s.read i)) ((q (k.get i)).run (k.read i)) := fun h1 h2 => by
      rw [h2]; exact ih _ h1
    cases ht : s.there i with
    | false =>
      have hk : k.there i = false := by rw [h.there]; exact ht
      refine step ?_ ?_
      · simp only [VS.read, ht, hk, cond_false]; exact h
      · simp only [VS.get, ht, hk, cond_false]
    | true =>
      have hk : k.there i = true := by rw [h.there]; exact ht
      obtain ⟨h0, h1, _⟩ := VS.there_of ht
      cases hp : s.put i with
      | some v =>
        have hpk : k.put i = some v := by rw [h.put]; exact hp
        refine step ?_ ?_
        · simp only [VS.read, ht, hk, cond_true, hp, hpk]; exact h
        · simp only [VS.get, ht, hk, cond_true, hp, hpk]
      | none =>
        have hpk : k.put i = none := by rw [h.put]; exact hp
        have hsome := h.full.src i h0 h1
        have hsk := h.src i h0 h1
        cases hs : s.src i with
        | none => rw [hs] at hsome; cases hsome
        | some v =>
          cases hkn : kn i with
          | true =>
            have hks : k.src i = some v := by rw [hsk, hkn, hs]; rfl
            refine step ?_ ?_
            · simp only [VS.read, ht, hk, cond_true, hp, hpk, hs, hks, h.reads]
              cases hc : s.reads.contains i with
              | true => exact h
              | false =>
                exact { full := by have := h.full.read i; simpa only [VS.read, ht, cond_true, hp, hs, hc, cond_false] using this
                        n := h.n, put := h.put, reads := rfl, wrote := h.wrote, miss := h.miss, src := h.src
                        rk := fun j hj => by
                          simp only [cond_false, List.mem_append, List.mem_singleton] at hj
                          rcases hj with hj | rfl
                          · exact h.rk j hj
                          · exact hkn }
            · simp only [VS.get, ht, hk, cond_true, hp, hpk, hs, hks]
          | false =>
            have hks : k.src i = none := by rw [hsk, hkn]; rfl
            have hni : s.reads.contains i = false := by
              cases hc : s.reads.contains i with
              | false => rfl
              | true =>
                have := h.rk i (by simpa using hc)
                rw [hkn] at this; cases this
            have er : k.read i = { k with miss := i } := by simp only [VS.read, hk, cond_true, hpk, hks]
            have es : s.read i = { s with reads := s.reads ++ [i] } := by simp only [VS.read, ht, cond_true, hp, hs, hni, cond_false]
            right
            obtain ⟨r, hr⟩ := Pg.run_reads (q (s.get i)) (s.read i)
            have hst := Pg.run_stuck (q (k.get i)) (k.read i) (by rw [er]; exact h0)
            refine ⟨s.reads, i, r, ?_, h.rk, hkn, ?_, ?_⟩
            · rw [hr, es]; simp
            · rw [hst, er]
            · rw [hst, er]; exact h.reads
end Go.Sl
namespace Go.Sl
structure Mm where
  info : Int → Int
  foot : Int → Int
  next : Int → Int
  prev : Int → Int
  slots : Int → Int
  taken : Int → Int
  bin : Int → Int
  rack : Int → Int
  root : Int → Int
  dn : Int → Int → Int
  fr : Int
  lv : Int
def fset (f : Int → Int) (i x : Int) : Int → Int := fun j => if j = i then x else f j
theorem fset_same (f : Int → Int) (i x : Int) : fset f i x i = x := by simp [fset]
theorem fset_ne {f : Int → Int} {i x j : Int} (h : j ≠ i) : fset f i x j = f j := by simp [fset, h]
theorem pc_val {c : Cf} (hc : c.ok = true) {g : Int} (hg : 0 ≤ g ∧ g < c.p) (k : Int) : c.pc g k = 30 + 4 * c.t + 6 * g + k := by
  unfold Cf.pc Cf.page
  have : (decide (0 ≤ g) && decide (g < c.p)) = true := by simp [hg.1, hg.2]
  rw [hc, this]; rfl
theorem cells_val {c : Cf} (hc : c.ok = true) : c.cells = 30 + 4 * c.t + 6 * c.p := by unfold Cf.cells; rw [hc]; rfl
theorem cBin_val {k : Int} (hk : 0 ≤ k ∧ k < 11) : cBin k = 2 + k := by
  unfold cBin
  have : (decide (0 ≤ k) && decide (k < 11)) = true := by simp [hk.1, hk.2]
  rw [this]; rfl
theorem cRack_val {k : Int} (hk : 0 ≤ k ∧ k < 9) : cRack k = 13 + k := by
  unfold cRack
  have : (decide (0 ≤ k) && decide (k < 9)) = true := by simp [hk.1, hk.2]
  rw [this]; rfl
structure At (c : Cf) (s : VS) (m : Mm) : Prop where
  ok : c.ok = true
  full : Full s
  n : s.n = c.cells
  info : ∀ g, 0 ≤ g ∧ g < c.p → s.cur (30 + 4 * c.t + 6 * g + 0) = m.info g
  foot : ∀ g, 0 ≤ g ∧ g < c.p → s.cur (30 + 4 * c.t + 6 * g + 1) = m.foot g
  next : ∀ g, 0 ≤ g ∧ g < c.p → s.cur (30 + 4 * c.t + 6 * g + 2) = m.next g
  prev : ∀ g, 0 ≤ g ∧ g < c.p → s.cur (30 + 4 * c.t + 6 * g + 3) = m.prev g
  slots : ∀ g, 0 ≤ g ∧ g < c.p → s.cur (30 + 4 * c.t + 6 * g + 4) = m.slots g
  taken : ∀ g, 0 ≤ g ∧ g < c.p → s.cur (30 + 4 * c.t + 6 * g + 5) = m.taken g
  bin : ∀ k, 0 ≤ k ∧ k < 11 → s.cur (2 + k) = m.bin k
  rack : ∀ k, 0 ≤ k ∧ k < 9 → s.cur (13 + k) = m.rack k
  root : ∀ k, 0 ≤ k ∧ k < 8 → s.cur (22 + k) = m.root k
  dn : ∀ t f, 0 ≤ t ∧ t < c.t → 0 ≤ f ∧ f < 4 → s.cur (30 + 4 * t + f) = m.dn t f
  fr : s.cur 0 = m.fr
  lv : s.cur 1 = m.lv
theorem cur_read (s : VS) (i j : Int) : (s.read i).cur j = s.cur j := by
  obtain ⟨_, e1, e2, _, _⟩ := s.read_same i
  unfold VS.cur
  rw [e1, e2]
theorem cur_set {s : VS} {i : Int} (h : s.there i = true) (x j : Int) : (s.set i x).cur j = if j = i then nv x else s.cur j := by
  unfold VS.set
  rw [h, cond_true]
  unfold VS.cur
  by_cases e : j = i
  · subst e; simp [mupd]
  · have e' : (j == i) = false := by simpa using e
    simp [mupd, e, e']
theorem get_cur {s : VS} {i : Int} (h : s.there i = true) : s.get i = s.cur i := by
  unfold VS.get VS.cur
  rw [h, cond_true]
section
variable {c : Cf} {s : VS} {m : Mm}
theorem At.there (h : At c s m) {i : Int} (h0 : 0 ≤ i) (h1 : i < c.cells) : s.there i = true := by
  have := h.full.miss
  have := h.n
  simp only [VS.there, Bool.and_eq_true, decide_eq_true_eq]
  omega
theorem At.read (h : At c s m) (i : Int) : At c (s.read i) m := by
  have e := cur_read s i
  exact { ok := h.ok, full := h.full.read i, n := (s.read_same i).1.trans h.n, info := fun g hg => (e _).trans (h.info g hg), foot := fun g hg => (e _).trans (h.foot g hg), next := fun g hg => (e _).trans (h.next g hg), prev := fun g hg => (e _).trans (h.prev g hg), slots := fun g hg => (e _).trans (h.slots g hg), taken := fun g hg => (e _).trans (h.taken g hg), bin := fun k hk => (e _).trans (h.bin k hk), rack := fun k hk => (e _).trans (h.rack k hk), root := fun k hk => (e _).trans (h.root k hk), dn := fun t f ht hf => (e _).trans (h.dn t f ht hf), fr := (e _).trans h.fr, lv := (e _).trans h.lv }
theorem At.set_info (h : At c s m) {g : Int} (hg : 0 ≤ g ∧ g < c.p) (x : Int) : At c (s.set (c.info g) x) { m with info := fset m.info g (nv x) } := by
  have ha : c.info g = 30 + 4 * c.t + 6 * g + 0 := pc_val h.ok hg 0
  have h1 := Cf.ok_iff.1 h.ok
  have h2 := cells_val h.ok
  have ht : s.there (c.info g) = true := h.there (by omega) (by omega)
  refine ⟨h.ok, h.full.set _ _, (s.set_same _ _).1.trans h.n, ?_, ?_, ?_, ?_, ?_, ?_, ?_, ?_, ?_, ?_, ?_, ?_⟩
  · intro g' hg'; rw [cur_set ht]; by_cases e : g' = g
    · subst e; rw [if_pos (by omega)]; exact (fset_same _ _ _).symm
    · rw [if_neg (by omega), h.info g' hg']; exact (fset_ne e).symm
  · intro g' hg'; rw [cur_set ht, if_neg (by omega)]; exact h.foot g' hg'
  · intro g' hg'; rw [cur_set ht, if_neg (by omega)]; exact h.next g' hg'
  · intro g' hg'; rw [cur_set ht, if_neg (by omega)]; exact h.prev g' hg'
  · intro g' hg'; rw [cur_set ht, if_neg (by omega)]; exact h.slots g' hg'
  · intro g' hg'; rw [cur_set ht, if_neg (by omega)]; exact h.taken g' hg'
  · intro g' hg'; rw [cur_set ht, if_neg (by omega)]; exact h.bin g' hg'
  · intro g' hg'; rw [cur_set ht, if_neg (by omega)]; exact h.rack g' hg'
  · intro g' hg'; rw [cur_set ht, if_neg (by omega)]; exact h.root g' hg'
  · intro t' f' ht' hf'; rw [cur_set ht, if_neg (by omega)]; exact h.dn t' f' ht' hf'
  · rw [cur_set ht, if_neg (by omega)]; exact h.fr
  · rw [cur_set ht, if_neg (by omega)]; exact h.lv
theorem At.get_info (h : At c s m) {g : Int} (hg : 0 ≤ g ∧ g < c.p) : s.get (c.info g) = m.info g := by
  have ha : c.info g = 30 + 4 * c.t + 6 * g + 0 := pc_val h.ok hg 0
  have h1 := Cf.ok_iff.1 h.ok
  have h2 := cells_val h.ok
  have ht : s.there (c.info g) = true := h.there (by omega) (by omega)
  rw [get_cur ht, ha]; exact h.info g hg
theorem At.set_foot (h : At c s m) {g : Int} (hg : 0 ≤ g ∧ g < c.p) (x : Int) : At c (s.set (c.foot g) x) { m with foot := fset m.foot g (nv x) } := by
  have ha : c.foot g = 30 + 4 * c.t + 6 * g + 1 := pc_val h.ok hg 1
  have h1 := Cf.ok_iff.1 h.ok
  have h2 := cells_val h.ok
  have ht : s.there (c.foot g) = true := h.there (by omega) (by omega)
  refine ⟨h.ok, h.full.set _ _, (s.set_same _ _).1.trans h.n, ?_, ?_, ?_, ?_, ?_, ?_, ?_, ?_, ?_, ?_, ?_, ?_⟩
  · intro g' hg'; rw [cur_set ht, if_neg (by omega)]; exact h.info g' hg'
  · intro g' hg'; rw [cur_set ht]; by_cases e : g' = g
    · subst e; rw [if_pos (by omega)]; exact (fset_same _ _ _).symm
    · rw [if_neg (by omega), h.foot g' hg']; exact (fset_ne e).symm
  · intro g' hg'; rw [cur_set ht, if_neg (by omega)]; exact h.next g' hg'
  · intro g' hg'; rw [cur_set ht, if_neg (by omega)]; exact h.prev g' hg'
  · intro g' hg'; rw [cur_set ht, if_neg (by omega)]; exact h.slots g' hg'
  · intro g' hg'; rw [cur_set ht, if_neg (by omega)]; exact h.taken g' hg'
  · intro g' hg'; rw [cur_set ht, if_neg (by omega)]; exact h.bin g' hg'
  · intro g' hg'; rw [cur_set ht, if_neg (by omega)]; exact h.rack g' hg'
  · intro g' hg'; rw [cur_set ht, if_neg (by omega)]; exact h.root g' hg'
  · intro t' f' ht' hf'; rw [cur_set ht, if_neg (by omega)]; exact h.dn t' f' ht' hf'
  · rw [cur_set ht, if_neg (by omega)]; exact h.fr
  · rw [cur_set ht, if_neg (by omega)]; exact h.lv
theorem At.get_foot (h : At c s m) {g : Int} (hg : 0 ≤ g ∧ g < c.p) : s.get (c.foot g) = m.foot g := by
  have ha : c.foot g = 30 + 4 * c.t + 6 * g + 1 := pc_val h.ok hg 1
  have h1 := Cf.ok_iff.1 h.ok
  have h2 := cells_val h.ok
  have ht : s.there (c.foot g) = true := h.there (by omega) (by omega)
  rw [get_cur ht, ha]; exact h.foot g hg
theorem At.set_next (h : At c s m) {g : Int} (hg : 0 ≤ g ∧ g < c.p) (x : Int) : At c (s.set (c.next g) x) { m with next := fset m.next g (nv x) } := by
  have ha : c.next g = 30 + 4 * c.t + 6 * g + 2 := pc_val h.ok hg 2
  have h1 := Cf.ok_iff.1 h.ok
  have h2 := cells_val h.ok
  have ht : s.there (c.next g) = true := h.there (by omega) (by omega)
  refine ⟨h.ok, h.full.set _ _, (s.set_same _ _).1.trans h.n, ?_, ?_, ?_, ?_, ?_, ?_, ?_, ?_, ?_, ?_, ?_, ?_⟩
  · intro g' hg'; rw [cur_set ht, if_neg (by omega)]; exact h.info g' hg'
  · intro g' hg'; rw [cur_set ht, if_neg (by omega)]; exact h.foot g' hg'
  · intro g' hg'; rw [cur_set ht]; by_cases e : g' = g
    · subst e; rw [if_pos (by omega)]; exact (fset_same _ _ _).symm
    · rw [if_neg (by omega), h.next g' hg']; exact (fset_ne e).symm
  · intro g' hg'; rw [cur_set ht, if_neg (by omega)]; exact h.prev g' hg'
  · intro g' hg'; rw [cur_set ht, if_neg (by omega)]; exact h.slots g' hg'
  · intro g' hg'; rw [cur_set ht, if_neg (by omega)]; exact h.taken g' hg'
  · intro g' hg'; rw [cur_set ht, if_neg (by omega)]; exact h.bin g' hg'
  · intro g' hg'; rw [cur_set ht, if_neg (by omega)]; exact h.rack g' hg'
  · intro g' hg'; rw [cur_set ht, if_neg (by omega)]; exact h.root g' hg'
  · intro t' f' ht' hf'; rw [cur_set ht, if_neg (by omega)]; exact h.dn t' f' ht' hf'
  · rw [cur_set ht, if_neg (by omega)]; exact h.fr
  · rw [cur_set ht, if_neg (by omega)]; exact h.lv
theorem At.get_next (h : At c s m) {g : Int} (hg : 0 ≤ g ∧ g < c.p) : s.get (c.next g) = m.next g := by
  have ha : c.next g = 30 + 4 * c.t + 6 * g + 2 := pc_val h.ok hg 2
  have h1 := Cf.ok_iff.1 h.ok
  have h2 := cells_val h.ok
  have ht : s.there (c.next g) = true := h.there (by omega) (by omega)
  rw [get_cur ht, ha]; exact h.next g hg
theorem At.set_prev (h : At c s m) {g : Int} (hg : 0 ≤ g ∧ g < c.p) (x : Int) : At c (s.set (c.prev g) x) { m with prev := fset m.prev g (nv x) } := by
  have ha : c.prev g = 30 + 4 * c.t + 6 * g + 3 := pc_val h.ok hg 3
  have h1 := Cf.ok_iff.1 h.ok
  have h2 := cells_val h.ok
  have ht : s.there (c.prev g) = true := h.there (by omega) (by omega)
  refine ⟨h.ok, h.full.set _ _, (s.set_same _ _).1.trans h.n, ?_, ?_, ?_, ?_, ?_, ?_, ?_, ?_, ?_, ?_, ?_, ?_⟩
  · intro g' hg'; rw [cur_set ht, if_neg (by omega)]; exact h.info g' hg'
  · intro g' hg'; rw [cur_set ht, if_neg (by omega)]; exact h.foot g' hg'
  · intro g' hg'; rw [cur_set ht, if_neg (by omega)]; exact h.next g' hg'
  · intro g' hg'; rw [cur_set ht]; by_cases e : g' = g
    · subst e; rw [if_pos (by omega)]; exact (fset_same _ _ _).symm
    · rw [if_neg (by omega), h.prev g' hg']; exact (fset_ne e).symm
  · intro g' hg'; rw [cur_set ht, if_neg (by omega)]; exact h.slots g' hg'
  · intro g' hg'; rw [cur_set ht, if_neg (by omega)]; exact h.taken g' hg'
  · intro g' hg'; rw [cur_set ht, if_neg (by omega)]; exact h.bin g' hg'
  · intro g' hg'; rw [cur_set ht, if_neg (by omega)]; exact h.rack g' hg'
  · intro g' hg'; rw [cur_set ht, if_neg (by omega)]; exact h.root g' hg'
  · intro t' f' ht' hf'; rw [cur_set ht, if_neg (by omega)]; exact h.dn t' f' ht' hf'
  · rw [cur_set ht, if_neg (by omega)]; exact h.fr
  · rw [cur_set ht, if_neg (by omega)]; exact h.lv
theorem At.get_prev (h : At c s m) {g : Int} (hg : 0 ≤ g ∧ g < c.p) : s.get (c.prev g) = m.prev g := by
  have ha : c.prev g = 30 + 4 * c.t + 6 * g + 3 := pc_val h.ok hg 3
  have h1 := Cf.ok_iff.1 h.ok
  have h2 := cells_val h.ok
  have ht : s.there (c.prev g) = true := h.there (by omega) (by omega)
  rw [get_cur ht, ha]; exact h.prev g hg
theorem At.get_slots (h : At c s m) {g : Int} (hg : 0 ≤ g ∧ g < c.p) : s.get (c.slots g) = m.slots g := by
  have ha : c.slots g = 30 + 4 * c.t + 6 * g + 4 := pc_val h.ok hg 4
  have h1 := Cf.ok_iff.1 h.ok
  have h2 := cells_val h.ok
  have ht : s.there (c.slots g) = true := h.there (by omega) (by omega)
  rw [get_cur ht, ha]; exact h.slots g hg
theorem At.set_taken (h : At c s m) {g : Int} (hg : 0 ≤ g ∧ g < c.p) (x : Int) : At c (s.set (c.taken g) x) { m with taken := fset m.taken g (nv x) } := by
  have ha : c.taken g = 30 + 4 * c.t + 6 * g + 5 := pc_val h.ok hg 5
  have h1 := Cf.ok_iff.1 h.ok
  have h2 := cells_val h.ok
  have ht : s.there (c.taken g) = true := h.there (by omega) (by omega)
  refine ⟨h.ok, h.full.set _ _, (s.set_same _ _).1.trans h.n, ?_, ?_, ?_, ?_, ?_, ?_, ?_, ?_, ?_, ?_, ?_, ?_⟩
  · intro g' hg'; rw [cur_set ht, if_neg (by omega)]; exact h.info g' hg'
  · intro g' hg'; rw [cur_set ht, if_neg (by omega)]; exact h.foot g' hg'
  · intro g' hg'; rw [cur_set ht, if_neg (by omega)]; exact h.next g' hg'
  · intro g' hg'; rw [cur_set ht, if_neg (by omega)]; exact h.prev g' hg'
  · intro g' hg'; rw [cur_set ht, if_neg (by omega)]; exact h.slots g' hg'
  · intro g' hg'; rw [cur_set ht]; by_cases e : g' = g
    · subst e; rw [if_pos (by omega)]; exact (fset_same _ _ _).symm
    · rw [if_neg (by omega), h.taken g' hg']; exact (fset_ne e).symm
  · intro g' hg'; rw [cur_set ht, if_neg (by omega)]; exact h.bin g' hg'
  · intro g' hg'; rw [cur_set ht, if_neg (by omega)]; exact h.rack g' hg'
  · intro g' hg'; rw [cur_set ht, if_neg (by omega)]; exact h.root g' hg'
  · intro t' f' ht' hf'; rw [cur_set ht, if_neg (by omega)]; exact h.dn t' f' ht' hf'
  · rw [cur_set ht, if_neg (by omega)]; exact h.fr
  · rw [cur_set ht, if_neg (by omega)]; exact h.lv
theorem At.get_taken (h : At c s m) {g : Int} (hg : 0 ≤ g ∧ g < c.p) : s.get (c.taken g) = m.taken g := by
  have ha : c.taken g = 30 + 4 * c.t + 6 * g + 5 := pc_val h.ok hg 5
  have h1 := Cf.ok_iff.1 h.ok
  have h2 := cells_val h.ok
  have ht : s.there (c.taken g) = true := h.there (by omega) (by omega)
  rw [get_cur ht, ha]; exact h.taken g hg
theorem At.set_bin (h : At c s m) {k : Int} (hg : 0 ≤ k ∧ k < 11) (x : Int) : At c (s.set (cBin k) x) { m with bin := fset m.bin k (nv x) } := by
  have ha : cBin k = 2 + k := cBin_val hg
  have h1 := Cf.ok_iff.1 h.ok
  have h2 := cells_val h.ok
  have ht : s.there (cBin k) = true := h.there (by omega) (by omega)
  refine ⟨h.ok, h.full.set _ _, (s.set_same _ _).1.trans h.n, ?_, ?_, ?_, ?_, ?_, ?_, ?_, ?_, ?_, ?_, ?_, ?_⟩
  · intro g' hg'; rw [cur_set ht, if_neg (by omega)]; exact h.info g' hg'
  · intro g' hg'; rw [cur_set ht, if_neg (by omega)]; exact h.foot g' hg'
  · intro g' hg'; rw [cur_set ht, if_neg (by omega)]; exact h.next g' hg'
  · intro g' hg'; rw [cur_set ht, if_neg (by omega)]; exact h.prev g' hg'
  · intro g' hg'; rw [cur_set ht, if_neg (by omega)]; exact h.slots g' hg'
  · intro g' hg'; rw [cur_set ht, if_neg (by omega)]; exact h.taken g' hg'
  · intro g' hg'; rw [cur_set ht]; by_cases e : g' = k
    · subst e; rw [if_pos (by omega)]; exact (fset_same _ _ _).symm
    · rw [if_neg (by omega), h.bin g' hg']; exact (fset_ne e).symm
  · intro g' hg'; rw [cur_set ht, if_neg (by omega)]; exact h.rack g' hg'
  · intro g' hg'; rw [cur_set ht, if_neg (by omega)]; exact h.root g' hg'
  · intro t' f' ht' hf'; rw [cur_set ht, if_neg (by omega)]; exact h.dn t' f' ht' hf'
  · rw [cur_set ht, if_neg (by omega)]; exact h.fr
  · rw [cur_set ht, if_neg (by omega)]; exact h.lv
theorem At.get_bin (h : At c s m) {k : Int} (hg : 0 ≤ k ∧ k < 11) : s.get (cBin k) = m.bin k := by
  have ha : cBin k = 2 + k := cBin_val hg
  have h1 := Cf.ok_iff.1 h.ok
  have h2 := cells_val h.ok
  have ht : s.there (cBin k) = true := h.there (by omega) (by omega)
  rw [get_cur ht, ha]; exact h.bin k hg
theorem At.set_rack (h : At c s m) {k : Int} (hg : 0 ≤ k ∧ k < 9) (x : Int) : At c (s.set (cRack k) x) { m with rack := fset m.rack k (nv x) } := by
  have ha : cRack k = 13 + k := cRack_val hg
  have h1 := Cf.ok_iff.1 h.ok
  have h2 := cells_val h.ok
  have ht : s.there (cRack k) = true := h.there (by omega) (by omega)
  refine ⟨h.ok, h.full.set _ _, (s.set_same _ _).1.trans h.n, ?_, ?_, ?_, ?_, ?_, ?_, ?_, ?_, ?_, ?_, ?_, ?_⟩
  · intro g' hg'; rw [cur_set ht, if_neg (by omega)]; exact h.info g' hg'
  · intro g' hg'; rw [cur_set ht, if_neg (by omega)]; exact h.foot g' hg'
  · intro g' hg'; rw [cur_set ht, if_neg (by omega)]; exact h.next g' hg'
  · intro g' hg'; rw [cur_set ht, if_neg (by omega)]; exact h.prev g' hg'
  · intro g' hg'; rw [cur_set ht, if_neg (by omega)]; exact h.slots g' hg'
  · intro g' hg'; rw [cur_set ht, if_neg (by omega)]; exact h.taken g' hg'
  · intro g' hg'; rw [cur_set ht, if_neg (by omega)]; exact h.bin g' hg'
  · intro g' hg'; rw [cur_set ht]; by_cases e : g' = k
    · subst e; rw [if_pos (by omega)]; exact (fset_same _ _ _).symm
    · rw [if_neg (by omega), h.rack g' hg']; exact (fset_ne e).symm
  · intro g' hg'; rw [cur_set ht, if_neg (by omega)]; exact h.root g' hg'
  · intro t' f' ht' hf'; rw [cur_set ht, if_neg (by omega)]; exact h.dn t' f' ht' hf'
  · rw [cur_set ht, if_neg (by omega)]; exact h.fr
  · rw [cur_set ht, if_neg (by omega)]; exact h.lv
theorem At.get_rack (h : At c s m) {k : Int} (hg : 0 ≤ k ∧ k < 9) : s.get (cRack k) = m.rack k := by
  have ha : cRack k = 13 + k := cRack_val hg
  have h1 := Cf.ok_iff.1 h.ok
  have h2 := cells_val h.ok
  have ht : s.there (cRack k) = true := h.there (by omega) (by omega)
  rw [get_cur ht, ha]; exact h.rack k hg
theorem At.set_fr (h : At c s m)  (x : Int) : At c (s.set (0) x) { m with fr := nv x } := by
  have ha : (0 : Int) = 0 := rfl
  have h1 := Cf.ok_iff.1 h.ok
  have h2 := cells_val h.ok
  have ht : s.there (0) = true := h.there (by omega) (by omega)
  refine ⟨h.ok, h.full.set _ _, (s.set_same _ _).1.trans h.n, ?_, ?_, ?_, ?_, ?_, ?_, ?_, ?_, ?_, ?_, ?_, ?_⟩
  · intro g' hg'; rw [cur_set ht, if_neg (by omega)]; exact h.info g' hg'
  · intro g' hg'; rw [cur_set ht, if_neg (by omega)]; exact h.foot g' hg'
  · intro g' hg'; rw [cur_set ht, if_neg (by omega)]; exact h.next g' hg'
  · intro g' hg'; rw [cur_set ht, if_neg (by omega)]; exact h.prev g' hg'
  · intro g' hg'; rw [cur_set ht, if_neg (by omega)]; exact h.slots g' hg'
  · intro g' hg'; rw [cur_set ht, if_neg (by omega)]; exact h.taken g' hg'
  · intro g' hg'; rw [cur_set ht, if_neg (by omega)]; exact h.bin g' hg'
  · intro g' hg'; rw [cur_set ht, if_neg (by omega)]; exact h.rack g' hg'
  · intro g' hg'; rw [cur_set ht, if_neg (by omega)]; exact h.root g' hg'
  · intro t' f' ht' hf'; rw [cur_set ht, if_neg (by omega)]; exact h.dn t' f' ht' hf'
  · rw [cur_set ht, if_pos rfl]
  · rw [cur_set ht, if_neg (by omega)]; exact h.lv
theorem At.get_fr (h : At c s m)  : s.get (0) = m.fr := by
  have ha : (0 : Int) = 0 := rfl
  have h1 := Cf.ok_iff.1 h.ok
  have h2 := cells_val h.ok
  have ht : s.there (0) = true := h.there (by omega) (by omega)
  rw [get_cur ht]; exact h.fr
end
end Go.Sl
namespace Go.Sl
def Mm.of (c : Cf) (xs : List Int) : Mm :=
  { info := fun g => cel xs (c.info g), foot := fun g => cel xs (c.foot g), next := fun g => cel xs (c.next g), prev := fun g => cel xs (c.prev g), slots := fun g => cel xs (c.slots g), taken := fun g => cel xs (c.taken g),
    bin := fun k => cel xs (cBin k), rack := fun k => cel xs (cRack k), root := fun k => cel xs (cRoot k), dn := fun t f => cel xs (c.done t f), fr := cel xs 0, lv := cel xs 1 }
structure Sp where
  k : Int
  l : Int
  c : Int
structure Spn (m : Mm) (a : Int) (x : Sp) : Prop where
  l1 : 1 ≤ x.l
  rt : iRight x.k x.l x.c = true
  k0 : x.k ≠ 0
  inf : iGet (m.info a) = ⟨x.k, x.l, x.c⟩
  iok : infoOk (m.info a) = true
  in0 : ∀ q, a < q → q < a + x.l → m.info q = 0
  ft0 : ∀ q, a ≤ q → q < a + x.l - 1 → m.foot q = 0
  ft : m.foot (a + x.l - 1) = nv (a + 1)
def Tl (m : Mm) : Int → List Sp → Int → Prop
  | a, [], b => a = b
  | a, x :: L, b => Spn m a x ∧ Tl m (a + x.l) L b
def begs : Int → List Sp → List Int
  | _, [] => []
  | a, x :: L => a :: begs (a + x.l) L
theorem Tl.app {m : Mm} : ∀ {L1 L2 : List Sp} {a b : Int}, Tl m a (L1 ++ L2) b ↔ ∃ d, Tl m a L1 d ∧ Tl m d L2 b
  | [], L2, a, b => ⟨fun h => ⟨a, rfl, h⟩, fun ⟨d, h1, h2⟩ => by have h1 : a = d := h1; subst h1; exact h2⟩
  | x :: L1, L2, a, b => by
    constructor
    · rintro ⟨h1, h2⟩
      obtain ⟨d, h3, h4⟩ := Tl.app.1 h2
      exact ⟨d, ⟨h1, h3⟩, h4⟩
    · rintro ⟨d, ⟨h1, h3⟩, h4⟩
      exact ⟨h1, Tl.app.2 ⟨d, h3, h4⟩⟩
theorem Tl.le {m : Mm} : ∀ {L : List Sp} {a b : Int}, Tl m a L b → a ≤ b
  | [], a, b, h => by have h : a = b := h; omega
  | x :: L, a, b, h => by have := h.1.l1; have := Tl.le h.2; omega
theorem Spn.of_eq {m m' : Mm} {a : Int} {x : Sp} (h : Spn m a x) (h1 : ∀ q, a ≤ q → q < a + x.l → m'.info q = m.info q) (h2 : ∀ q, a ≤ q → q < a + x.l → m'.foot q = m.foot q) : Spn m' a x := by
  have hl := h.l1
  exact { l1 := hl, rt := h.rt, k0 := h.k0, inf := by rw [h1 a (by omega) (by omega)]; exact h.inf, iok := by rw [h1 a (by omega) (by omega)]; exact h.iok, in0 := fun q a b => by rw [h1 q (by omega) b]; exact h.in0 q a b, ft0 := fun q a b => by rw [h2 q a (by omega)]; exact h.ft0 q a b, ft := by rw [h2 _ (by omega) (by omega)]; exact h.ft }
theorem Tl.of_eq {m m' : Mm} : ∀ {L : List Sp} {a b : Int}, Tl m a L b → (∀ q, a ≤ q → q < b → m'.info q = m.info q) → (∀ q, a ≤ q → q < b → m'.foot q = m.foot q) → Tl m' a L b
  | [], _, _, h, _, _ => h
  | x :: L, a, b, h, h1, h2 => by
    have := h.1.l1
    have := Tl.le h.2
    exact ⟨h.1.of_eq (fun q a b => h1 q a (by omega)) (fun q a b => h2 q a (by omega)), Tl.of_eq h.2 (fun q a b => h1 q (by omega) b) fun q a b => h2 q (by omega) b⟩
end Go.Sl
namespace Go.Sl
inductive Hq where
  | bin (k : Int)
  | rack (k : Int)
deriving DecidableEq
def Mm.hd (m : Mm) : Hq → Int
  | .bin k => m.bin k
  | .rack k => m.rack k
def Mm.setHd (m : Mm) (h : Hq) (x : Int) : Mm :=
  match h with
  | .bin k => { m with bin := fset m.bin k x }
  | .rack k => { m with rack := fset m.rack k x }
def Sg' (m : Mm) (p : Int) : Int → Int → List Int → Int → Int → Prop
  | q, b, [], q', b' => q = q' ∧ b = b'
  | q, b, g :: r, q', b' => q = g + 1 ∧ (0 ≤ g ∧ g < p) ∧ m.prev g = b ∧ Sg' m p (m.next g) q r q' b'
theorem Sg'.app {m : Mm} {p : Int} : ∀ {l1 l2 : List Int} {q b q' b' : Int}, Sg' m p q b (l1 ++ l2) q' b' ↔ ∃ q1 b1, Sg' m p q b l1 q1 b1 ∧ Sg' m p q1 b1 l2 q' b'
  | [], l2, q, b, q', b' => ⟨fun h => ⟨q, b, ⟨rfl, rfl⟩, h⟩, fun ⟨q1, b1, ⟨h1, h2⟩, h3⟩ => by subst h1; subst h2; exact h3⟩
  | g :: l1, l2, q, b, q', b' => by
    constructor
    · rintro ⟨h1, h2, h3, h4⟩
      obtain ⟨q1, b1, h5, h6⟩ := Sg'.app.1 h4
      exact ⟨q1, b1, ⟨h1, h2, h3, h5⟩, h6⟩
    · rintro ⟨q1, b1, ⟨h1, h2, h3, h5⟩, h6⟩
      exact ⟨h1, h2, h3, Sg'.app.2 ⟨q1, b1, h5, h6⟩⟩
theorem Sg'.of_eq {m m' : Mm} {p : Int} : ∀ {l : List Int} {q b q' b' : Int}, Sg' m p q b l q' b' → (∀ g ∈ l, m'.next g = m.next g) → (∀ g ∈ l, m'.prev g = m.prev g) → Sg' m' p q b l q' b'
  | [], _, _, _, _, h, _, _ => h
  | g :: l, q, b, q', b', ⟨h1, h2, h3, h4⟩, hn, hp => by
    refine ⟨h1, h2, (hp g (by simp)).trans h3, ?_⟩
    rw [hn g (by simp)]
    exact Sg'.of_eq h4 (fun x hx => hn x (by simp [hx])) fun x hx => hp x (by simp [hx])
abbrev DL (m : Mm) (p : Int) (h : Hq) (l : List Int) : Prop := ∃ b', Sg' m p (m.hd h) 0 l 0 b'
def mPush (m : Mm) (h : Hq) (g : Int) : Mm :=
  let q := m.hd h
  { m with next := fset m.next g q, prev := bif q == 0 then fset m.prev g 0 else fset (fset m.prev g 0) (q - 1) (g + 1) }.setHd h (g + 1)
def mPull (m : Mm) (h : Hq) (g : Int) : Mm :=
  let n := m.next g
  let b := m.prev g
  let m1 := bif b == 0 then m.setHd h n else { m with next := fset m.next (b - 1) n }
  let m2 := bif n == 0 then m1 else { m1 with prev := fset m1.prev (n - 1) b }
  { m2 with next := fset m2.next g 0, prev := fset m2.prev g 0 }
def Hq.ok : Hq → Prop
  | .bin k => 0 ≤ k ∧ k < 11
  | .rack k => 0 ≤ k ∧ k < 9
def Hq.ad : Hq → Int
  | .bin k => cBin k
  | .rack k => cRack k
theorem nv0 : nv 0 = 0 := rfl
theorem cur_bd (s : VS) (i : Int) : 0 ≤ s.cur i ∧ s.cur i < 4294967296 := by
  unfold VS.cur
  split
  · exact nv_bd _
  · split
    · exact nv_bd _
    · exact ⟨by decide, by decide⟩
section
variable {c : Cf} {s : VS} {m : Mm}
theorem At.next_bd (h : At c s m) {g : Int} (hg : 0 ≤ g ∧ g < c.p) : 0 ≤ m.next g ∧ m.next g < 4294967296 := by rw [← h.next g hg]; exact cur_bd _ _
theorem At.prev_bd (h : At c s m) {g : Int} (hg : 0 ≤ g ∧ g < c.p) : 0 ≤ m.prev g ∧ m.prev g < 4294967296 := by rw [← h.prev g hg]; exact cur_bd _ _
theorem At.hd_bd (h : At c s m) {q : Hq} (hq : q.ok) : 0 ≤ m.hd q ∧ m.hd q < 4294967296 := by
  cases q with
  | bin k => show 0 ≤ m.bin k ∧ m.bin k < 4294967296; rw [← h.bin k hq]; exact cur_bd _ _
  | rack k => show 0 ≤ m.rack k ∧ m.rack k < 4294967296; rw [← h.rack k hq]; exact cur_bd _ _
theorem At.get_hd (h : At c s m) {q : Hq} (hq : q.ok) : s.get q.ad = m.hd q := by
  cases q with
  | bin k => exact h.get_bin hq
  | rack k => exact h.get_rack hq
theorem At.set_hd (h : At c s m) {q : Hq} (hq : q.ok) (x : Int) : At c (s.set q.ad x) (m.setHd q (nv x)) := by
  cases q with
  | bin k => exact h.set_bin hq x
  | rack k => exact h.set_rack hq x
theorem Cf.page_iff {c : Cf} {g : Int} : c.page g = true ↔ 0 ≤ g ∧ g < c.p := by simp [Cf.page]
theorem push_at (h : At c s m) {q : Hq} (hq : q.ok) {g : Int} (hg : 0 ≤ g ∧ g < c.p) (hh : m.hd q = 0 ∨ (0 ≤ m.hd q - 1 ∧ m.hd q - 1 < c.p)) : At c ((pPush c q.ad g).run s).1 (mPush m q g) := by
  have hp := Cf.ok_iff.1 h.ok
  have hb := h.hd_bd hq
  have e1 : nv (g + 1) = g + 1 := nv_id (by omega)
  have e2 : nv (m.hd q) = m.hd q := nv_id hb
  unfold pPush
  rw [Cf.page_iff.2 hg, cond_true]
  simp only [Pg.run_get, Pg.run_put, Pg.run_bind]
  rw [h.get_hd hq]
  have h1 := ((h.read q.ad).set_next hg (m.hd q)).set_prev hg 0
  rw [e2, nv0] at h1
  unfold mPush
  dsimp only
  cases hz : m.hd q == 0 with
  | true =>
    simp only [cond_true, Pg.run_ret]
    have h2 := h1.set_hd hq (nv (g + 1))
    rw [show nv (nv (g + 1)) = g + 1 by rw [e1, e1]] at h2
    exact h2
  | false =>
    simp only [cond_false, Pg.run_put, Pg.run_ret]
    have hz' : m.hd q ≠ 0 := by simpa using hz
    have hv : 0 ≤ m.hd q - 1 ∧ m.hd q - 1 < c.p := by omega
    have h2 := (h1.set_prev hv (nv (g + 1))).set_hd hq (nv (g + 1))
    rw [show nv (nv (g + 1)) = g + 1 by rw [e1, e1]] at h2
    exact h2
theorem pull_at (h : At c s m) {q : Hq} (hq : q.ok) {g : Int} (hg : 0 ≤ g ∧ g < c.p) (hn : m.next g = 0 ∨ (0 ≤ m.next g - 1 ∧ m.next g - 1 < c.p)) (hb : m.prev g = 0 ∨ (0 ≤ m.prev g - 1 ∧ m.prev g - 1 < c.p)) : At c ((pPull c q.ad g).run s).1 (mPull m q g) := by
  have e1 : nv (m.next g) = m.next g := nv_id (h.next_bd hg)
  have e2 : nv (m.prev g) = m.prev g := nv_id (h.prev_bd hg)
  unfold pPull
  rw [Cf.page_iff.2 hg, cond_true]
  simp only [Pg.run_get, Pg.run_put, Pg.run_bind]
  have h0 := h.read (c.next g)
  rw [h.get_next hg, h0.get_prev hg]
  have h1 := h0.read (c.prev g)
  have key : ∀ (s1 : VS) (m1 : Mm), At c s1 m1 → At c (((((bif m.next g == 0 then Pg.ret () else Pg.put (c.prev (m.next g - 1)) (m.prev g) (.ret ())).run s1).1.set (c.next g) 0).set (c.prev g) 0)) (let m2 := bif m.next g == 0 then m1 else { m1 with prev := fset m1.prev (m.next g - 1) (m.prev g) }; { m2 with next := fset m2.next g 0, prev := fset m2.prev g 0 }) := by
    intro s1 m1 h2
    cases hz : m.next g == 0 with
    | true =>
      have h3 := (h2.set_next hg 0).set_prev hg 0
      rw [nv0] at h3
      exact h3
    | false =>
      have hz' : m.next g ≠ 0 := by simpa using hz
      have h3 := ((h2.set_prev (show 0 ≤ m.next g - 1 ∧ m.next g - 1 < c.p by omega) (m.prev g)).set_next hg 0).set_prev hg 0
      rw [e2, nv0] at h3
      exact h3
  unfold mPull
  dsimp only at key ⊢
  cases hz : m.prev g == 0 with
  | true =>
    have h2 := h1.set_hd hq (m.next g)
    rw [e1] at h2
    exact key _ _ h2
  | false =>
    have hz' : m.prev g ≠ 0 := by simpa using hz
    have h2 := h1.set_next (show 0 ≤ m.prev g - 1 ∧ m.prev g - 1 < c.p by omega) (m.next g)
    rw [e1] at h2
    exact key _ _ h2
end
end Go.Sl
namespace Go.Sl
section
variable (m : Mm) (h : Hq) (x : Int)
theorem setHd_next : (m.setHd h x).next = m.next := by cases h <;> rfl
theorem setHd_prev : (m.setHd h x).prev = m.prev := by cases h <;> rfl
theorem setHd_hd (h' : Hq) : (m.setHd h x).hd h' = if h' = h then x else m.hd h' := by
  cases h <;> cases h' <;> simp [Mm.setHd, Mm.hd, fset]
end
section
variable {m : Mm} {p : Int} {q : Hq} {g : Int}
theorem push_next (y : Int) : (mPush m q g).next y = if y = g then m.hd q else m.next y := by
  unfold mPush; dsimp only; rw [setHd_next]; rfl
theorem push_prev (y : Int) : (mPush m q g).prev y = if m.hd q ≠ 0 ∧ y = m.hd q - 1 then g + 1 else if y = g then 0 else m.prev y := by
  unfold mPush; dsimp only; rw [setHd_prev]; dsimp only
  cases hz : m.hd q == 0 with
  | true =>
    have : m.hd q = 0 := by simpa using hz
    simp [this, fset]
  | false =>
    have : m.hd q ≠ 0 := by simpa using hz
    simp [this, fset]
theorem push_hd (q' : Hq) : (mPush m q g).hd q' = if q' = q then g + 1 else m.hd q' := by
  unfold mPush; dsimp only; rw [setHd_hd]; cases q' <;> rfl
theorem push_list {l : List Int} (hl : DL m p q l) (hg : 0 ≤ g ∧ g < p) (hn : g ∉ l) (hd : l.Nodup) : DL (mPush m q g) p q (g :: l) := by
  obtain ⟨b', hl⟩ := hl
  have eh : (mPush m q g).hd q = g + 1 := by rw [push_hd, if_pos rfl]
  have en : (mPush m q g).next g = m.hd q := by rw [push_next, if_pos rfl]
  cases l with
  | nil =>
    obtain ⟨h1, h2⟩ := hl
    refine ⟨g + 1, eh, hg, ?_, ?_⟩
    · rw [push_prev, if_neg (by omega), if_pos rfl]
    · rw [en]; exact ⟨h1, eh⟩
  | cons x r =>
    obtain ⟨h1, h2, h3, h4⟩ := hl
    have hx : x ≠ g := fun e => hn (by simp [e])
    have hxr : g ∉ r := fun e => hn (by simp [e])
    have hd' := (List.nodup_cons.1 hd).1
    refine ⟨b', eh, hg, ?_, ?_, h2, ?_, ?_⟩
    · rw [push_prev, if_neg (by omega), if_pos rfl]
    · rw [en, h1]
    · rw [push_prev, if_pos (by omega), eh]
    · rw [push_next, if_neg hx, en]
      refine Sg'.of_eq h4 (fun y hy => ?_) fun y hy => ?_
      · rw [push_next, if_neg (fun (e : y = g) => hxr (e ▸ hy))]
      · rw [push_prev, if_neg (fun e => hd' (by have : y = x := by omega
                                                exact this ▸ hy)), if_neg (fun (e : y = g) => hxr (e ▸ hy))]
theorem push_other {q' : Hq} {l l' : List Int} (hl : DL m p q l) (hl' : DL m p q' l') (hq : q' ≠ q) (hn : g ∉ l') (hd : ∀ y ∈ l, y ∉ l') : DL (mPush m q g) p q' l' := by
  obtain ⟨b1, hl⟩ := hl
  obtain ⟨b', hl'⟩ := hl'
  refine ⟨b', ?_⟩
  rw [push_hd, if_neg hq]
  refine Sg'.of_eq hl' (fun y hy => ?_) fun y hy => ?_
  · rw [push_next, if_neg (fun (e : y = g) => hn (e ▸ hy))]
  · rw [push_prev, if_neg (fun e => ?_), if_neg (fun (e : y = g) => hn (e ▸ hy))]
    cases l with
    | nil => exact e.1 hl.1
    | cons x r =>
      have := hl.1
      exact hd x (by simp) (by have : y = x := by omega
                               exact this ▸ hy)
theorem pull_next (y : Int) : (mPull m q g).next y = if y = g then 0 else if m.prev g ≠ 0 ∧ y = m.prev g - 1 then m.next g else m.next y := by
  unfold mPull; dsimp only
  cases hz : m.prev g == 0 <;> cases hw : m.next g == 0 <;> simp only [cond_true, cond_false, setHd_next, fset] <;> simp only [beq_iff_eq, beq_eq_false_iff_ne, ne_eq] at hz hw <;> simp [hz]
theorem pull_prev (y : Int) : (mPull m q g).prev y = if y = g then 0 else if m.next g ≠ 0 ∧ y = m.next g - 1 then m.prev g else m.prev y := by
  unfold mPull; dsimp only
  cases hz : m.prev g == 0 <;> cases hw : m.next g == 0 <;> simp only [cond_true, cond_false, setHd_prev, fset] <;> simp only [beq_iff_eq, beq_eq_false_iff_ne, ne_eq] at hz hw <;> simp [hw]
theorem pull_hd (q' : Hq) : (mPull m q g).hd q' = if q' = q ∧ m.prev g = 0 then m.next g else m.hd q' := by
  unfold mPull; dsimp only
  cases hz : m.prev g == 0 <;> cases hw : m.next g == 0 <;> simp only [cond_true, cond_false] <;> simp only [beq_iff_eq, beq_eq_false_iff_ne, ne_eq] at hz hw <;> cases q' <;> simp [hz, Mm.hd, Mm.setHd] <;> cases q <;> simp [fset]
theorem Sg'.last : ∀ {l : List Int} {a b q1 b1 : Int}, Sg' m p a b l q1 b1 → l ≠ [] → ∃ y ∈ l, b1 = y + 1
  | [], _, _, _, _, _, h => absurd rfl h
  | [y], _, _, _, _, ⟨h1, _, _, _, h5⟩, _ => ⟨y, by simp, by omega⟩
  | y :: z :: r, _, _, _, _, ⟨_, _, _, h4⟩, _ => by
    obtain ⟨w, hw, e⟩ := Sg'.last h4 (by simp)
    exact ⟨w, by simp only [List.mem_cons] at hw ⊢; exact .inr hw, e⟩
theorem Sg'.pages : ∀ {l : List Int} {a b q1 b1 : Int}, Sg' m p a b l q1 b1 → ∀ y ∈ l, 0 ≤ y ∧ y < p
  | [], _, _, _, _, _, _, h => by cases h
  | y :: r, _, _, _, _, ⟨_, h2, _, h4⟩, z, hz => by
    rcases List.mem_cons.1 hz with rfl | hz
    · exact h2
    · exact Sg'.pages h4 z hz
theorem Sg'.relink {m' : Mm} {q1' : Int} : ∀ {l : List Int} {a b q1 b1 : Int}, Sg' m p a b l q1 b1 → (∀ y ∈ l, m'.prev y = m.prev y) → (∀ y ∈ l, y + 1 ≠ b1 → m'.next y = m.next y) → (∀ y ∈ l, y + 1 = b1 → m'.next y = q1') → l.Nodup → l ≠ [] → Sg' m' p a b l q1' b1
  | [], _, _, _, _, _, _, _, _, _, h => absurd rfl h
  | [y], a, b, q1, b1, ⟨h1, h2, h3, h4, h5⟩, hp, _, hq, _, _ => ⟨h1, h2, (hp y (by simp)).trans h3, hq y (by simp) (by omega), h5⟩
  | y :: z :: r, a, b, q1, b1, ⟨h1, h2, h3, h4⟩, hp, hn, hq, hd, _ => by
    obtain ⟨w, hw, e⟩ := Sg'.last h4 (by simp)
    have hd' := List.nodup_cons.1 hd
    have hy : y + 1 ≠ b1 := fun e' => hd'.1 (by have : y = w := by omega
                                                exact this ▸ hw)
    refine ⟨h1, h2, (hp y (by simp)).trans h3, ?_⟩
    rw [hn y (by simp) hy]
    exact Sg'.relink h4 (fun x hx => hp x (by simp only [List.mem_cons] at hx ⊢; exact .inr hx)) (fun x hx => hn x (by simp only [List.mem_cons] at hx ⊢; exact .inr hx)) (fun x hx => hq x (by simp only [List.mem_cons] at hx ⊢; exact .inr hx)) hd'.2 (by simp)
theorem pull_list {l1 l2 : List Int} (hl : DL m p q (l1 ++ g :: l2)) (hd : (l1 ++ g :: l2).Nodup) : DL (mPull m q g) p q (l1 ++ l2) := by
  obtain ⟨b', hl⟩ := hl
  obtain ⟨q1, b1, hA, h1, h2, h3, hB⟩ := Sg'.app.1 hl
  have hd1 := List.nodup_append.1 hd
  have hg1 : g ∉ l1 := fun e => hd1.2.2 g e g (by simp) rfl
  have hg2 : g ∉ l2 := (List.nodup_cons.1 hd1.2.1).1
  have hdis : ∀ y ∈ l1, y ∉ l2 := fun y hy hy2 => hd1.2.2 y hy y (by simp [hy2]) rfl
  have hpg := Sg'.pages hA
  have hb1 : l1 ≠ [] → ∃ y ∈ l1, b1 = y + 1 := Sg'.last hA
  -- behind it
  have hB' : ∃ b'', Sg' (mPull m q g) p (m.next g) b1 l2 0 b'' := by
    cases l2 with
    | nil => exact ⟨b1, hB.1, rfl⟩
    | cons z r =>
      obtain ⟨e1, e2, e3, e4⟩ := hB
      have hz : z ≠ g := fun e => hg2 (by simp [e])
      have hgr : g ∉ r := fun e => hg2 (by simp [e])
      have hzr := (List.nodup_cons.1 (List.nodup_cons.1 hd1.2.1).2).1
      have hzb : ∀ y ∈ z :: r, ¬ (m.prev g ≠ 0 ∧ y = m.prev g - 1) := fun y hy ⟨n1, n2⟩ => by
        cases hc : l1 with
        | nil => rw [hc] at hA; have := hA.2; omega
        | cons u v =>
          obtain ⟨w, hw, ew⟩ := hb1 (by rw [hc]; simp)
          have : y = w := by omega
          exact hdis w hw (this ▸ hy)
      refine ⟨b', e1, e2, ?_, ?_⟩
      · rw [pull_prev, if_neg hz, if_pos ⟨by omega, by omega⟩, h3]
      · rw [pull_next, if_neg hz, if_neg (hzb z (by simp))]
        refine Sg'.of_eq e4 (fun y hy => ?_) fun y hy => ?_
        · rw [pull_next, if_neg (fun (e : y = g) => hgr (e ▸ hy)), if_neg (hzb y (by simp [hy]))]
        · rw [pull_prev, if_neg (fun (e : y = g) => hgr (e ▸ hy)), if_neg (fun ⟨_, e⟩ => hzr ((show y = z by omega) ▸ hy))]
  obtain ⟨b'', hB'⟩ := hB'
  have hnl : ∀ y ∈ l1, ¬ (m.next g ≠ 0 ∧ y = m.next g - 1) := fun y hy ⟨n1, n2⟩ => by
    cases l2 with
    | nil => exact n1 hB.1
    | cons z r =>
      have := hB.1
      exact hdis y hy (by have : y = z := by omega
                          rw [this]; simp)
  refine ⟨b'', Sg'.app.2 ⟨m.next g, b1, ?_, hB'⟩⟩
  by_cases hc : l1 = []
  · subst hc
    obtain ⟨e1, e2⟩ := hA
    rw [pull_hd, if_pos ⟨rfl, by omega⟩]
    exact ⟨rfl, e2⟩
  · obtain ⟨w, hw, ew⟩ := hb1 hc
    have := hpg w hw
    rw [pull_hd, if_neg (fun ⟨_, e⟩ => by omega)]
    refine Sg'.relink hA (fun y hy => ?_) (fun y hy hne => ?_) (fun y hy he => ?_) hd1.1 hc
    · rw [pull_prev, if_neg (fun (e : y = g) => hg1 (e ▸ hy)), if_neg (hnl y hy)]
    · rw [pull_next, if_neg (fun (e : y = g) => hg1 (e ▸ hy)), if_neg (fun ⟨_, e⟩ => by omega)]
    · rw [pull_next, if_neg (fun (e : y = g) => hg1 (e ▸ hy)), if_pos ⟨by omega, by omega⟩]
theorem pull_other {q' : Hq} {l l' : List Int} (hl : DL m p q l) (hg : g ∈ l) (hl' : DL m p q' l') (hq : q' ≠ q) (hd : ∀ y ∈ l, y ∉ l') : DL (mPull m q g) p q' l' := by
  obtain ⟨l1, l2, rfl⟩ := List.append_of_mem hg
  obtain ⟨b', hl⟩ := hl
  obtain ⟨q1, b1, hA, h1, h2, h3, hB⟩ := Sg'.app.1 hl
  obtain ⟨b2, hl'⟩ := hl'
  have hgl : g ∉ l' := hd g (by simp)
  have hp1 : ∀ y ∈ l', ¬ (m.prev g ≠ 0 ∧ y = m.prev g - 1) := fun y hy ⟨n1, n2⟩ => by
    by_cases hc : l1 = []
    · subst hc; have := hA.2; omega
    · obtain ⟨w, hw, ew⟩ := Sg'.last hA hc
      exact hd w (by simp [hw]) (by have : y = w := by omega
                                    exact this ▸ hy)
  have hp2 : ∀ y ∈ l', ¬ (m.next g ≠ 0 ∧ y = m.next g - 1) := fun y hy ⟨n1, n2⟩ => by
    cases l2 with
    | nil => exact n1 hB.1
    | cons z r =>
      have := hB.1
      exact hd z (by simp) (by have : y = z := by omega
                               exact this ▸ hy)
  refine ⟨b2, ?_⟩
  rw [pull_hd, if_neg (fun ⟨e, _⟩ => hq e)]
  refine Sg'.of_eq hl' (fun y hy => ?_) fun y hy => ?_
  · rw [pull_next, if_neg (fun (e : y = g) => hgl (e ▸ hy)), if_neg (hp1 y hy)]
  · rw [pull_prev, if_neg (fun (e : y = g) => hgl (e ▸ hy)), if_neg (hp2 y hy)]
end
end Go.Sl
namespace Go.Proofs.YtcbeifgnccbfbaaGreat
open Go.Sl
section
variable {c : Cf} {xs : List Int}
theorem listF_dl (hx : AGood c xs) : ∀ (f : Nat) (q ahead : Int) (out : List Int), 0 ≤ q → (listF c xs f q ahead out).2 = true → ∃ l b', (listF c xs f q ahead out).1 = out ++ l ∧ Sg' (Mm.of c xs) c.p q ahead l 0 b' ∧ out.length + l.length ≤ c.p.toNat + (if l = [] then out.length else 0)
  | 0, _, _, _, _, h => by simp [listF] at h
  | f + 1, q, ahead, out, hq, h => by
    simp only [listF] at h ⊢
    cases h0 : q == 0 with
    | true =>
      simp only [cond_true]
      exact ⟨[], ahead, by simp, ⟨by simpa using h0, rfl⟩, by simp⟩
    | false =>
      rw [h0, cond_false] at h
      simp only [cond_false]
      have hq0 : q ≠ 0 := by simpa using h0
      cases h1 : (decide (q > c.p) || decide ((out.length : Int) ≥ c.p)) with
      | true => rw [h1] at h; cases h
      | false =>
        rw [h1, cond_false] at h
        simp only [cond_false]
        simp only [Bool.or_eq_false_iff, decide_eq_false_iff_not] at h1
        cases h2 : cel xs (c.prev (q - 1)) != ahead with
        | true => rw [h2] at h; cases h
        | false =>
          rw [h2, cond_false] at h
          simp only [cond_false]
          have hb := cel_bd hx (c.next (q - 1))
          obtain ⟨l, b', e1, e2, e3⟩ := listF_dl hx f _ _ _ hb.1 h
          refine ⟨(q - 1) :: l, b', by rw [e1]; simp, ⟨by omega, by omega, (show cel xs (c.prev (q - 1)) = ahead by simpa using h2), e2⟩, ?_⟩
          simp only [List.length_append, List.length_cons, List.length_nil, reduceCtorEq, if_false] at e3 ⊢
          by_cases hl : l = []
          · subst hl; simp at e3 ⊢; omega
          · rw [if_neg hl] at e3; omega
theorem dl_listF (hx : AGood c xs) : ∀ (l : List Int) (f : Nat) (q ahead b' : Int) (out : List Int), Sg' (Mm.of c xs) c.p q ahead l 0 b' → l.length < f → (out.length + l.length : Int) ≤ c.p → listF c xs f q ahead out = (out ++ l, true)
  | _, 0, _, _, _, _, _, h, _ => by omega
  | [], f + 1, q, ahead, b', out, h, _, _ => by
    have : q = 0 := h.1
    simp [listF, this]
  | g :: l, f + 1, q, ahead, b', out, ⟨h1, h2, h3, h4⟩, hf, hl => by
    simp only [List.length_cons] at hf hl
    have e0 : (q == 0) = false := by simp; omega
    have e1 : (decide (q > c.p) || decide ((out.length : Int) ≥ c.p)) = false := by
      simp only [Bool.or_eq_false_iff, decide_eq_false_iff_not]; push_cast at hl; omega
    have eg : q - 1 = g := by omega
    have e2 : (cel xs (c.prev (q - 1)) != ahead) = false := by
      rw [eg]
      have : cel xs (c.prev g) = ahead := h3
      simp [this]
    simp only [listF, e0, e1, e2, cond_false]
    have := dl_listF hx l f _ _ b' (out ++ [g]) h4 (by omega) (by simp only [List.length_append, List.length_cons, List.length_nil]; push_cast at hl ⊢; omega)
    rw [eg]
    exact this.trans (by simp)
def Ch (c : Cf) (xs : List Int) : Int → List Int → Prop
  | a, [] => a = c.p
  | a, x :: l => a = x ∧ a < c.p ∧ infoOk (cel xs (c.info a)) = true ∧ (aInfo c xs a).k ≠ 0 ∧ 1 ≤ (aInfo c xs a).l ∧ Ch c xs (a + (aInfo c xs a).l) l
theorem startsF_ch : ∀ (f : Nat) (a : Int) (out : List Int), (startsF c xs f a out).2 = true → ∃ l, (startsF c xs f a out).1 = out ++ l ∧ Ch c xs a l
  | 0, a, out, h => ⟨[], by simp [startsF], (show a = c.p by simpa [startsF] using h)⟩
  | f + 1, a, out, h => by
    simp only [startsF] at h ⊢
    cases hd : decide (a < c.p) with
    | false =>
      rw [hd] at h
      simp only [cond_false] at h ⊢
      exact ⟨[], by simp, (show a = c.p by simpa using h)⟩
    | true =>
      rw [hd, cond_true] at h
      simp only [cond_true]
      cases hc : (!infoOk (cel xs (c.info a)) || (aInfo c xs a).k == 0) with
      | true => rw [hc] at h; cases h
      | false =>
        rw [hc, cond_false] at h
        simp only [cond_false]
        obtain ⟨l, e1, e2⟩ := startsF_ch f _ _ h
        simp only [Bool.or_eq_false_iff, Bool.not_eq_false'] at hc
        exact ⟨a :: l, by rw [e1]; simp, rfl, by simpa using hd, hc.1, by simpa using hc.2, iGet_len hc.1 hc.2, e2⟩
theorem ch_startsF : ∀ (l : List Int) (f : Nat) (a : Int) (out : List Int), Ch c xs a l → l.length < f → startsF c xs f a out = (out ++ l, true)
  | _, 0, _, _, _, h => by omega
  | [], f + 1, a, out, h, _ => by
    have h : a = c.p := h
    simp [startsF, h]
  | x :: l, f + 1, a, out, ⟨h1, h2, h3, h4, h5, h6⟩, hf => by
    have e1 : decide (a < c.p) = true := by simpa using h2
    have e2 : (!infoOk (cel xs (c.info a)) || (aInfo c xs a).k == 0) = false := by simp [h3, h4]
    simp only [startsF, e1, e2, cond_true, cond_false]
    rw [ch_startsF l f _ _ h6 (by simp at hf; omega)]
    subst h1; simp
theorem Ch.le : ∀ {l : List Int} {a : Int}, Ch c xs a l → a + l.length ≤ c.p
  | [], a, h => by have h : a = c.p := h; simp; omega
  | x :: l, a, ⟨_, _, _, _, h5, h6⟩ => by have := Ch.le h6; simp only [List.length_cons]; push_cast; omega
theorem Ch.ge : ∀ {l : List Int} {a : Int}, Ch c xs a l → ∀ x ∈ l, a ≤ x
  | [], _, _, _, h => by cases h
  | y :: l, a, ⟨h1, _, _, _, h5, h6⟩, x, hx => by
    rcases List.mem_cons.1 hx with rfl | hx
    · omega
    · have := Ch.ge h6 x hx; omega
theorem starts_iff (hp : 0 ≤ c.p) {l : List Int} : starts c xs = (l, true) ↔ Ch c xs 0 l := by
  constructor
  · intro h
    have h2 : (startsF c xs (c.p.toNat + 1) 0 []).2 = true := by unfold starts at h; rw [h]
    obtain ⟨l', e1, e2⟩ := startsF_ch _ _ _ h2
    have : l = l' := by
      have e3 : (startsF c xs (c.p.toNat + 1) 0 []).1 = l := by unfold starts at h; rw [h]
      rw [← e3, e1]; simp
    rw [this]; exact e2
  · intro h
    have := h.le
    unfold starts
    rw [ch_startsF l _ 0 [] h (by omega)]; simp
theorem drop_at {l : List Int} {n : Nat} (h : n < l.length) : l.drop n = l.getD n 0 :: l.drop (n + 1) := by
  rw [List.drop_eq_getElem_cons h, List.getD_eq_getElem?_getD, List.getElem?_eq_getElem h]; rfl
theorem tilesF_iff (l : List Int) : ∀ (k n : Nat), (l.drop n).Pairwise (· < ·) → (∀ x ∈ l.drop n, c.p - k ≤ x ∧ x < c.p) → (tilesF c xs l k n = true ↔ ∀ q : Int, c.p - k ≤ q → q < c.p → q ∈ l.drop n ∨ cel xs (c.info q) = 0)
  | 0, n, _, _ => by
    simp only [tilesF, true_iff]
    intro q h1 h2; omega
  | k + 1, n, hs, hb => by
    simp only [tilesF]
    cases hc : (decide (n < l.length) && l.getD n 0 == c.p - (k + 1 : Nat)) with
    | true =>
      simp only [Bool.and_eq_true, decide_eq_true_eq, beq_iff_eq] at hc
      have hd := drop_at hc.1
      rw [hc.2] at hd
      rw [hd] at hs hb ⊢
      have hs' := List.pairwise_cons.1 hs
      simp only [cond_true]
      rw [tilesF_iff l k (n + 1) hs'.2 (fun x hx => ⟨by have := hs'.1 x hx; push_cast at this; omega, (hb x (by simp [hx])).2⟩)]
      constructor
      · intro h q h1 h2
        by_cases hq : q = c.p - (k + 1 : Nat)
        · left; rw [hq]; simp
        · rcases h q (by push_cast at hq h1; omega) h2 with h3 | h3
          · left; simp [h3]
          · exact .inr h3
      · intro h q h1 h2
        rcases h q (by push_cast; omega) h2 with h3 | h3
        · rcases List.mem_cons.1 h3 with h4 | h4
          · exfalso; push_cast at h4; omega
          · exact .inl h4
        · exact .inr h3
    | false =>
      simp only [cond_false]
      have hn : ∀ x ∈ l.drop n, x ≠ c.p - (k + 1 : Nat) := fun x hx e => by
        have hlt : n < l.length := by
          rcases Nat.lt_or_ge n l.length with h | h
          · exact h
          · rw [List.drop_of_length_le h] at hx; cases hx
        have hd := drop_at hlt
        rw [hd] at hx hs hb
        have h1 : l.getD n 0 ≠ c.p - (k + 1 : Nat) := fun e' => by
          have : (decide (n < l.length) && l.getD n 0 == c.p - (k + 1 : Nat)) = true := by
            simp only [Bool.and_eq_true, decide_eq_true_eq, beq_iff_eq]; exact ⟨hlt, e'⟩
          rw [hc] at this; cases this
        rcases List.mem_cons.1 hx with h2 | h2
        · exact h1 (h2 ▸ e)
        · have h3 := (List.pairwise_cons.1 hs).1 x h2
          have h4 := (hb _ (List.mem_cons_self)).1
          omega
      have hb' : ∀ x ∈ l.drop n, c.p - k ≤ x ∧ x < c.p := fun x hx => by
        have h1 := hb x hx
        have h2 := hn x hx
        push_cast at h1 h2
        omega
      cases hz : cel xs (c.info (c.p - (k + 1 : Nat))) != 0 with
      | true =>
        simp only [cond_true, reduceCtorEq, false_iff]
        intro h
        rcases h (c.p - (k + 1 : Nat)) (Int.le_refl _) (by push_cast; omega) with h3 | h3
        · exact hn _ h3 rfl
        · rw [h3] at hz; cases hz
      | false =>
        simp only [cond_false]
        rw [tilesF_iff l k n hs hb']
        constructor
        · intro h q h1 h2
          by_cases hq : q = c.p - (k + 1 : Nat)
          · right; rw [hq]; simpa using hz
          · exact h q (by push_cast at hq h1; omega) h2
        · intro h q h1 h2
          exact h q (by push_cast; omega) h2
theorem Ch.sorted : ∀ {l : List Int} {a : Int}, Ch c xs a l → l.Pairwise (· < ·)
  | [], _, _ => List.Pairwise.nil
  | y :: l, a, ⟨h1, _, _, _, h5, h6⟩ => List.pairwise_cons.2 ⟨fun x hx => by have := Ch.ge h6 x hx; omega, Ch.sorted h6⟩
theorem Ch.lt : ∀ {l : List Int} {a : Int}, Ch c xs a l → ∀ x ∈ l, x < c.p
  | [], _, _, _, h => by cases h
  | y :: l, a, ⟨h1, h2, _, _, _, h6⟩, x, hx => by
    rcases List.mem_cons.1 hx with rfl | hx
    · omega
    · exact Ch.lt h6 x hx
theorem tiles_iff (hp : 0 ≤ c.p) : tiles c xs = true ↔ ∃ l, starts c xs = (l, true) ∧ Ch c xs 0 l ∧ ∀ q : Int, 0 ≤ q → q < c.p → q ∈ l ∨ cel xs (c.info q) = 0 := by
  unfold tiles
  cases h2 : (starts c xs).2 with
  | false =>
    simp only [cond_false, reduceCtorEq, false_iff]
    rintro ⟨l, h, _⟩
    rw [h] at h2; cases h2
  | true =>
    have hs : starts c xs = ((starts c xs).1, true) := by rw [← h2]
    have hc := (starts_iff hp).1 hs
    have e : (c.p.toNat : Int) = c.p := by omega
    simp only [cond_true]
    rw [tilesF_iff _ _ 0 (by simpa using hc.sorted) (fun x hx => ⟨by rw [e]; have := hc.ge x (by simpa using hx); omega, hc.lt x (by simpa using hx)⟩)]
    simp only [List.drop_zero]
    constructor
    · intro h
      exact ⟨_, hs, hc, fun q h1 h3 => h q (by omega) h3⟩
    · rintro ⟨l, h, _, h4⟩ q h1 h3
      rw [h]; exact h4 q (by omega) h3
def wantF (c : Cf) (xs : List Int) (x q : Int) : Int := bif q == x + (aInfo c xs x).l - 1 then nv (x + 1) else 0
theorem feetF_iff (l : List Int) : ∀ (k n : Nat) (a : Int) (r : List Int), l.drop n = a :: r → Ch c xs a (a :: r) → a ≤ c.p - k → c.p - k ≤ a + (aInfo c xs a).l →
    (feetF c xs l k n = true ↔ ∀ q : Int, c.p - k ≤ q → q < c.p → ∀ x ∈ a :: r, x ≤ q → q < x + (aInfo c xs x).l → cel xs (c.foot q) = wantF c xs x q)
  | 0, n, a, r, _, _, _, _ => by
    simp only [feetF, true_iff]
    intro q h1 h2; omega
  | k + 1, n, a, r, hd, hc, h1, h2 => by
    have hlt : n < l.length := by
      rcases Nat.lt_or_ge n l.length with h | h
      · exact h
      · rw [List.drop_of_length_le h] at hd; cases hd
    have hda := drop_at hlt
    rw [hd] at hda
    have ha : l.getD n 0 = a := by injection hda with h _; exact h.symm
    have hr : l.drop (n + 1) = r := by injection hda with _ h; exact h.symm
    obtain ⟨_, c2, c3, c4, c5, c6⟩ := hc
    have hw : ∀ x q, (bif q == x + (aInfo c xs x).l - 1 then nv (x + 1) else 0) = wantF c xs x q := fun _ _ => rfl
    simp only [feetF]
    cases r with
    | nil =>
      have e6 : a + (aInfo c xs a).l = c.p := c6
      have hlen : ¬ (n + 1 < l.length) := fun h => by
        have := drop_at h; rw [hr] at this; cases this
      have e1 : (decide (n + 1 < l.length) && l.getD (n + 1) 0 == c.p - (k + 1 : Nat)) = false := by simp [hlen]
      rw [e1]
      simp only [cond_false]
      rw [ha, hw]
      have ih := feetF_iff l k n a [] hd ⟨rfl, c2, c3, c4, c5, c6⟩ (by push_cast at h1; omega) (by omega)
      cases hz : cel xs (c.foot (c.p - (k + 1 : Nat))) != wantF c xs a (c.p - (k + 1 : Nat)) with
      | true =>
        simp only [cond_true, reduceCtorEq, false_iff]
        intro h
        have := h (c.p - (k + 1 : Nat)) (Int.le_refl _) (by push_cast; omega) a (by simp) h1 (by push_cast at h2 ⊢; omega)
        rw [this] at hz; simp at hz
      | false =>
        simp only [cond_false]
        rw [ih]
        constructor
        · intro h q g1 g2 x hx g3 g4
          by_cases hq : q = c.p - (k + 1 : Nat)
          · simp only [List.mem_singleton] at hx
            subst hx; rw [hq]; simpa using hz
          · exact h q (by push_cast at hq g1; omega) g2 x hx g3 g4
        · intro h q g1 g2 x hx g3 g4
          exact h q (by push_cast; omega) g2 x hx g3 g4
    | cons b r' =>
      obtain ⟨d1, d2, d3, d4, d5, d6⟩ := c6
      have hlt2 : n + 1 < l.length := by
        rcases Nat.lt_or_ge (n + 1) l.length with h | h
        · exact h
        · rw [List.drop_of_length_le h] at hr; cases hr
      have hdb := drop_at hlt2
      rw [hr] at hdb
      have hb : l.getD (n + 1) 0 = b := by injection hdb with h _; exact h.symm
      have hb2 : Ch c xs b (b :: r') := by
        have e : Ch c xs (a + (aInfo c xs a).l) (b :: r') := ⟨d1, d2, d3, d4, d5, d6⟩
        rw [d1] at e; exact e
      have hge : ∀ x ∈ b :: r', b ≤ x := hb2.ge
      by_cases hp : c.p - (k + 1 : Nat) = b
      · have e1 : (decide (n + 1 < l.length) && l.getD (n + 1) 0 == c.p - (k + 1 : Nat)) = true := by rw [hb, hp]; simp [hlt2]
        rw [e1]
        simp only [cond_true]
        rw [hb, hw]
        have d5' : 1 ≤ (aInfo c xs b).l := by rw [← d1]; exact d5
        have ih := feetF_iff l k (n + 1) b r' hr hb2 (by push_cast at hp; omega) (by push_cast at hp; omega)
        have hb3 : Ch c xs (b + (aInfo c xs b).l) r' := hb2.2.2.2.2.2
        have hge2 : ∀ x ∈ r', b + (aInfo c xs b).l ≤ x := hb3.ge
        cases hz : cel xs (c.foot (c.p - (k + 1 : Nat))) != wantF c xs b (c.p - (k + 1 : Nat)) with
        | true =>
          simp only [cond_true, reduceCtorEq, false_iff]
          intro h
          have := h (c.p - (k + 1 : Nat)) (Int.le_refl _) (by push_cast; omega) b (by simp) (by omega) (by omega)
          rw [this] at hz; simp at hz
        | false =>
          simp only [cond_false]
          rw [ih]
          constructor
          · intro h q g1 g2 x hx g3 g4
            have hxa : x ≠ a := fun e => by subst e; push_cast at hp g1; omega
            have hx' : x ∈ b :: r' := by
              rcases List.mem_cons.1 hx with h5 | h5
              · exact absurd h5 hxa
              · exact h5
            by_cases hq : q = c.p - (k + 1 : Nat)
            · have hxb : x = b := by
                rcases List.mem_cons.1 hx' with h5 | h5
                · exact h5
                · have := hge2 x h5; omega
              subst hxb; rw [hq]; simpa using hz
            · exact h q (by push_cast at hq g1; omega) g2 x hx' g3 g4
          · intro h q g1 g2 x hx g3 g4
            exact h q (by push_cast; omega) g2 x (by simp only [List.mem_cons] at hx ⊢; exact .inr hx) g3 g4
      · have e1 : (decide (n + 1 < l.length) && l.getD (n + 1) 0 == c.p - (k + 1 : Nat)) = false := by
          simp only [hb, Bool.and_eq_false_iff, beq_eq_false_iff_ne, ne_eq]
          right; omega
        rw [e1]
        simp only [cond_false]
        rw [ha, hw]
        have ih := feetF_iff l k n a (b :: r') hd ⟨rfl, c2, c3, c4, c5, d1, d2, d3, d4, d5, d6⟩ (by push_cast at h1; omega) (by push_cast at h2 hp; omega)
        cases hz : cel xs (c.foot (c.p - (k + 1 : Nat))) != wantF c xs a (c.p - (k + 1 : Nat)) with
        | true =>
          simp only [cond_true, reduceCtorEq, false_iff]
          intro h
          have := h (c.p - (k + 1 : Nat)) (Int.le_refl _) (by push_cast; omega) a (by simp) h1 (by omega)
          rw [this] at hz; simp at hz
        | false =>
          simp only [cond_false]
          rw [ih]
          constructor
          · intro h q g1 g2 x hx g3 g4
            by_cases hq : q = c.p - (k + 1 : Nat)
            · have hxa : x = a := by
                rcases List.mem_cons.1 hx with h5 | h5
                · exact h5
                · have := hge x h5; omega
              subst hxa; rw [hq]; simpa using hz
            · exact h q (by push_cast at hq g1; omega) g2 x hx g3 g4
          · intro h q g1 g2 x hx g3 g4
            exact h q (by push_cast; omega) g2 x hx g3 g4
theorem feet_iff (hp : 1 ≤ c.p) {l : List Int} (h : starts c xs = (l, true)) : feet c xs = true ↔ ∀ q : Int, 0 ≤ q → q < c.p → ∀ x ∈ l, x ≤ q → q < x + (aInfo c xs x).l → cel xs (c.foot q) = wantF c xs x q := by
  have hc := (starts_iff (by omega)).1 h
  have e : (c.p.toNat : Int) = c.p := by omega
  unfold feet
  rw [h]
  cases l with
  | nil => have : (0 : Int) = c.p := hc; omega
  | cons a r =>
    have ha : (0 : Int) = a := hc.1
    have hc' : Ch c xs a (a :: r) := by rw [← ha] at hc ⊢; exact hc
    have hl := hc.2.2.2.2.1
    rw [feetF_iff (a :: r) c.p.toNat 0 a r rfl hc' (by omega) (by rw [← ha]; omega)]
    constructor
    · intro g q g1 g2; exact g q (by omega) g2
    · intro g q g1 g2; exact g q (by omega) g2
def spOf (c : Cf) (xs : List Int) (x : Int) : Sp := ⟨(aInfo c xs x).k, (aInfo c xs x).l, (aInfo c xs x).c⟩
theorem tl_of : ∀ (l : List Int) (a : Int), Ch c xs a l → (∀ q : Int, a ≤ q → q < c.p → q ∈ l ∨ cel xs (c.info q) = 0) → (∀ q : Int, a ≤ q → q < c.p → ∀ x ∈ l, x ≤ q → q < x + (aInfo c xs x).l → cel xs (c.foot q) = wantF c xs x q) → Tl (Mm.of c xs) a (l.map (spOf c xs)) c.p
  | [], a, h, _, _ => h
  | x :: l, a, ⟨h1, h2, h3, h4, h5, h6⟩, ht, hf => by
    have hge := Ch.ge h6
    have hle := Ch.le h6
    subst h1
    have hle' : a + (aInfo c xs a).l ≤ c.p := by omega
    have hsp : (spOf c xs a).l = (aInfo c xs a).l := rfl
    refine ⟨?_, ?_⟩
    · exact { l1 := h5, rt := iGet_right (cel xs (c.info a)), k0 := h4, inf := rfl, iok := h3,
              in0 := fun q g1 g2 => by
                rcases ht q (by omega) (by rw [hsp] at g2; omega) with h | h
                · rcases List.mem_cons.1 h with h | h
                  · omega
                  · have := hge q h; rw [hsp] at g2; omega
                · exact h,
              ft0 := fun q g1 g2 => by
                rw [hsp] at g2
                have := hf q g1 (by omega) a (by simp) g1 (by omega)
                unfold wantF at this
                rw [show (q == a + (aInfo c xs a).l - 1) = false by simp; omega] at this
                exact this,
              ft := by
                have := hf (a + (aInfo c xs a).l - 1) (by omega) (by omega) a (by simp) (by omega) (by omega)
                unfold wantF at this
                rw [show (a + (aInfo c xs a).l - 1 == a + (aInfo c xs a).l - 1) = true by simp] at this
                exact this }
    · refine tl_of l _ h6 (fun q g1 g2 => ?_) fun q g1 g2 y hy => hf q (by have : a + (spOf c xs a).l ≤ q := g1; omega) g2 y (by simp [hy])
      have g1' : a + (aInfo c xs a).l ≤ q := g1
      rcases ht q (by omega) g2 with h | h
      · rcases List.mem_cons.1 h with h | h
        · omega
        · exact .inl h
      · exact .inr h
theorem ch_of_tl : ∀ (L : List Sp) (a : Int), Tl (Mm.of c xs) a L c.p → Ch c xs a (begs a L) ∧ (∀ q : Int, a ≤ q → q < c.p → q ∈ begs a L ∨ cel xs (c.info q) = 0) ∧ (∀ q : Int, a ≤ q → q < c.p → ∀ x ∈ begs a L, x ≤ q → q < x + (aInfo c xs x).l → cel xs (c.foot q) = wantF c xs x q) ∧ (begs a L).map (spOf c xs) = L
  | [], a, h => ⟨h, fun q g1 g2 => (by have h : a = c.p := h; omega), fun q g1 g2 x hx => (by cases hx), rfl⟩
  | x :: L, a, ⟨h, h2⟩ => by
    obtain ⟨i1, i2, i3, i4⟩ := ch_of_tl L _ h2
    have hl := h.l1
    have hle := Tl.le h2
    have hinf : aInfo c xs a = ⟨x.k, x.l, x.c⟩ := h.inf
    have hal : (aInfo c xs a).l = x.l := by rw [hinf]
    have hge := Ch.ge i1
    refine ⟨⟨rfl, by omega, h.iok, by rw [hinf]; exact h.k0, by omega, by rw [hal]; exact i1⟩, fun q g1 g2 => ?_, fun q g1 g2 y hy g3 g4 => ?_, ?_⟩
    · by_cases hq : q = a
      · left; rw [hq]; simp [begs]
      · by_cases hq2 : q < a + x.l
        · right; exact h.in0 q (by omega) hq2
        · rcases i2 q (by omega) g2 with g | g
          · left; simp only [begs, List.mem_cons]; exact .inr g
          · exact .inr g
    · simp only [begs, List.mem_cons] at hy
      by_cases hya : y = a
      · subst hya
        unfold wantF
        by_cases hq : q = y + (aInfo c xs y).l - 1
        · rw [show (q == y + (aInfo c xs y).l - 1) = true by simpa using hq, cond_true, hq, hal]
          exact h.ft
        · rw [show (q == y + (aInfo c xs y).l - 1) = false by simpa using hq, cond_false]
          exact h.ft0 q g1 (by omega)
      · rcases hy with hy | hy
        · exact absurd hy hya
        · have := hge y hy
          exact i3 q (by omega) g2 y hy g3 g4
    · simp only [begs, List.map_cons, i4, spOf, hinf]
theorem upto_iff {P : Int → Prop} {k : Nat} {b : Bool} {rest : Bool} (hb : b = true ↔ P (c.p - (k + 1 : Nat))) (hr : rest = true ↔ ∀ q : Int, c.p - k ≤ q → q < c.p → P q) : (b && rest) = true ↔ ∀ q : Int, c.p - (k + 1 : Nat) ≤ q → q < c.p → P q := by
  rw [Bool.and_eq_true, hb, hr]
  constructor
  · rintro ⟨h1, h2⟩ q g1 g2
    by_cases hq : q = c.p - (k + 1 : Nat)
    · rw [hq]; exact h1
    · exact h2 q (by push_cast at hq g1; omega) g2
  · intro h
    exact ⟨h _ (Int.le_refl _) (by push_cast; omega), fun q g1 g2 => h q (by push_cast; omega) g2⟩
def inL (c : Cf) (xs : List Int) (q : Int) : Bool := (aInfo c xs q).k == 1 || ((aInfo c xs q).k == 3 && !full (cel xs (c.taken q)) (aInfo c xs q).c)
theorem looseF_iff : ∀ k : Nat, looseF c xs k = true ↔ ∀ q : Int, c.p - k ≤ q → q < c.p → (inL c xs q = true ∨ (cel xs (c.next q) = 0 ∧ cel xs (c.prev q) = 0))
  | 0 => by
    simp only [looseF, true_iff]
    intro q h1 h2; omega
  | k + 1 => by
    have e : looseF c xs (k + 1) = ((inL c xs (c.p - (k + 1 : Nat)) || (cel xs (c.next (c.p - (k + 1 : Nat))) == 0 && cel xs (c.prev (c.p - (k + 1 : Nat))) == 0)) && looseF c xs k) := by
      simp only [looseF, inL, bne]
      cases ((aInfo c xs (c.p - (k + 1 : Nat))).k == 1 || ((aInfo c xs (c.p - (k + 1 : Nat))).k == 3 && !full (cel xs (c.taken (c.p - (k + 1 : Nat)))) (aInfo c xs (c.p - (k + 1 : Nat))).c)) <;> cases cel xs (c.next (c.p - (k + 1 : Nat))) == 0 <;> cases cel xs (c.prev (c.p - (k + 1 : Nat))) == 0 <;> simp
    rw [e]
    exact upto_iff (P := fun q => inL c xs q = true ∨ (cel xs (c.next q) = 0 ∧ cel xs (c.prev q) = 0)) (by simp only [Bool.or_eq_true, Bool.and_eq_true, beq_iff_eq]) (looseF_iff k)
theorem apartF_iff (l : List Int) : ∀ k : Nat, k < l.length → (apartF c xs l k = true ↔ ∀ i : Nat, l.length - k ≤ i → i < l.length → ¬ ((aInfo c xs (l.getD i 0)).k = 1 ∧ (aInfo c xs (l.getD (i - 1) 0)).k = 1))
  | 0, _ => by
    simp only [apartF, true_iff]
    intro i h1 h2; omega
  | k + 1, hk => by
    simp only [apartF]
    have ih := apartF_iff l k (by omega)
    cases hc : (aInfo c xs (l.getD (l.length - (k + 1)) 0)).k == 1 && (aInfo c xs (l.getD (l.length - (k + 1) - 1) 0)).k == 1 with
    | true =>
      simp only [cond_true, reduceCtorEq, false_iff]
      intro h
      simp only [Bool.and_eq_true, beq_iff_eq] at hc
      exact h (l.length - (k + 1)) (Nat.le_refl _) (by omega) hc
    | false =>
      simp only [cond_false]
      rw [ih]
      constructor
      · intro h i g1 g2
        by_cases hi : i = l.length - (k + 1)
        · subst hi
          rintro ⟨h1, h2⟩
          rw [h1, h2] at hc; cases hc
        · exact h i (by omega) g2
      · intro h i g1 g2
        exact h i (by omega) g2
theorem uptoN {P : Int → Prop} {N : Int} {k : Nat} {b : Bool} {rest : Bool} (hb : b = true ↔ P (N - (k + 1 : Nat))) (hr : rest = true ↔ ∀ q : Int, N - k ≤ q → q < N → P q) : (b && rest) = true ↔ ∀ q : Int, N - (k + 1 : Nat) ≤ q → q < N → P q := by
  rw [Bool.and_eq_true, hb, hr]
  constructor
  · rintro ⟨h1, h2⟩ q g1 g2
    by_cases hq : q = N - (k + 1 : Nat)
    · rw [hq]; exact h1
    · exact h2 q (by push_cast at hq g1; omega) g2
  · intro h
    exact ⟨h _ (Int.le_refl _) (by push_cast; omega), fun q g1 g2 => h q (by push_cast; omega) g2⟩
def badBit (c : Cf) (xs : List Int) (p : Int) (i : If) (b : Int) : Bool := (bitAt (cel xs (c.slots p)) b && !bitAt (cel xs (c.taken p)) b) || (bitAt (cel xs (c.taken p)) b && ((i.k != 3) || decide (b ≥ kSlots i.c)))
theorem slotsB_iff (p : Int) (i : If) : ∀ k : Nat, slotsB c xs p i k = true ↔ ∀ b : Int, 32 - k ≤ b → b < 32 → badBit c xs p i b = false
  | 0 => by
    simp only [slotsB, true_iff]
    intro b h1 h2; omega
  | k + 1 => by
    have e : slotsB c xs p i (k + 1) = (!badBit c xs p i (32 - (k + 1 : Nat)) && slotsB c xs p i k) := by
      simp only [slotsB]
      show (bif badBit c xs p i (32 - (k + 1 : Nat)) then false else slotsB c xs p i k) = _
      cases badBit c xs p i (32 - (k + 1 : Nat)) <;> simp
    rw [e]
    exact uptoN (P := fun b => badBit c xs p i b = false) (by simp) (slotsB_iff p i k)
theorem slotsF_iff : ∀ k : Nat, slotsF c xs k = true ↔ ∀ q : Int, c.p - k ≤ q → q < c.p → (slotsB c xs q (aInfo c xs q) 32 && !((aInfo c xs q).k == 3 && cel xs (c.taken q) == 0)) = true
  | 0 => by
    simp only [slotsF, true_iff]
    intro q h1 h2; omega
  | k + 1 => by
    have e : slotsF c xs (k + 1) = ((slotsB c xs (c.p - (k + 1 : Nat)) (aInfo c xs (c.p - (k + 1 : Nat))) 32 && !((aInfo c xs (c.p - (k + 1 : Nat))).k == 3 && cel xs (c.taken (c.p - (k + 1 : Nat))) == 0)) && slotsF c xs k) := by
      simp only [slotsF]
      cases slotsB c xs (c.p - (k + 1 : Nat)) (aInfo c xs (c.p - (k + 1 : Nat))) 32 <;> cases ((aInfo c xs (c.p - (k + 1 : Nat))).k == 3 && cel xs (c.taken (c.p - (k + 1 : Nat))) == 0) <;> simp
    rw [e]
    exact uptoN (P := fun q => (slotsB c xs q (aInfo c xs q) 32 && !((aInfo c xs q).k == 3 && cel xs (c.taken q) == 0)) = true) Iff.rfl (slotsF_iff k)
theorem onceF_iff (l : List Int) (g : Int → Bool) : ∀ k : Nat, onceF c l g k = true ↔ ∀ q : Int, c.p - k ≤ q → q < c.p → inA l q = bif g q then 1 else 0
  | 0 => by
    simp only [onceF, true_iff]
    intro q h1 h2; omega
  | k + 1 => by
    have e : onceF c l g (k + 1) = ((inA l (c.p - (k + 1 : Nat)) == (bif g (c.p - (k + 1 : Nat)) then 1 else 0)) && onceF c l g k) := by
      simp only [onceF, bne]
      cases inA l (c.p - (k + 1 : Nat)) == (bif g (c.p - (k + 1 : Nat)) then 1 else 0) <;> simp
    rw [e]
    exact uptoN (P := fun q => inA l q = bif g q then 1 else 0) (by simp only [beq_iff_eq]) (onceF_iff l g k)
def binOk (c : Cf) (xs : List Int) (j : Int) : Bool := (listA c xs (cBin j)).2 && onceF c (listA c xs (cBin j)).1 (binned c xs · j) c.p.toNat
theorem binsF_iff : ∀ k : Nat, binsF c xs k = true ↔ ∀ j : Int, 11 - k ≤ j → j < 11 → binOk c xs j = true
  | 0 => by
    simp only [binsF, true_iff]
    intro q h1 h2; omega
  | k + 1 => by
    have e : binsF c xs (k + 1) = (binOk c xs (11 - (k + 1 : Nat)) && binsF c xs k) := by
      simp only [binsF, binOk]
      cases (listA c xs (cBin (11 - (k + 1 : Nat)))).2 <;> cases onceF c (listA c xs (cBin (11 - (k + 1 : Nat)))).1 (binned c xs · (11 - (k + 1 : Nat))) c.p.toNat <;> simp
    rw [e]
    exact uptoN (P := fun j => binOk c xs j = true) Iff.rfl (binsF_iff k)
def rackOk (c : Cf) (xs : List Int) (j : Int) : Bool := (listA c xs (cRack j)).2 && onceF c (listA c xs (cRack j)).1 (racked c xs · j) c.p.toNat
theorem racksF_iff : ∀ k : Nat, racksF c xs k = true ↔ ∀ j : Int, 9 - k ≤ j → j < 9 → rackOk c xs j = true
  | 0 => by
    simp only [racksF, true_iff]
    intro q h1 h2; omega
  | k + 1 => by
    have e : racksF c xs (k + 1) = (rackOk c xs (9 - (k + 1 : Nat)) && racksF c xs k) := by
      simp only [racksF, rackOk]
      cases (listA c xs (cRack (9 - (k + 1 : Nat)))).2 <;> cases onceF c (listA c xs (cRack (9 - (k + 1 : Nat)))).1 (racked c xs · (9 - (k + 1 : Nat))) c.p.toNat <;> simp
    rw [e]
    exact uptoN (P := fun j => rackOk c xs j = true) Iff.rfl (racksF_iff k)
theorem inA_count (l : List Int) (q : Int) : inA l q = (l.count q : Int) := by
  unfold inA
  rw [List.count, List.countP_eq_length_filter]
theorem nodup_pages {p : Int} {l : List Int} (hn : l.Nodup) (h : ∀ x ∈ l, 0 ≤ x ∧ x < p) : l.length ≤ p.toNat := nodup_len' hn h
def LsOk (c : Cf) (m : Mm) (h : Hq) (g : Int → Bool) (l : List Int) : Prop := DL m c.p h l ∧ l.Nodup ∧ ∀ q : Int, q ∈ l ↔ (0 ≤ q ∧ q < c.p) ∧ g q = true
theorem lst_iff (hx : AGood c xs) (hd : Int) (h : Hq) (hh : (Mm.of c xs).hd h = cel xs hd) (g : Int → Bool) : ((listA c xs hd).2 && onceF c (listA c xs hd).1 g c.p.toNat) = true ↔ ∃ l, LsOk c (Mm.of c xs) h g l := by
  have hok := Cf.ok_iff.1 hx.ok
  have hbd := cel_bd hx hd
  rw [Bool.and_eq_true, onceF_iff]
  constructor
  · rintro ⟨h1, h2⟩
    unfold listA at h1 h2
    obtain ⟨l, b', e1, e2, _⟩ := listF_dl hx _ _ _ _ hbd.1 h1
    rw [e1, List.nil_append] at h2
    have hpg := Sg'.pages e2
    refine ⟨l, ⟨b', by rw [hh]; exact e2⟩, ?_, fun q => ?_⟩
    · rw [List.nodup_iff_count]
      intro q
      by_cases hq : q ∈ l
      · have := h2 q (by have := hpg q hq; omega) (hpg q hq).2
        rw [inA_count] at this
        cases hg : g q <;> rw [hg] at this <;> simp only [cond_true, cond_false] at this <;> omega
      · rw [List.count_eq_zero.2 hq]; omega
    · constructor
      · intro hq
        refine ⟨hpg q hq, ?_⟩
        have := h2 q (by have := hpg q hq; omega) (hpg q hq).2
        rw [inA_count] at this
        have hc := List.count_pos_iff.2 hq
        cases hg : g q with
        | true => rfl
        | false => rw [hg] at this; simp only [cond_false] at this; omega
      · rintro ⟨h3, h4⟩
        have := h2 q (by omega) h3.2
        rw [inA_count, h4] at this
        simp only [cond_true] at this
        exact List.count_pos_iff.1 (by omega)
  · rintro ⟨l, ⟨b', h1⟩, h2, h3⟩
    rw [hh] at h1
    have hpg := Sg'.pages h1
    have hl := nodup_pages h2 hpg
    have e := dl_listF hx l (c.p.toNat + 2) _ _ _ [] h1 (by omega) (by simp; omega)
    have e' : listA c xs hd = (l, true) := by unfold listA; rw [e]; simp
    rw [e']
    refine ⟨rfl, fun q g1 g2 => ?_⟩
    rw [inA_count]
    cases hg : g q with
    | true =>
      have hm := (h3 q).2 ⟨⟨by omega, g2⟩, hg⟩
      have a1 := List.count_pos_iff.2 hm
      have a2 := (List.nodup_iff_count.1 h2) q
      simp only [cond_true]; omega
    | false =>
      have hm : q ∉ l := fun hm => by
        have := ((h3 q).1 hm).2
        rw [hg] at this; cases this
      rw [List.count_eq_zero.2 hm]; rfl
def ifM (m : Mm) (q : Int) : If := iGet (m.info q)
def inM (m : Mm) (q : Int) : Bool := (ifM m q).k == 1 || ((ifM m q).k == 3 && !full (m.taken q) (ifM m q).c)
def binM (m : Mm) (k q : Int) : Bool := (ifM m q).k == 1 && logI (ifM m q).l == k
def rackM (m : Mm) (k q : Int) : Bool := (ifM m q).k == 3 && (ifM m q).c == k && !full (m.taken q) k
def badM (m : Mm) (q b : Int) : Bool := (bitAt (m.slots q) b && !bitAt (m.taken q) b) || (bitAt (m.taken q) b && (((ifM m q).k != 3) || decide (b ≥ kSlots (ifM m q).c)))
structure SndM (c : Cf) (m : Mm) (L : List Sp) : Prop where
  tl : Tl m 0 L c.p
  ap : ∀ i : Nat, i + 1 < L.length → ¬ ((L.getD i ⟨0, 0, 0⟩).k = 1 ∧ (L.getD (i + 1) ⟨0, 0, 0⟩).k = 1)
  bits : ∀ q : Int, 0 ≤ q → q < c.p → ∀ b : Int, 0 ≤ b → b < 32 → badM m q b = false
  some : ∀ q : Int, 0 ≤ q → q < c.p → ((ifM m q).k == 3 && m.taken q == 0) = false
  bins : ∀ k : Int, 0 ≤ k → k < 11 → ∃ l, LsOk c m (.bin k) (binM m k) l
  racks : ∀ k : Int, 0 ≤ k → k < 9 → ∃ l, LsOk c m (.rack k) (rackM m k) l
  loose : ∀ q : Int, 0 ≤ q → q < c.p → inM m q = true ∨ (m.next q = 0 ∧ m.prev q = 0)
theorem snd_of (hb : bdAll xs) (h : soundA c xs = true) : AGood c xs ∧ (∃ L, SndM c (Mm.of c xs) L) ∧ counts c xs = true ∧ rootsOk c xs = true := by
  rw [soundA_eq] at h
  unfold soundB at h
  simp only [Bool.and_eq_true, beq_iff_eq] at h
  obtain ⟨⟨⟨⟨⟨⟨⟨⟨⟨⟨h1, h2⟩, h3⟩, h4⟩, h5⟩, h6⟩, h7⟩, h8⟩, h9⟩, h10⟩, h11⟩ := h
  have hx : AGood c xs := { ok := h1, len := h2, bd := hb }
  have hok := Cf.ok_iff.1 h1
  have ep : (c.p.toNat : Int) = c.p := by omega
  obtain ⟨l, e1, e2, e3⟩ := (tiles_iff (by omega)).1 h3
  refine ⟨hx, ⟨l.map (spOf c xs), ?_⟩, h10, h11⟩
  exact
    { tl := tl_of l 0 e2 e3 ((feet_iff (by omega) e1).1 h4)
      ap := fun i hi => by
        rw [List.length_map] at hi
        have hl : 1 ≤ l.length := by omega
        unfold apart at h5
        rw [e1] at h5
        have := (apartF_iff l (l.length - 1) (by omega)).1 h5 (i + 1) (by omega) hi
        have g : ∀ j, j < l.length → (l.map (spOf c xs)).getD j ⟨0, 0, 0⟩ = spOf c xs (l.getD j 0) := fun j hj => by
          rw [List.getD_eq_getElem?_getD, List.getD_eq_getElem?_getD, List.getElem?_map, List.getElem?_eq_getElem hj]; rfl
        rw [g i (by omega), g (i + 1) hi]
        rintro ⟨a, b⟩
        exact this ⟨b, a⟩
      bits := fun q g1 g2 b g3 g4 => by
        have := (slotsF_iff c.p.toNat).1 h6 q (by omega) g2
        simp only [Bool.and_eq_true] at this
        exact (slotsB_iff q _ 32).1 this.1 b (by omega) g4
      some := fun q g1 g2 => by
        have := (slotsF_iff c.p.toNat).1 h6 q (by omega) g2
        simp only [Bool.and_eq_true, Bool.not_eq_true'] at this
        exact this.2
      bins := fun k g1 g2 => by
        have := (binsF_iff 11).1 h7 k (by omega) g2
        exact (lst_iff hx (cBin k) (.bin k) rfl _).1 this
      racks := fun k g1 g2 => by
        have := (racksF_iff 9).1 h8 k (by omega) g2
        exact (lst_iff hx (cRack k) (.rack k) rfl _).1 this
      loose := fun q g1 g2 => (looseF_iff c.p.toNat).1 h9 q (by omega) g2 }
theorem snd_to {L : List Sp} (hx : AGood c xs) (S : SndM c (Mm.of c xs) L) (h10 : counts c xs = true) (h11 : rootsOk c xs = true) : soundA c xs = true := by
  have hok := Cf.ok_iff.1 hx.ok
  have ep : (c.p.toNat : Int) = c.p := by omega
  obtain ⟨i1, i2, i3, i4⟩ := ch_of_tl L 0 S.tl
  have e := (starts_iff (by omega)).2 i1
  have hll : (begs 0 L).length = L.length := by rw [← congrArg List.length i4]; simp
  have h3 : tiles c xs = true := (tiles_iff (by omega)).2 ⟨_, e, i1, i2⟩
  have h4 : feet c xs = true := (feet_iff (by omega) e).2 i3
  have h5 : apart c xs = true := by
    unfold apart
    rw [e]
    simp only
    by_cases h0 : (begs 0 L).length = 0
    · rw [h0]; rfl
    · refine (apartF_iff (begs 0 L) _ (by omega)).2 fun i g1 g2 => ?_
      have g : ∀ j, j < (begs 0 L).length → L.getD j ⟨0, 0, 0⟩ = spOf c xs ((begs 0 L).getD j 0) := fun j hj => by
        have : ((begs 0 L).map (spOf c xs)).getD j ⟨0, 0, 0⟩ = spOf c xs ((begs 0 L).getD j 0) := by
          rw [List.getD_eq_getElem?_getD, List.getD_eq_getElem?_getD, List.getElem?_map, List.getElem?_eq_getElem hj]; rfl
        rw [i4] at this; exact this
      have := S.ap (i - 1) (by omega)
      rw [show i - 1 + 1 = i by omega, g i g2, g (i - 1) (by omega)] at this
      rintro ⟨a, b⟩
      exact this ⟨b, a⟩
  have h6 : slotsOk c xs = true := (slotsF_iff c.p.toNat).2 fun q g1 g2 => by
    have a := S.some q (by omega) g2
    simp only [Bool.and_eq_true, Bool.not_eq_true']
    exact ⟨(slotsB_iff q _ 32).2 fun b g3 g4 => S.bits q (by omega) g2 b (by omega) g4, a⟩
  have h7 : bins c xs = true := (binsF_iff 11).2 fun k g1 g2 => (lst_iff hx (cBin k) (.bin k) rfl _).2 (S.bins k (by omega) g2)
  have h8 : racks c xs = true := (racksF_iff 9).2 fun k g1 g2 => (lst_iff hx (cRack k) (.rack k) rfl _).2 (S.racks k (by omega) g2)
  have h9 : loose c xs = true := (looseF_iff c.p.toNat).2 fun q g1 g2 => S.loose q (by omega) g2
  rw [soundA_eq]
  unfold soundB
  simp only [hx.ok, hx.len, h3, h4, h5, h6, h7, h8, h9, h10, h11, beq_self_eq_true, Bool.and_true]
def smF (f : Int → Int) : Nat → Int
  | 0 => 0
  | k + 1 => smF f k + f k
theorem smF_congr {f g : Int → Int} : ∀ {n : Nat}, (∀ q : Int, 0 ≤ q → q < n → f q = g q) → smF f n = smF g n
  | 0, _ => rfl
  | n + 1, h => by
    simp only [smF]
    rw [smF_congr (n := n) fun q a b => h q a (by push_cast; omega), h n (by omega) (by push_cast; omega)]
theorem smF_one {f g : Int → Int} {a : Int} : ∀ {n : Nat}, 0 ≤ a → a < n → (∀ q : Int, 0 ≤ q → q < n → q ≠ a → f q = g q) → smF f n = smF g n + (f a - g a)
  | 0, h1, h2, _ => by omega
  | n + 1, h1, h2, h => by
    simp only [smF]
    by_cases e : a = n
    · rw [smF_congr (f := f) (g := g) fun q a b => h q a (by push_cast; omega) (by omega), ← e]; omega
    · have h3 : f n = g n := h n (by omega) (by push_cast; omega) (by omega)
      have := smF_one (f := f) (g := g) (n := n) h1 (by push_cast at h2; omega) fun q a b d => h q a (by push_cast; omega) d
      rw [this, h3]; omega
def frP (m : Mm) (q : Int) : Int := bif (ifM m q).k == 1 then (ifM m q).l else 0
def lvP (m : Mm) (q : Int) : Int := (bif (ifM m q).k == 2 then 1 else 0) + ones (m.slots q)
def CntM (c : Cf) (m : Mm) : Prop := m.fr = nv (smF (frP m) c.p.toNat) ∧ m.lv = nv (smF (lvP m) c.p.toNat)
theorem countsF_sm : ∀ n : Nat, countsF c xs n = (smF (frP (Mm.of c xs)) n, smF (lvP (Mm.of c xs)) n)
  | 0 => rfl
  | n + 1 => by
    simp only [countsF, countsF_sm n, smF]
    refine Prod.ext rfl ?_
    show _ + _ + _ = _ + (_ + _)
    rw [Int.add_assoc]; rfl
theorem counts_iff : counts c xs = true ↔ CntM c (Mm.of c xs) := by
  unfold counts CntM
  rw [countsF_sm, Bool.and_eq_true, beq_iff_eq, beq_iff_eq]
  exact Iff.rfl
def slB (c : Cf) (m : Mm) (q k : Int) : Nat → List Pt
  | 0 => []
  | n + 1 => slB c m q k n ++ bif bitAt (m.slots q) n then [⟨2, (q + 1) * pgB c.s + n * szB c.s k, szB c.s k⟩] else []
def blkP (c : Cf) (m : Mm) (q : Int) : List Pt := bif (ifM m q).k == 2 then [⟨2, (q + 1) * pgB c.s, (ifM m q).l * pgB c.s⟩] else bif (ifM m q).k == 3 then slB c m q (ifM m q).c (kSlots (ifM m q).c).toNat else []
def blkF (c : Cf) (m : Mm) : Nat → List Pt
  | 0 => []
  | n + 1 => blkF c m n ++ blkP c m n
theorem slB_of (g k : Int) : ∀ n : Nat, (slabF c xs g k n).filter (fun x => x.k == 2) = slB c (Mm.of c xs) g k n
  | 0 => rfl
  | n + 1 => by
    have e : (slabKind c xs g n == 2) = bitAt (cel xs (c.slots g)) n := by
      unfold slabKind
      cases bitAt (cel xs (c.slots g)) n <;> cases bitAt (cel xs (c.taken g)) n <;> rfl
    simp only [slabF, slB, List.filter_append, slB_of g k n]
    congr 1
    simp only [slabPt, List.filter_cons, List.filter_nil, e]
    show _ = bif bitAt (cel xs (c.slots g)) n then _ else _
    cases h : bitAt (cel xs (c.slots g)) n with
    | true =>
      have : slabKind c xs g n = 2 := by rw [h] at e; simpa using e
      simp [this]
    | false => simp
theorem blkP_of (g : Int) : (partsOf c xs g).filter (fun x => x.k == 2) = blkP c (Mm.of c xs) g := by
  unfold partsOf blkP
  have e : ifM (Mm.of c xs) g = aInfo c xs g := rfl
  rw [e]
  simp only
  cases h2 : (aInfo c xs g).k == 2 with
  | true =>
    have h2' : (aInfo c xs g).k = 2 := by simpa using h2
    simp [h2']
  | false =>
    cases h1 : (aInfo c xs g).k == 1 with
    | true =>
      have h1' : (aInfo c xs g).k = 1 := by simpa using h1
      simp [h1']
    | false =>
      cases h3 : (aInfo c xs g).k == 3 with
      | false => simp
      | true =>
        simp only [Bool.or_self, cond_false, cond_true]
        unfold slabL
        cases decide (0 < slabRest c (aInfo c xs g).c) with
        | false => simp only [cond_false]; exact slB_of _ _ _
        | true =>
          simp only [cond_true, List.filter_append, slB_of]
          simp
theorem blkF_of : ∀ n : Nat, (partsF c xs n).filter (fun x => x.k == 2) = blkF c (Mm.of c xs) n
  | 0 => rfl
  | n + 1 => by rw [partsF, List.filter_append, blkF_of n, blkP_of]; rfl
theorem blocks_eq : blocksL c xs = blkF c (Mm.of c xs) c.p.toNat := blkF_of _
theorem blkF_congr {m m' : Mm} : ∀ {n : Nat}, (∀ q : Int, 0 ≤ q → q < n → blkP c m' q = blkP c m q) → blkF c m' n = blkF c m n
  | 0, _ => rfl
  | n + 1, h => by
    simp only [blkF]
    rw [blkF_congr (n := n) fun q a b => h q a (by push_cast; omega), h n (by omega) (by push_cast; omega)]
theorem blkP_congr {m m' : Mm} {q : Int} (h1 : m'.info q = m.info q) (h2 : m'.slots q = m.slots q) : blkP c m' q = blkP c m q := by
  have e : ifM m' q = ifM m q := by unfold ifM; rw [h1]
  have e2 : ∀ k n, slB c m' q k n = slB c m q k n := fun k n => by
    induction n with
    | zero => rfl
    | succ n ih => simp only [slB, ih, h2]
  unfold blkP
  rw [e, e2]
def RootM (c : Cf) (m : Mm) : Prop := ∀ k : Int, 0 ≤ k → k < 8 → m.root k = 0 ∨ ∃ x ∈ blkF c m c.p.toNat, x.a = m.root k
theorem rootsF_iff (l : List Int) : ∀ k : Nat, rootsF xs l k = true ↔ ∀ q : Int, 8 - k ≤ q → q < 8 → (cel xs (cRoot q) = 0 ∨ cel xs (cRoot q) ∈ l)
  | 0 => by
    simp only [rootsF, true_iff]
    intro q h1 h2; omega
  | k + 1 => by
    have e : rootsF xs l (k + 1) = ((cel xs (cRoot (8 - (k + 1 : Nat))) == 0 || l.contains (cel xs (cRoot (8 - (k + 1 : Nat))))) && rootsF xs l k) := by
      simp only [rootsF, bne]
      cases cel xs (cRoot (8 - (k + 1 : Nat))) == 0 <;> cases l.contains (cel xs (cRoot (8 - (k + 1 : Nat)))) <;> simp
    rw [e]
    exact uptoN (P := fun q => cel xs (cRoot q) = 0 ∨ cel xs (cRoot q) ∈ l) (by simp) (rootsF_iff l k)
theorem roots_iff : rootsOk c xs = true ↔ RootM c (Mm.of c xs) := by
  unfold rootsOk RootM
  rw [rootsF_iff, blocks_eq]
  constructor
  · intro h k g1 g2
    rcases h k (by omega) g2 with h | h
    · exact .inl h
    · obtain ⟨x, h1, h2⟩ := List.mem_map.1 h
      exact .inr ⟨x, h1, h2⟩
  · intro h k g1 g2
    rcases h k (by omega) g2 with h | ⟨x, h1, h2⟩
    · exact .inl h
    · exact .inr (List.mem_map.2 ⟨x, h1, h2⟩)
structure SoundM (c : Cf) (m : Mm) (L : List Sp) : Prop where
  snd : SndM c m L
  cnt : CntM c m
  rts : RootM c m
theorem sound_iff (hb : bdAll xs) : soundA c xs = true ↔ AGood c xs ∧ ∃ L, SoundM c (Mm.of c xs) L := by
  constructor
  · intro h
    obtain ⟨h1, ⟨L, h2⟩, h3, h4⟩ := snd_of hb h
    exact ⟨h1, L, h2, counts_iff.1 h3, roots_iff.1 h4⟩
  · rintro ⟨h1, L, h2⟩
    exact snd_to h1 h2.snd (counts_iff.2 h2.cnt) (roots_iff.2 h2.rts)
end
end Go.Proofs.YtcbeifgnccbfbaaGreat
namespace Go.Proofs.YtcbeifgnccbfbaaGreat
open Go.Sl
structure MEq (c : Cf) (m m' : Mm) : Prop where
  info : ∀ q : Int, 0 ≤ q → q < c.p → m'.info q = m.info q
  foot : ∀ q : Int, 0 ≤ q → q < c.p → m'.foot q = m.foot q
  next : ∀ q : Int, 0 ≤ q → q < c.p → m'.next q = m.next q
  prev : ∀ q : Int, 0 ≤ q → q < c.p → m'.prev q = m.prev q
  slots : ∀ q : Int, 0 ≤ q → q < c.p → m'.slots q = m.slots q
  taken : ∀ q : Int, 0 ≤ q → q < c.p → m'.taken q = m.taken q
  bin : ∀ k : Int, 0 ≤ k → k < 11 → m'.bin k = m.bin k
  rack : ∀ k : Int, 0 ≤ k → k < 9 → m'.rack k = m.rack k
  root : ∀ k : Int, 0 ≤ k → k < 8 → m'.root k = m.root k
  fr : m'.fr = m.fr
  lv : m'.lv = m.lv
section
variable {c : Cf} {m m' : Mm}
theorem ifM_eq {q : Int} (h : m'.info q = m.info q) : ifM m' q = ifM m q := by unfold ifM; rw [h]
theorem inM_eq {q : Int} (h : m'.info q = m.info q) (h2 : m'.taken q = m.taken q) : inM m' q = inM m q := by unfold inM; rw [ifM_eq h, h2]
theorem binM_eq {q : Int} (h : m'.info q = m.info q) (k : Int) : binM m' k q = binM m k q := by unfold binM; rw [ifM_eq h]
theorem rackM_eq {q : Int} (h : m'.info q = m.info q) (h2 : m'.taken q = m.taken q) (k : Int) : rackM m' k q = rackM m k q := by unfold rackM; rw [ifM_eq h, h2]
theorem badM_eq {q : Int} (h : m'.info q = m.info q) (h1 : m'.slots q = m.slots q) (h2 : m'.taken q = m.taken q) (b : Int) : badM m' q b = badM m q b := by unfold badM; rw [ifM_eq h, h1, h2]
theorem LsOk.of_eq {h : Hq} {g g' : Int → Bool} {l : List Int} (H : LsOk c m h g l) (e0 : m'.hd h = m.hd h) (e1 : ∀ q ∈ l, m'.next q = m.next q) (e2 : ∀ q ∈ l, m'.prev q = m.prev q) (e3 : ∀ q : Int, 0 ≤ q → q < c.p → g' q = g q) : LsOk c m' h g' l := by
  obtain ⟨⟨b', h1⟩, h2, h3⟩ := H
  refine ⟨⟨b', ?_⟩, h2, fun q => ?_⟩
  · rw [e0]; exact Sg'.of_eq h1 e1 e2
  · rw [h3 q]
    constructor
    · rintro ⟨a, b⟩; exact ⟨a, by rw [e3 q a.1 a.2]; exact b⟩
    · rintro ⟨a, b⟩; exact ⟨a, by rw [← e3 q a.1 a.2]; exact b⟩
theorem LsOk.pg {h : Hq} {g : Int → Bool} {l : List Int} (H : LsOk c m h g l) {q : Int} (hq : q ∈ l) : 0 ≤ q ∧ q < c.p := ((H.2.2 q).1 hq).1
theorem SndM.congr {L : List Sp} (S : SndM c m L) (e : MEq c m m') : SndM c m' L :=
  { tl := Tl.of_eq S.tl (fun q a b => e.info q a b) fun q a b => e.foot q a b
    ap := S.ap
    bits := fun q a b k g1 g2 => by rw [badM_eq (e.info q a b) (e.slots q a b) (e.taken q a b)]; exact S.bits q a b k g1 g2
    some := fun q a b => by rw [ifM_eq (e.info q a b), e.taken q a b]; exact S.some q a b
    bins := fun k a b => by
      obtain ⟨l, h⟩ := S.bins k a b
      exact ⟨l, h.of_eq (e.bin k a b) (fun q hq => e.next q (h.pg hq).1 (h.pg hq).2) (fun q hq => e.prev q (h.pg hq).1 (h.pg hq).2) fun q g1 g2 => binM_eq (e.info q g1 g2) k⟩
    racks := fun k a b => by
      obtain ⟨l, h⟩ := S.racks k a b
      exact ⟨l, h.of_eq (e.rack k a b) (fun q hq => e.next q (h.pg hq).1 (h.pg hq).2) (fun q hq => e.prev q (h.pg hq).1 (h.pg hq).2) fun q g1 g2 => rackM_eq (e.info q g1 g2) (e.taken q g1 g2) k⟩
    loose := fun q a b => by rw [inM_eq (e.info q a b) (e.taken q a b), e.next q a b, e.prev q a b]; exact S.loose q a b }
theorem frP_eq {q : Int} (h : m'.info q = m.info q) : frP m' q = frP m q := by unfold frP; rw [ifM_eq h]
theorem lvP_eq {q : Int} (h : m'.info q = m.info q) (h1 : m'.slots q = m.slots q) : lvP m' q = lvP m q := by unfold lvP; rw [ifM_eq h, h1]
theorem blkF_eq (h : ∀ q : Int, 0 ≤ q → q < c.p → m'.info q = m.info q) (h1 : ∀ q : Int, 0 ≤ q → q < c.p → m'.slots q = m.slots q) : blkF c m' c.p.toNat = blkF c m c.p.toNat := blkF_congr fun q a b => blkP_congr (h q a (by omega)) (h1 q a (by omega))
theorem CntM.congr (S : CntM c m) (e : MEq c m m') : CntM c m' := by
  unfold CntM at *
  rw [e.fr, e.lv, smF_congr (f := frP m') (g := frP m) fun q a b => frP_eq (e.info q a (by omega)), smF_congr (f := lvP m') (g := lvP m) fun q a b => lvP_eq (e.info q a (by omega)) (e.slots q a (by omega))]
  exact S
theorem RootM.congr (S : RootM c m) (e : MEq c m m') : RootM c m' := fun k a b => by
  rw [e.root k a b, blkF_eq e.info e.slots]; exact S k a b
theorem SoundM.congr {L : List Sp} (S : SoundM c m L) (e : MEq c m m') : SoundM c m' L := ⟨S.snd.congr e, S.cnt.congr e, S.rts.congr e⟩
end
end Go.Proofs.YtcbeifgnccbfbaaGreat
namespace Go.Proofs.YtcbeifgnccbfbaaGreat
open Go.Sl
structure ListsM (c : Cf) (m : Mm) (G : Hq → Int → Bool) : Prop where
  ls : ∀ h : Hq, h.ok → ∃ l, LsOk c m h (G h) l
  lo : ∀ q : Int, 0 ≤ q → q < c.p → (∃ h : Hq, h.ok ∧ G h q = true) ∨ (m.next q = 0 ∧ m.prev q = 0)
  one : ∀ h h' : Hq, h.ok → h'.ok → h ≠ h' → ∀ q : Int, 0 ≤ q → q < c.p → G h q = true → G h' q = true → False
def gAdd (G : Hq → Int → Bool) (h : Hq) (a : Int) : Hq → Int → Bool := fun h' q => G h' q || (decide (h' = h) && decide (q = a))
def gDel (G : Hq → Int → Bool) (h : Hq) (a : Int) : Hq → Int → Bool := fun h' q => G h' q && !(decide (h' = h) && decide (q = a))
section
variable {c : Cf} {m : Mm} {G : Hq → Int → Bool} {h : Hq} {a : Int}
theorem DL.hd_in {l : List Int} (H : DL m c.p h l) (h0 : m.hd h ≠ 0) : m.hd h - 1 ∈ l := by
  obtain ⟨b', H⟩ := H
  cases l with
  | nil => exact absurd H.1 h0
  | cons x r => have := H.1; simp only [List.mem_cons]; left; omega
theorem ListsM.hd_ok (S : ListsM c m G) (hh : h.ok) : m.hd h = 0 ∨ (0 ≤ m.hd h - 1 ∧ m.hd h - 1 < c.p) := by
  obtain ⟨l, H⟩ := S.ls h hh
  by_cases h0 : m.hd h = 0
  · exact .inl h0
  · exact .inr (H.pg (DL.hd_in (c := c) H.1 h0))
theorem ListsM.push (S : ListsM c m G) (hh : h.ok) (ha : 0 ≤ a ∧ a < c.p) (hn : ∀ h' : Hq, h'.ok → G h' a = false) : ListsM c (mPush m h a) (gAdd G h a) := by
  obtain ⟨l, H⟩ := S.ls h hh
  have hal : a ∉ l := fun e => by have := ((H.2.2 a).1 e).2; rw [hn h hh] at this; cases this
  refine ⟨fun h' hh' => ?_, fun q g1 g2 => ?_, fun h1 h2 k1 k2 hne q g1 g2 e1 e2 => ?_⟩
  · by_cases e : h' = h
    · subst e
      refine ⟨a :: l, push_list H.1 ha hal H.2.1, List.nodup_cons.2 ⟨hal, H.2.1⟩, fun q => ?_⟩
      simp only [List.mem_cons, gAdd, decide_true, Bool.true_and, Bool.or_eq_true, decide_eq_true_eq]
      rw [H.2.2 q]
      constructor
      · rintro (rfl | ⟨b1, b2⟩)
        · exact ⟨ha, .inr rfl⟩
        · exact ⟨b1, .inl b2⟩
      · rintro ⟨b1, b2 | b2⟩
        · exact .inr ⟨b1, b2⟩
        · exact .inl b2
    · obtain ⟨l', H'⟩ := S.ls h' hh'
      have hal' : a ∉ l' := fun e => by have := ((H'.2.2 a).1 e).2; rw [hn h' hh'] at this; cases this
      refine ⟨l', push_other H.1 H'.1 e hal' (fun y b1 b2 => ?_), H'.2.1, fun q => ?_⟩
      · have c1 := (H.2.2 y).1 b1
        have c2 := (H'.2.2 y).1 b2
        exact S.one h' h hh' hh e y c1.1.1 c1.1.2 c2.2 c1.2
      · rw [H'.2.2 q]
        have : decide (h' = h) = false := by simpa using e
        simp only [gAdd, this, Bool.false_and, Bool.or_false]
  · by_cases e : q = a
    · left; exact ⟨h, hh, by simp [gAdd, e]⟩
    · rcases S.lo q g1 g2 with ⟨h', k1, k2⟩ | ⟨k1, k2⟩
      · left; exact ⟨h', k1, by simp [gAdd, k2]⟩
      · by_cases e2 : m.hd h ≠ 0 ∧ q = m.hd h - 1
        · left
          have := (H.2.2 q).1 (by rw [e2.2]; exact DL.hd_in (c := c) H.1 e2.1)
          exact ⟨h, hh, by simp [gAdd, this.2]⟩
        · right
          rw [push_next, push_prev, if_neg e, if_neg e2, if_neg e]
          exact ⟨k1, k2⟩
  · simp only [gAdd, Bool.or_eq_true, Bool.and_eq_true, decide_eq_true_eq] at e1 e2
    rcases e1 with e1 | ⟨e1, f1⟩ <;> rcases e2 with e2 | ⟨e2, f2⟩
    · exact S.one h1 h2 k1 k2 hne q g1 g2 e1 e2
    · rw [f2, hn h1 k1] at e1; cases e1
    · rw [f1, hn h2 k2] at e2; cases e2
    · exact hne (e1.trans e2.symm)
theorem nb_in {l1 l2 : List Int} (H : DL m c.p h (l1 ++ a :: l2)) : (m.next a ≠ 0 → m.next a - 1 ∈ l2) ∧ (m.prev a ≠ 0 → m.prev a - 1 ∈ l1) := by
  obtain ⟨b', H⟩ := H
  obtain ⟨q1, b1, H1, H2⟩ := Sg'.app.1 H
  obtain ⟨e1, e2, e3, e4⟩ := H2
  constructor
  · intro h0
    cases l2 with
    | nil => exact absurd e4.1 h0
    | cons x r => have := e4.1; simp only [List.mem_cons]; left; omega
  · intro h0
    cases l1 with
    | nil => have h2 := H1.2; exact absurd (e3.trans h2.symm) h0
    | cons x r =>
      obtain ⟨y, hy, e⟩ := Sg'.last H1 (by simp)
      rw [e3, e]; simpa using hy
theorem ListsM.nb_ok (S : ListsM c m G) (hh : h.ok) (ha : 0 ≤ a ∧ a < c.p) (hg : G h a = true) : (m.next a = 0 ∨ (0 ≤ m.next a - 1 ∧ m.next a - 1 < c.p)) ∧ (m.prev a = 0 ∨ (0 ≤ m.prev a - 1 ∧ m.prev a - 1 < c.p)) := by
  obtain ⟨l, H⟩ := S.ls h hh
  obtain ⟨l1, l2, e⟩ := List.append_of_mem ((H.2.2 a).2 ⟨ha, hg⟩)
  subst e
  have hn := nb_in (c := c) H.1
  constructor
  · by_cases h0 : m.next a = 0
    · exact .inl h0
    · exact .inr (H.pg (by simp [hn.1 h0]))
  · by_cases h0 : m.prev a = 0
    · exact .inl h0
    · exact .inr (H.pg (by simp [hn.2 h0]))
theorem ListsM.pull (S : ListsM c m G) (hh : h.ok) (ha : 0 ≤ a ∧ a < c.p) (hg : G h a = true) : ListsM c (mPull m h a) (gDel G h a) := by
  obtain ⟨l, H⟩ := S.ls h hh
  have hal := (H.2.2 a).2 ⟨ha, hg⟩
  obtain ⟨l1, l2, e⟩ := List.append_of_mem hal
  subst e
  have hnd := H.2.1
  have hnb := nb_in (c := c) H.1
  have hna : a ∉ l1 ++ l2 := by
    have := hnd
    rw [List.nodup_append] at this
    obtain ⟨n1, n2, n3⟩ := this
    have n4 := List.nodup_cons.1 n2
    rw [List.mem_append]
    rintro (e | e)
    · exact n3 a e a (by simp) rfl
    · exact n4.1 e
  refine ⟨fun h' hh' => ?_, fun q g1 g2 => ?_, fun h1 h2 k1 k2 hne q g1 g2 e1 e2 => ?_⟩
  · by_cases e : h' = h
    · subst e
      refine ⟨l1 ++ l2, pull_list H.1 hnd, ?_, fun q => ?_⟩
      · exact hnd.sublist (List.Sublist.append (List.Sublist.refl l1) (List.sublist_cons_self a l2))
      · simp only [gDel, decide_true, Bool.true_and, Bool.and_eq_true, Bool.not_eq_true', decide_eq_false_iff_not]
        have hq := H.2.2 q
        constructor
        · intro hm
          have h5 := hq.1 (by simp only [List.mem_append, List.mem_cons] at hm ⊢; rcases hm with hm | hm; exact .inl hm; exact .inr (.inr hm))
          exact ⟨h5.1, h5.2, fun e => hna (e ▸ hm)⟩
        · rintro ⟨b1, b2, b3⟩
          have := hq.2 ⟨b1, b2⟩
          simp only [List.mem_append, List.mem_cons] at this ⊢
          rcases this with h5 | h5 | h5
          · exact .inl h5
          · exact absurd h5 b3
          · exact .inr h5
    · obtain ⟨l', H'⟩ := S.ls h' hh'
      refine ⟨l', pull_other H.1 hal H'.1 e (fun y b1 b2 => ?_), H'.2.1, fun q => ?_⟩
      · have c1 := (H.2.2 y).1 b1
        have c2 := (H'.2.2 y).1 b2
        exact S.one h' h hh' hh e y c1.1.1 c1.1.2 c2.2 c1.2
      · rw [H'.2.2 q]
        have : decide (h' = h) = false := by simpa using e
        simp only [gDel, this, Bool.false_and, Bool.not_false, Bool.and_true]
  · by_cases e : q = a
    · right; rw [pull_next, pull_prev, if_pos e, if_pos e]; exact ⟨rfl, rfl⟩
    · rcases S.lo q g1 g2 with ⟨h', k1, k2⟩ | ⟨k1, k2⟩
      · left; exact ⟨h', k1, by simp [gDel, k2, e]⟩
      · by_cases e1 : m.prev a ≠ 0 ∧ q = m.prev a - 1
        · left
          have := (H.2.2 q).1 (by rw [e1.2]; simp [hnb.2 e1.1])
          exact ⟨h, hh, by simp [gDel, this.2, e]⟩
        · by_cases e2 : m.next a ≠ 0 ∧ q = m.next a - 1
          · left
            have := (H.2.2 q).1 (by rw [e2.2]; simp [hnb.1 e2.1])
            exact ⟨h, hh, by simp [gDel, this.2, e]⟩
          · right
            rw [pull_next, pull_prev, if_neg e, if_neg e, if_neg e1, if_neg e2]
            exact ⟨k1, k2⟩
  · simp only [gDel, Bool.and_eq_true] at e1 e2
    exact S.one h1 h2 k1 k2 hne q g1 g2 e1.1 e2.1
def gM (m : Mm) : Hq → Int → Bool
  | .bin k => binM m k
  | .rack k => rackM m k
structure ShapeM (c : Cf) (m : Mm) (L : List Sp) : Prop where
  tl : Tl m 0 L c.p
  ap : ∀ i : Nat, i + 1 < L.length → ¬ ((L.getD i ⟨0, 0, 0⟩).k = 1 ∧ (L.getD (i + 1) ⟨0, 0, 0⟩).k = 1)
  bits : ∀ q : Int, 0 ≤ q → q < c.p → ∀ b : Int, 0 ≤ b → b < 32 → badM m q b = false
  some : ∀ q : Int, 0 ≤ q → q < c.p → ((ifM m q).k == 3 && m.taken q == 0) = false
theorem logI_bd {n : Int} (h : 1 ≤ n ∧ n ≤ 1024) : 0 ≤ logI n ∧ logI n < 11 := by
  unfold logI
  rw [if_neg (by omega)]
  have : Nat.log2 n.toNat < 11 := (Nat.log2_lt (by omega)).2 (by omega)
  omega
theorem iGet_one {v : Int} (h : (iGet v).k = 1) : 1 ≤ (iGet v).l ∧ (iGet v).l ≤ 1024 := by
  have := iGet_right v
  rw [h] at this
  have e : (decide (1 ≤ (iGet v).l) && decide ((iGet v).l ≤ 1024) && ((iGet v).c == 0)) = true := this
  simp only [Bool.and_eq_true, decide_eq_true_eq] at e
  exact e.1
theorem iGet_three {v : Int} (h : (iGet v).k = 3) : 0 ≤ (iGet v).c ∧ (iGet v).c ≤ 8 ∧ (iGet v).l = 1 := by
  have := iGet_right v
  rw [h] at this
  have e : ((iGet v).l == 1 && (decide (0 ≤ (iGet v).c) && decide ((iGet v).c ≤ 8))) = true := this
  simp only [Bool.and_eq_true, decide_eq_true_eq, beq_iff_eq] at e
  exact ⟨e.2.1, e.2.2, e.1⟩
theorem snd_iff {L : List Sp} : SndM c m L ↔ ShapeM c m L ∧ ListsM c m (gM m) := by
  constructor
  · intro S
    refine ⟨⟨S.tl, S.ap, S.bits, S.some⟩, fun h hh => ?_, fun q g1 g2 => ?_, fun h h' k1 k2 hne q g1 g2 e1 e2 => ?_⟩
    · cases h with
      | bin k => exact S.bins k hh.1 hh.2
      | rack k => exact S.racks k hh.1 hh.2
    · rcases S.loose q g1 g2 with h | h
      · left
        unfold inM at h
        simp only [Bool.or_eq_true, beq_iff_eq, Bool.and_eq_true] at h
        rcases h with h | ⟨h, h2⟩
        · refine ⟨.bin (logI (ifM m q).l), logI_bd (iGet_one h), ?_⟩
          simp [gM, binM, h]
        · refine ⟨.rack (ifM m q).c, (by have := iGet_three h; exact ⟨this.1, (by have := this.2.1; show (iGet (m.info q)).c < 9; omega)⟩), ?_⟩
          simp only [gM, rackM, h, h2, beq_self_eq_true, Bool.and_true]
      · exact .inr h
    · cases h with
      | bin k =>
        cases h' with
        | bin k' =>
          simp only [gM, binM, Bool.and_eq_true, beq_iff_eq] at e1 e2
          exact hne (by rw [← e1.2, e2.2])
        | rack k' =>
          simp only [gM, binM, rackM, Bool.and_eq_true, beq_iff_eq] at e1 e2
          rw [e1.1] at e2; exact absurd e2.1.1 (by decide)
      | rack k =>
        cases h' with
        | bin k' =>
          simp only [gM, binM, rackM, Bool.and_eq_true, beq_iff_eq] at e1 e2
          rw [e2.1] at e1; exact absurd e1.1.1 (by decide)
        | rack k' =>
          simp only [gM, rackM, Bool.and_eq_true, beq_iff_eq] at e1 e2
          exact hne (by rw [← e1.1.2, e2.1.2])
  · rintro ⟨S, T⟩
    exact
      { tl := S.tl, ap := S.ap, bits := S.bits, some := S.some
        bins := fun k a b => T.ls (.bin k) ⟨a, b⟩
        racks := fun k a b => T.ls (.rack k) ⟨a, b⟩
        loose := fun q a b => by
          rcases T.lo q a b with ⟨h, h1, h2⟩ | h
          · left
            cases h with
            | bin k =>
              simp only [gM, binM, Bool.and_eq_true] at h2
              simp only [inM, h2.1, Bool.true_or]
            | rack k =>
              simp only [gM, rackM, Bool.and_eq_true] at h2
              have e : (ifM m q).c = k := by simpa using h2.1.2
              simp only [inM, h2.1.1, e, h2.2, Bool.and_true, Bool.or_true]
          · exact .inr h }
theorem ListsM.of_eq {m' : Mm} {G' : Hq → Int → Bool} (S : ListsM c m G) (e0 : ∀ h : Hq, m'.hd h = m.hd h) (e1 : m'.next = m.next) (e2 : m'.prev = m.prev) (e3 : ∀ h : Hq, h.ok → ∀ q : Int, 0 ≤ q → q < c.p → G' h q = G h q) : ListsM c m' G' where
  ls := fun h hh => by
    obtain ⟨l, H⟩ := S.ls h hh
    exact ⟨l, H.of_eq (e0 h) (fun q _ => by rw [e1]) (fun q _ => by rw [e2]) (e3 h hh)⟩
  lo := fun q g1 g2 => by
    rw [e1, e2]
    rcases S.lo q g1 g2 with ⟨h, k1, k2⟩ | k
    · exact .inl ⟨h, k1, by rw [e3 h k1 q g1 g2]; exact k2⟩
    · exact .inr k
  one := fun h h' k1 k2 hne q g1 g2 a b => S.one h h' k1 k2 hne q g1 g2 (by rw [← e3 h k1 q g1 g2]; exact a) (by rw [← e3 h' k2 q g1 g2]; exact b)
end
end Go.Proofs.YtcbeifgnccbfbaaGreat
namespace Go.Proofs.YtcbeifgnccbfbaaGreat
open Go.Sl
theorem iRight_bd {k l x : Int} (h : iRight k l x = true) : (0 ≤ k ∧ k ≤ 3) ∧ (0 ≤ l ∧ l ≤ 1024) ∧ 0 ≤ x ∧ x ≤ 8 := by
  unfold iRight at h
  cases h0 : k == 0 with
  | true =>
    rw [h0] at h
    simp only [cond_true, Bool.and_eq_true, beq_iff_eq] at h h0
    omega
  | false =>
    rw [h0] at h
    simp only [cond_false] at h
    cases h1 : (k == 1 || k == 2) with
    | true =>
      rw [h1] at h
      simp only [cond_true, Bool.and_eq_true, decide_eq_true_eq, beq_iff_eq, Bool.or_eq_true] at h h1
      omega
    | false =>
      rw [h1] at h
      simp only [cond_false] at h
      cases h3 : k == 3 with
      | false => rw [h3] at h; cases h
      | true =>
        rw [h3] at h
        simp only [cond_true, Bool.and_eq_true, decide_eq_true_eq, beq_iff_eq] at h h3
        omega
theorem iVal_get {k l x : Int} (h : iRight k l x = true) : iGet (iVal k l x) = ⟨k, l, x⟩ ∧ infoOk (iVal k l x) = true ∧ nv (iVal k l x) = iVal k l x := by
  have hb := iRight_bd h
  have e : iVal k l x = k + 16 * l + 65536 * x := by unfold iVal; rw [h]; rfl
  have e1 : (k + 16 * l + 65536 * x) % 16 = k := by omega
  have e2 : (k + 16 * l + 65536 * x) / 16 % 4096 = l := by omega
  have e3 : (k + 16 * l + 65536 * x) / 65536 = x := by omega
  rw [e]
  unfold iGet infoOk
  rw [e1, e2, e3, h]
  exact ⟨rfl, rfl, by unfold nv; omega⟩
section
variable {c : Cf} {m : Mm} {s : VS} {a n : Int}
def mSpan (m : Mm) (k a n : Int) : Mm := { m with info := fset m.info a (iVal k n 0), foot := fset m.foot (a + n - 1) (nv (a + 1)) }
def mAdd (m : Mm) (a n : Int) : Mm := mPush (mSpan m 1 a n) (.bin (logI n)) a
theorem span_right {k : Int} (hk : k = 1 ∨ k = 2) (hn : 1 ≤ n ∧ n ≤ 1024) : iRight k n 0 = true := by
  rcases hk with rfl | rfl <;> simp [iRight, hn]
theorem nvnv (x : Int) : nv (nv x) = nv x := by unfold nv; omega
theorem add_at (h : At c s m) (ha : 0 ≤ a ∧ a < c.p) (hn : 1 ≤ n ∧ n ≤ c.p - a) (hh : m.bin (logI n) = 0 ∨ (0 ≤ m.bin (logI n) - 1 ∧ m.bin (logI n) - 1 < c.p)) : At c ((pAdd c a n).run s).1 (mAdd m a n) := by
  have hp := Cf.ok_iff.1 h.ok
  have hb := logI_bd (n := n) (by omega)
  have hr := iVal_get (span_right (n := n) (.inl rfl) (by omega))
  have eb : binOf n = logI n := by
    unfold binOf
    have : decide (n > 1024) = false := by simp; omega
    rw [this]; rfl
  unfold pAdd
  have e : (c.page a && (decide (1 ≤ n) && decide (n ≤ c.p - a))) = true := by
    rw [Cf.page_iff.2 ha]; simp [hn]
  rw [e, cond_true]
  simp only [Pg.run_put]
  have h1 := (h.set_info ha (iVal 1 n 0)).set_foot (g := a + n - 1) (by omega) (nv (a + 1))
  rw [hr.2.2, nvnv] at h1
  rw [eb]
  exact push_at (q := .bin (logI n)) h1 hb ha hh
def mDrop (m : Mm) (a : Int) : Mm := mPull m (.bin (logI (ifM m a).l)) a
theorem free_at (h : At c s m) (ha : 0 ≤ a ∧ a < c.p) : At c ((pFree c a).run s).1 m ∧ ((pFree c a).run s).2 = bif (ifM m a).k == 1 then (ifM m a).l else 0 := by
  unfold pFree
  simp only [Pg.run_get, Pg.run_ret]
  rw [h.get_info ha]
  exact ⟨h.read _, rfl⟩
theorem drop_at' {G : Hq → Int → Bool} (h : At c s m) (ha : 0 ≤ a ∧ a < c.p) (hk : (ifM m a).k = 1) (S : ListsM c m G) (hG : G (.bin (logI (ifM m a).l)) a = true) : At c ((pDrop c a).run s).1 (mDrop m a) ∧ ((pDrop c a).run s).2 = (ifM m a).l := by
  have hl := iGet_one hk
  have hb := logI_bd hl
  have hl' : 1 ≤ (ifM m a).l ∧ (ifM m a).l ≤ 1024 := hl
  have eb : binOf (ifM m a).l = logI (ifM m a).l := by
    unfold binOf
    have : decide ((ifM m a).l > 1024) = false := by simp; omega
    rw [this]; rfl
  obtain ⟨f1, f2⟩ := free_at h ha
  rw [hk] at f2
  unfold pDrop
  rw [Cf.page_iff.2 ha, cond_true]
  simp only [Pg.run_bind, Pg.run_ret, f2, beq_self_eq_true, cond_true]
  have e : decide (0 < (ifM m a).l) = true := by simp; omega
  rw [e, cond_true, eb]
  have hn := S.nb_ok (h := .bin (logI (ifM m a).l)) hb ha hG
  exact ⟨pull_at (q := .bin (logI (ifM m a).l)) f1 hb ha hn.1 hn.2, trivial⟩
theorem iGet_zero : iGet 0 = ⟨0, 0, 0⟩ := rfl
theorem Tl.at {b q : Int} : ∀ {L : List Sp} {a : Int}, Tl m a L b → a ≤ q → q < b → (ifM m q).k ≠ 0 → ∃ L1 x L2, L = L1 ++ x :: L2 ∧ Tl m a L1 q ∧ Spn m q x ∧ Tl m (q + x.l) L2 b
  | [], a, h, h1, h2, _ => by have h : a = b := h; omega
  | x :: L, a, ⟨h, hr⟩, h1, h2, h3 => by
    by_cases e : q = a
    · subst e; exact ⟨[], x, L, rfl, rfl, h, hr⟩
    · by_cases e2 : q < a + x.l
      · exfalso
        apply h3
        unfold ifM
        rw [h.in0 q (by omega) e2, iGet_zero]
      · obtain ⟨L1, y, L2, g1, g2, g3, g4⟩ := Tl.at hr (by omega) h2 h3
        exact ⟨x :: L1, y, L2, by rw [g1]; rfl, ⟨h, g2⟩, g3, g4⟩
theorem pull_same (h : Hq) : (mPull m h a).info = m.info ∧ (mPull m h a).foot = m.foot ∧ (mPull m h a).slots = m.slots ∧ (mPull m h a).taken = m.taken ∧ (mPull m h a).root = m.root ∧ (mPull m h a).fr = m.fr ∧ (mPull m h a).lv = m.lv ∧ (mPull m h a).dn = m.dn := by
  unfold mPull
  dsimp only
  cases m.prev a == 0 <;> cases m.next a == 0 <;> cases h <;> exact ⟨rfl, rfl, rfl, rfl, rfl, rfl, rfl, rfl⟩
theorem push_same (h : Hq) : (mPush m h a).info = m.info ∧ (mPush m h a).foot = m.foot ∧ (mPush m h a).slots = m.slots ∧ (mPush m h a).taken = m.taken ∧ (mPush m h a).root = m.root ∧ (mPush m h a).fr = m.fr ∧ (mPush m h a).lv = m.lv ∧ (mPush m h a).dn = m.dn := by
  unfold mPush
  dsimp only
  cases m.hd h == 0 <;> cases h <;> exact ⟨rfl, rfl, rfl, rfl, rfl, rfl, rfl, rfl⟩
end
end Go.Proofs.YtcbeifgnccbfbaaGreat
namespace Go.Proofs.YtcbeifgnccbfbaaGreat
open Go.Sl
section
variable {c : Cf} {xs : List Int} {m : Mm} {s : VS}
theorem whole_cur (hx : AGood c xs) {i : Int} (h : 0 ≤ i ∧ i < c.cells) : (VS.whole xs).cur i = cel xs i := by
  have hl := hx.len
  have e : (decide (0 ≤ i) && decide (i < (xs.length : Int))) = true := by
    simp only [Bool.and_eq_true, decide_eq_true_eq]; omega
  have hb := cel_bd hx i
  have : (VS.whole xs).cur i = nv (cel xs i) := by
    unfold VS.cur VS.whole
    simp only [mnil, e, cond_true]; rfl
  rw [this, nv_id hb]
theorem at_whole (hx : AGood c xs) : At c (VS.whole xs) (Mm.of c xs) := by
  have hok := Cf.ok_iff.1 hx.ok
  have hl := hx.len
  have hc : c.cells = 30 + 4 * c.t + 6 * c.p := by unfold Cf.cells; rw [hx.ok]; rfl
  have pc : ∀ g k : Int, 0 ≤ g ∧ g < c.p → c.pc g k = 30 + 4 * c.t + 6 * g + k := fun g k hg => by
    unfold Cf.pc; rw [hx.ok, Cf.page_iff.2 hg]; rfl
  have P : ∀ g k : Int, (0 ≤ g ∧ g < c.p) → 0 ≤ k ∧ k ≤ 5 → (VS.whole xs).cur (30 + 4 * c.t + 6 * g + k) = cel xs (c.pc g k) := fun g k hg hk => by
    rw [pc g k hg]; exact whole_cur hx (by omega)
  exact
    { ok := hx.ok, full := VS.whole_full xs, n := hl
      info := fun g hg => P g 0 hg (by omega), foot := fun g hg => P g 1 hg (by omega), next := fun g hg => P g 2 hg (by omega), prev := fun g hg => P g 3 hg (by omega), slots := fun g hg => P g 4 hg (by omega), taken := fun g hg => P g 5 hg (by omega)
      bin := fun k hk => by
        have e : (decide (0 ≤ k) && decide (k < 11)) = true := by simpa using hk
        show _ = cel xs (cBin k)
        unfold cBin; rw [e]; exact whole_cur hx (by omega)
      rack := fun k hk => by
        have e : (decide (0 ≤ k) && decide (k < 9)) = true := by simpa using hk
        show _ = cel xs (cRack k)
        unfold cRack; rw [e]; exact whole_cur hx (by omega)
      root := fun k hk => by
        have e : (decide (0 ≤ k) && decide (k < 8)) = true := by simpa using hk
        show _ = cel xs (cRoot k)
        unfold cRoot; rw [e]; exact whole_cur hx (by omega)
      dn := fun t f ht hf => by
        show _ = cel xs (c.done t f)
        have e : (c.ok && (decide (0 ≤ t) && decide (t < c.t)) && (decide (0 ≤ f) && decide (f < 4))) = true := by
          rw [hx.ok]; simp [ht, hf]
        unfold Cf.done; rw [e]; exact whole_cur hx (by omega)
      fr := whole_cur hx (by omega), lv := whole_cur hx (by omega) }
theorem cel_vals (h : At c s m) (ha : s.all = true) {i : Int} (hi : 0 ≤ i ∧ i < c.cells) : cel s.vals i = s.cur i := by
  have hn := h.n
  unfold cel VS.vals
  rw [ha]
  simp only [cond_true]
  rw [List.getD_eq_getElem?_getD, List.getElem?_map, List.getElem?_range (by omega)]
  simp only [Option.map_some, Option.getD_some]
  congr 1; omega
theorem good_vals (h : At c s m) (ha : s.all = true) : AGood c s.vals := by
  have hok := Cf.ok_iff.1 h.ok
  have hc : c.cells = 30 + 4 * c.t + 6 * c.p := by unfold Cf.cells; rw [h.ok]; rfl
  have hn := h.n
  exact
    { ok := h.ok
      len := by
        unfold VS.vals; rw [ha]; simp only [cond_true, List.length_map, List.length_range]; omega
      bd := fun v hv => by
        unfold VS.vals at hv; rw [ha] at hv
        simp only [cond_true, List.mem_map] at hv
        obtain ⟨j, _, rfl⟩ := hv
        exact cur_bd _ _ }
theorem meq_vals (h : At c s m) (ha : s.all = true) : MEq c m (Mm.of c s.vals) := by
  have hok := Cf.ok_iff.1 h.ok
  have hc : c.cells = 30 + 4 * c.t + 6 * c.p := by unfold Cf.cells; rw [h.ok]; rfl
  have P : ∀ g k : Int, (0 ≤ g ∧ g < c.p) → 0 ≤ k ∧ k ≤ 5 → cel s.vals (c.pc g k) = s.cur (30 + 4 * c.t + 6 * g + k) := fun g k hg hk => by
    have : c.pc g k = 30 + 4 * c.t + 6 * g + k := by unfold Cf.pc; rw [h.ok, Cf.page_iff.2 hg]; rfl
    rw [this]; exact cel_vals h ha (by omega)
  exact
    { info := fun q a b => (P q 0 ⟨a, b⟩ (by omega)).trans (h.info q ⟨a, b⟩), foot := fun q a b => (P q 1 ⟨a, b⟩ (by omega)).trans (h.foot q ⟨a, b⟩), next := fun q a b => (P q 2 ⟨a, b⟩ (by omega)).trans (h.next q ⟨a, b⟩), prev := fun q a b => (P q 3 ⟨a, b⟩ (by omega)).trans (h.prev q ⟨a, b⟩), slots := fun q a b => (P q 4 ⟨a, b⟩ (by omega)).trans (h.slots q ⟨a, b⟩), taken := fun q a b => (P q 5 ⟨a, b⟩ (by omega)).trans (h.taken q ⟨a, b⟩)
      bin := fun k a b => by
        have e : (decide (0 ≤ k) && decide (k < 11)) = true := by simp [a, b]
        show cel s.vals (cBin k) = _
        rw [← h.bin k ⟨a, b⟩]
        unfold cBin; rw [e, cond_true]; exact cel_vals h ha (by omega)
      rack := fun k a b => by
        have e : (decide (0 ≤ k) && decide (k < 9)) = true := by simp [a, b]
        show cel s.vals (cRack k) = _
        rw [← h.rack k ⟨a, b⟩]
        unfold cRack; rw [e, cond_true]; exact cel_vals h ha (by omega)
      root := fun k a b => by
        have e : (decide (0 ≤ k) && decide (k < 8)) = true := by simp [a, b]
        show cel s.vals (cRoot k) = _
        rw [← h.root k ⟨a, b⟩]
        unfold cRoot; rw [e, cond_true]; exact cel_vals h ha (by omega)
      fr := (cel_vals h ha (by omega)).trans h.fr, lv := (cel_vals h ha (by omega)).trans h.lv }
theorem read_all (s : VS) (i : Int) : (s.read i).all = s.all := by
  rcases VS.read_cases s i with h | ⟨_, _, _, h⟩ | ⟨_, _, _, _, h⟩ <;> rw [h]
theorem set_all (s : VS) (i x : Int) : (s.set i x).all = s.all := by
  unfold VS.set
  cases s.there i <;> rfl
theorem run_all {α : Type} (p : Pg α) : ∀ s : VS, (p.run s).1.all = s.all := by
  induction p with
  | ret a => intro s; rfl
  | get i k ih => intro s; exact (ih _ _).trans (read_all s i)
  | put i x k ih => intro s; exact (ih _).trans (set_all s i x)
end
end Go.Proofs.YtcbeifgnccbfbaaGreat
namespace Go.Proofs.YtcbeifgnccbfbaaGreat
open Go.Sl
def apF : Bool → List Sp → Bool
  | _, [] => true
  | b, x :: L => !(b && x.k == 1) && apF (x.k == 1) L
def apE : Bool → List Sp → Bool
  | b, [] => b
  | _, x :: L => apE (x.k == 1) L
theorem apF_app : ∀ (L1 L2 : List Sp) (b : Bool), apF b (L1 ++ L2) = (apF b L1 && apF (apE b L1) L2)
  | [], _, _ => by simp [apF, apE]
  | x :: L1, L2, b => by simp only [List.cons_append, apF, apE, apF_app L1 L2, Bool.and_assoc]
theorem apE_app : ∀ (L1 L2 : List Sp) (b : Bool), apE b (L1 ++ L2) = apE (apE b L1) L2
  | [], _, _ => rfl
  | x :: L1, L2, b => by simp only [List.cons_append, apE, apE_app L1 L2]
theorem apF_weak {L : List Sp} {b : Bool} (h : apF b L = true) : apF false L = true := by
  cases L with
  | nil => rfl
  | cons x L => simp only [apF, Bool.and_eq_true] at h ⊢; exact ⟨rfl, h.2⟩
theorem apF_iff : ∀ {L : List Sp}, apF false L = true ↔ ∀ i : Nat, i + 1 < L.length → ¬ ((L.getD i ⟨0, 0, 0⟩).k = 1 ∧ (L.getD (i + 1) ⟨0, 0, 0⟩).k = 1)
  | [] => by simp [apF]
  | [x] => by simp [apF]
  | x :: y :: L => by
    have ih := apF_iff (L := y :: L)
    simp only [apF, Bool.false_and, Bool.not_false, Bool.true_and, Bool.and_eq_true] at ih ⊢
    rw [ih]
    constructor
    · rintro ⟨h1, h2⟩ i hi
      cases i with
      | zero =>
        simp only [List.getD_cons_zero, List.getD_cons_succ]
        rintro ⟨a, b⟩
        rw [a, b] at h1; simp at h1
      | succ i =>
        simp only [List.getD_cons_succ]
        exact h2 i (by simp only [List.length_cons] at hi ⊢; omega)
    · intro h
      refine ⟨?_, fun i hi => ?_⟩
      · have := h 0 (by simp)
        simp only [List.getD_cons_zero, List.getD_cons_succ] at this
        cases h1 : x.k == 1 <;> cases h2 : y.k == 1 <;> simp_all
      · have := h (i + 1) (by simp only [List.length_cons] at hi ⊢; omega)
        simpa only [List.getD_cons_succ] using this
def fS : List Sp → Int
  | [] => 0
  | x :: L => (bif x.k == 1 then x.l else 0) + fS L
theorem fS_app : ∀ L1 L2 : List Sp, fS (L1 ++ L2) = fS L1 + fS L2
  | [], L2 => by simp [fS]
  | x :: L1, L2 => by simp only [List.cons_append, fS, fS_app L1 L2]; omega
theorem smF_zero (f : Int → Int) (n : Nat) : ∀ k : Nat, (∀ q : Int, n ≤ q → q < n + k → f q = 0) → smF f (n + k) = smF f n
  | 0, _ => rfl
  | k + 1, h => by
    rw [← Nat.add_assoc, smF, smF_zero f n k fun q a b => h q a (by push_cast; omega), h _ (by push_cast; omega) (by push_cast; omega)]; omega
section
variable {c : Cf} {m : Mm} {s : VS} {a n : Int}
theorem sm_tl : ∀ {L : List Sp} {a b : Int}, 0 ≤ a → Tl m a L b → smF (frP m) b.toNat = smF (frP m) a.toNat + fS L
  | [], a, b, _, h => by have h : a = b := h; subst h; simp [fS]
  | x :: L, a, b, ha, ⟨h, hr⟩ => by
    have hl := h.l1
    rw [sm_tl (by omega) hr]
    have e : (a + x.l).toNat = (a.toNat + 1) + (x.l - 1).toNat := by omega
    rw [e, smF_zero (frP m) (a.toNat + 1) _ fun q g1 g2 => ?_, smF, fS]
    · have e2 : ((a.toNat : Nat) : Int) = a := by omega
      have e3 : frP m a = bif x.k == 1 then x.l else 0 := by
        have : ifM m a = ⟨x.k, x.l, x.c⟩ := h.inf
        unfold frP; rw [this]
      rw [e2, e3]; omega
    · have : ifM m q = ⟨0, 0, 0⟩ := by unfold ifM; rw [h.in0 q (by push_cast at g1; omega) (by push_cast at g2; omega), iGet_zero]
      unfold frP; rw [this]; rfl
def exG (m : Mm) (X : List Int) : Hq → Int → Bool := fun h q => gM m h q && !X.contains q
structure Hol (c : Cf) (m : Mm) (L1 : List Sp) (a n : Int) (L2 : List Sp) : Prop where
  t1 : Tl m 0 L1 a
  t2 : Tl m (a + n) L2 c.p
  n1 : 1 ≤ n
  i0 : ∀ q, a < q → q < a + n → m.info q = 0
  f0 : ∀ q, a ≤ q → q < a + n - 1 → m.foot q = 0
  p1 : apF false L1 = true
  p2 : apF false L2 = true
  bits : ∀ q : Int, 0 ≤ q → q < c.p → q ≠ a → ∀ b : Int, 0 ≤ b → b < 32 → badM m q b = false
  z : ∀ b : Int, 0 ≤ b → b < 32 → bitAt (m.taken a) b = false ∧ bitAt (m.slots a) b = false
  some : ∀ q : Int, 0 ≤ q → q < c.p → q ≠ a → ((ifM m q).k == 3 && m.taken q == 0) = false
  ls : ListsM c m (exG m [a])
theorem Hol.pos {L1 L2 : List Sp} (H : Hol c m L1 a n L2) : 0 ≤ a ∧ a + n ≤ c.p := ⟨H.t1.le, H.t2.le⟩
theorem gM_eq {m m' : Mm} {q : Int} (h : m'.info q = m.info q) (h2 : m'.taken q = m.taken q) (g : Hq) : gM m' g q = gM m g q := by
  cases g with
  | bin k => exact binM_eq h k
  | rack k => exact rackM_eq h h2 k
theorem gM_none {q : Int} (h : (ifM m q).k ≠ 1) (h2 : (ifM m q).k ≠ 3) (g : Hq) : gM m g q = false := by
  cases g with
  | bin k => simp [gM, binM, h]
  | rack k => simp [gM, rackM, h2]
theorem exG_eq {m m' : Mm} {X : List Int} {q : Int} (h : X.contains q = false → m'.info q = m.info q) (h2 : X.contains q = false → m'.taken q = m.taken q) (g : Hq) : exG m' X g q = exG m X g q := by
  unfold exG
  cases e : X.contains q with
  | true => simp
  | false => rw [gM_eq (h e) (h2 e)]
theorem notin {X : List Int} {q : Int} : X.contains q = false ↔ q ∉ X := by
  rw [← Bool.not_eq_true, List.contains_iff_mem]
theorem Tl.kind {b q : Int} : ∀ {L : List Sp} {a : Int}, Tl m a L b → a ≤ q → q < b → infoOk (m.info q) = true
  | [], a, h, h1, h2 => by have h : a = b := h; omega
  | x :: L, a, ⟨h, hr⟩, h1, h2 => by
    by_cases e : q = a
    · subst e; exact h.iok
    · by_cases e2 : q < a + x.l
      · rw [h.in0 q (by omega) e2]; rfl
      · exact Tl.kind hr (by omega) h2
theorem ShapeM.apF {L : List Sp} (S : ShapeM c m L) : apF false L = true := apF_iff.2 S.ap
theorem ap_split {L1 L2 : List Sp} {x : Sp} (h : apF false (L1 ++ x :: L2) = true) : apF false L1 = true ∧ apF false L2 = true ∧ apF (x.k == 1) L2 = true ∧ (x.k = 1 → apE false L1 = false) := by
  rw [apF_app] at h
  simp only [apF, Bool.and_eq_true, Bool.not_eq_true', Bool.and_eq_false_iff] at h
  refine ⟨h.1, apF_weak h.2.2, h.2.2, fun e => ?_⟩
  rcases h.2.1 with h1 | h1
  · exact h1
  · rw [e] at h1; cases h1
theorem ap_join {L1 L2 : List Sp} {x : Sp} (h1 : apF false L1 = true) (h2 : apF (x.k == 1) L2 = true) (h3 : x.k = 1 → apE false L1 = false) : apF false (L1 ++ x :: L2) = true := by
  rw [apF_app]
  simp only [apF, Bool.and_eq_true, Bool.not_eq_true', Bool.and_eq_false_iff]
  refine ⟨h1, ?_, h2⟩
  by_cases e : x.k = 1
  · exact .inl (h3 e)
  · right; simpa using e
theorem bad_zero {q b : Int} (h : badM m q b = false) (hk : (ifM m q).k ≠ 3) : bitAt (m.taken q) b = false ∧ bitAt (m.slots q) b = false := by
  have e : ((ifM m q).k != 3) = true := by simpa using hk
  unfold badM at h
  rw [e] at h
  cases h1 : bitAt (m.taken q) b <;> cases h2 : bitAt (m.slots q) b <;> rw [h1, h2] at h <;> first | exact ⟨rfl, rfl⟩ | cases h
theorem zero_bad {q b : Int} (h : bitAt (m.taken q) b = false ∧ bitAt (m.slots q) b = false) : badM m q b = false := by
  unfold badM; rw [h.1, h.2]; rfl
theorem gDel_ex {h : Hq} {X : List Int} (hh : h.ok) (ha : 0 ≤ a ∧ a < c.p) (hX : a ∉ X) (S : ListsM c m (exG m X)) (hg : gM m h a = true) (h' : Hq) (hh' : h'.ok) (q : Int) : gDel (exG m X) h a h' q = exG m (a :: X) h' q := by
  have hxa : exG m X h a = true := by unfold exG; rw [hg, notin.2 hX]; rfl
  by_cases e : q = a
  · subst e
    have e2 : exG m (q :: X) h' q = false := by unfold exG; simp
    rw [e2]
    unfold gDel
    by_cases e3 : h' = h
    · subst e3; simp
    · cases e4 : exG m X h' q with
      | false => rfl
      | true => exact (S.one h' h hh' hh e3 q ha.1 ha.2 e4 hxa).elim
  · unfold gDel exG
    have e2 : decide (q = a) = false := by simpa using e
    have e3 : (a :: X).contains q = X.contains q := by
      rw [List.contains_cons]
      have : (q == a) = false := by simpa using e
      rw [this, Bool.false_or]
    rw [e2, e3]; simp
theorem pull_ex {h : Hq} {X : List Int} (hh : h.ok) (ha : 0 ≤ a ∧ a < c.p) (hX : a ∉ X) (S : ListsM c m (exG m X)) (hg : gM m h a = true) : ListsM c (mPull m h a) (exG (mPull m h a) (a :: X)) := by
  have hxa : exG m X h a = true := by unfold exG; rw [hg, notin.2 hX]; rfl
  have ep := pull_same (m := m) (a := a) h
  refine (S.pull hh ha hxa).of_eq (fun _ => rfl) rfl rfl fun h' hh' q a1 a2 => ?_
  rw [gDel_ex hh ha hX S hg h' hh' q]
  exact exG_eq (fun _ => by rw [ep.1]) (fun _ => by rw [ep.2.2.2.1]) h'
theorem push_ex {h : Hq} {X : List Int} (hh : h.ok) (ha : 0 ≤ a ∧ a < c.p) (hX : a ∉ X) (S : ListsM c m (exG m (a :: X))) (hg : gM m h a = true) (ho : ∀ h' : Hq, h'.ok → h' ≠ h → gM m h' a = false) : ListsM c (mPush m h a) (exG (mPush m h a) X) := by
  have hno : ∀ h' : Hq, h'.ok → exG m (a :: X) h' a = false := fun h' _ => by unfold exG; simp
  have ep := push_same (m := m) (a := a) h
  refine (S.push hh ha hno).of_eq (fun _ => rfl) rfl rfl fun h' hh' q a1 a2 => ?_
  rw [exG_eq (m := m) (fun _ => by rw [ep.1]) (fun _ => by rw [ep.2.2.2.1]) h']
  unfold gAdd
  by_cases e : q = a
  · subst e
    rw [hno h' hh']
    unfold exG
    rw [notin.2 hX]
    by_cases e2 : h' = h
    · subst e2; rw [hg]; simp
    · rw [ho h' hh' e2]; simp [e2]
  · have e2 : decide (q = a) = false := by simpa using e
    have e3 : (a :: X).contains q = X.contains q := by
      rw [List.contains_cons]
      have : (q == a) = false := by simpa using e
      rw [this, Bool.false_or]
    unfold exG
    rw [e2, e3]; simp
theorem ex_more {X : List Int} (S : ListsM c m (exG m X)) (hn : ∀ h : Hq, gM m h a = false) : ListsM c m (exG m (a :: X)) := by
  refine S.of_eq (fun _ => rfl) rfl rfl fun h hh q a1 a2 => ?_
  unfold exG
  by_cases e : q = a
  · subst e; rw [hn h]; rfl
  · rw [List.contains_cons]
    have : (q == a) = false := by simpa using e
    rw [this, Bool.false_or]
theorem ex_set {X : List Int} {m' : Mm} (S : ListsM c m (exG m X)) (e0 : ∀ h : Hq, m'.hd h = m.hd h) (e1 : m'.next = m.next) (e2 : m'.prev = m.prev) (e3 : ∀ q, q ∉ X → m'.info q = m.info q) (e4 : ∀ q, q ∉ X → m'.taken q = m.taken q) : ListsM c m' (exG m' X) :=
  S.of_eq e0 e1 e2 fun h _ q _ _ => exG_eq (fun e => e3 q (notin.1 e)) (fun e => e4 q (notin.1 e)) h
end
end Go.Proofs.YtcbeifgnccbfbaaGreat
namespace Go.Proofs.YtcbeifgnccbfbaaGreat
open Go.Sl
structure Kp (m m' : Mm) : Prop where
  slots : m'.slots = m.slots
  taken : m'.taken = m.taken
  root : m'.root = m.root
  dn : m'.dn = m.dn
  fr : m'.fr = m.fr
  lv : m'.lv = m.lv
theorem Kp.rfl {m : Mm} : Kp m m := ⟨_root_.rfl, _root_.rfl, _root_.rfl, _root_.rfl, _root_.rfl, _root_.rfl⟩
theorem Kp.trans {m m1 m2 : Mm} (h : Kp m m1) (k : Kp m1 m2) : Kp m m2 := ⟨k.slots.trans h.slots, k.taken.trans h.taken, k.root.trans h.root, k.dn.trans h.dn, k.fr.trans h.fr, k.lv.trans h.lv⟩
def mJoin (m : Mm) (b : Int) : Mm := { m with info := fset m.info b 0, foot := fset m.foot (b - 1) 0 }
theorem Kp.span (m : Mm) (k a n : Int) : Kp m (mSpan m k a n) := ⟨_root_.rfl, _root_.rfl, _root_.rfl, _root_.rfl, _root_.rfl, _root_.rfl⟩
theorem Kp.join (m : Mm) (b : Int) : Kp m (mJoin m b) := ⟨_root_.rfl, _root_.rfl, _root_.rfl, _root_.rfl, _root_.rfl, _root_.rfl⟩
theorem Kp.pull (m : Mm) (h : Hq) (a : Int) : Kp m (mPull m h a) := by
  obtain ⟨_, _, e1, e2, e3, e4, e5, e6⟩ := pull_same (m := m) (a := a) h
  exact ⟨e1, e2, e3, e6, e4, e5⟩
theorem Kp.push (m : Mm) (h : Hq) (a : Int) : Kp m (mPush m h a) := by
  obtain ⟨_, _, e1, e2, e3, e4, e5, e6⟩ := push_same (m := m) (a := a) h
  exact ⟨e1, e2, e3, e6, e4, e5⟩
theorem Kp.drop (m : Mm) (a : Int) : Kp m (mDrop m a) := Kp.pull _ _ _
theorem Kp.add (m : Mm) (a n : Int) : Kp m (mAdd m a n) := (Kp.span m 1 a n).trans (Kp.push _ _ _)
def uI (i : If) : If := bif i.k == 2 || i.k == 3 then i else ⟨0, 0, 0⟩
def uM (m : Mm) (q : Int) : If := uI (ifM m q)
theorem uM_eq {m m' : Mm} {q : Int} (h : m'.info q = m.info q) : uM m' q = uM m q := by unfold uM; rw [ifM_eq h]
section
variable {c : Cf} {m : Mm} {s : VS} {a n : Int}
theorem ex_any {X Y : List Int} (S : ListsM c m (exG m X)) (hx : ∀ q ∈ X, q ∉ Y → ∀ h : Hq, gM m h q = false) (hy : ∀ q ∈ Y, q ∉ X → ∀ h : Hq, gM m h q = false) : ListsM c m (exG m Y) := by
  refine S.of_eq (fun _ => rfl) rfl rfl fun h hh q a1 a2 => ?_
  unfold exG
  by_cases e1 : q ∈ X
  · by_cases e2 : q ∈ Y
    · rw [List.contains_iff_mem.2 e1, List.contains_iff_mem.2 e2]
    · rw [hx q e1 e2 h]; rfl
  · by_cases e2 : q ∈ Y
    · rw [hy q e2 e1 h]; rfl
    · rw [notin.2 e1, notin.2 e2]
theorem ex_nil : exG m [] = gM m := by funext h q; simp [exG]
theorem mSpan_info {k : Int} (q : Int) : (mSpan m k a n).info q = if q = a then iVal k n 0 else m.info q := rfl
theorem mSpan_foot {k : Int} (q : Int) : (mSpan m k a n).foot q = if q = a + n - 1 then nv (a + 1) else m.foot q := rfl
theorem mJoin_info {b : Int} (q : Int) : (mJoin m b).info q = if q = b then 0 else m.info q := rfl
theorem mJoin_foot {b : Int} (q : Int) : (mJoin m b).foot q = if q = b - 1 then 0 else m.foot q := rfl
theorem mSpan_if {k : Int} (hk : k = 1 ∨ k = 2) (hn : 1 ≤ n ∧ n ≤ 1024) : ifM (mSpan m k a n) a = ⟨k, n, 0⟩ := by
  unfold ifM; rw [mSpan_info, if_pos rfl]; exact (iVal_get (span_right hk hn)).1
theorem mJoin_if {b : Int} : ifM (mJoin m b) b = ⟨0, 0, 0⟩ := by
  unfold ifM; rw [mJoin_info, if_pos rfl]; exact iGet_zero
theorem span_spn {k : Int} (hk : k = 1 ∨ k = 2) (hn : 1 ≤ n ∧ n ≤ 1024) (i0 : ∀ q, a < q → q < a + n → m.info q = 0) (f0 : ∀ q, a ≤ q → q < a + n - 1 → m.foot q = 0) : Spn (mSpan m k a n) a ⟨k, n, 0⟩ where
  l1 := hn.1
  rt := span_right hk hn
  k0 := by show k ≠ 0; omega
  inf := by rw [mSpan_info, if_pos rfl]; exact (iVal_get (span_right hk hn)).1
  iok := by rw [mSpan_info, if_pos rfl]; exact (iVal_get (span_right hk hn)).2.1
  in0 := fun q g1 g2 => by rw [mSpan_info, if_neg (by omega)]; exact i0 q g1 g2
  ft0 := fun q g1 g2 => by
    have g2 : q < a + n - 1 := g2
    rw [mSpan_foot, if_neg (by omega)]; exact f0 q g1 g2
  ft := by
    show (mSpan m k a n).foot (a + n - 1) = _
    rw [mSpan_foot, if_pos rfl]
theorem fill_free {L1 L2 : List Sp} (H : Hol c m L1 a n L2) (hn : n ≤ 1024) (h1 : apE false L1 = false) (h2 : apF true L2 = true) : SndM c (mAdd m a n) (L1 ++ ⟨1, n, 0⟩ :: L2) := by
  have hp := H.pos
  have hn1 := H.n1
  have ha : 0 ≤ a ∧ a < c.p := by omega
  have hif := mSpan_if (m := m) (a := a) (.inl rfl) ⟨hn1, hn⟩
  obtain ⟨e1, e2, e3, e4, _⟩ := push_same (m := mSpan m 1 a n) (a := a) (.bin (logI n))
  have e1 : (mAdd m a n).info = (mSpan m 1 a n).info := e1
  have e2 : (mAdd m a n).foot = (mSpan m 1 a n).foot := e2
  have e3 : (mAdd m a n).slots = m.slots := e3
  have e4 : (mAdd m a n).taken = m.taken := e4
  refine snd_iff.2 ⟨⟨Tl.app.2 ⟨a, H.t1.of_eq (fun q _ g => ?_) (fun q _ g => ?_), (span_spn (.inl rfl) ⟨hn1, hn⟩ H.i0 H.f0).of_eq (fun q _ _ => by rw [e1]) (fun q _ _ => by rw [e2]), H.t2.of_eq (fun q g _ => ?_) (fun q g _ => ?_)⟩, apF_iff.1 (ap_join H.p1 h2 (fun _ => h1)), fun q a1 a2 b b1 b2 => ?_, fun q a1 a2 => ?_⟩, ?_⟩
  · rw [e1, mSpan_info, if_neg (by omega)]
  · rw [e2, mSpan_foot, if_neg (by omega)]
  · rw [e1, mSpan_info, if_neg (by have g : a + n ≤ q := g; omega)]
  · rw [e2, mSpan_foot, if_neg (by have g : a + n ≤ q := g; omega)]
  · by_cases e : q = a
    · subst e; exact zero_bad (by rw [e3, e4]; exact H.z b b1 b2)
    · rw [badM_eq (m := m) (by rw [e1, mSpan_info, if_neg e]) (by rw [e3]) (by rw [e4])]; exact H.bits q a1 a2 e b b1 b2
  · by_cases e : q = a
    · subst e; rw [ifM_eq (m := mSpan m 1 q n) (by rw [e1]), hif]; rfl
    · rw [ifM_eq (m := m) (by rw [e1, mSpan_info, if_neg e]), e4]; exact H.some q a1 a2 e
  · rw [← ex_nil]
    have hb := logI_bd (n := n) (by omega)
    refine push_ex (X := []) (h := .bin (logI n)) hb ha (by simp) (ex_set H.ls (fun _ => rfl) rfl rfl (fun q hq => ?_) fun q _ => rfl) (by simp [gM, binM, hif]) fun h' hh' hne => ?_
    · rw [mSpan_info, if_neg (by simpa using hq)]
    · cases h' with
      | bin k =>
        cases e : gM (mSpan m 1 a n) (.bin k) a with
        | false => rfl
        | true =>
          simp only [gM, binM, hif, Bool.and_eq_true, beq_iff_eq] at e
          exact absurd (by rw [e.2]) hne
      | rack k => simp [gM, rackM, hif]
theorem joinl_hol {L1 L2 : List Sp} {x : Sp} {f : Int} (H : Hol c m (L1 ++ [x]) a n L2) (h1 : Tl m 0 L1 f) (h2 : Spn m f x) (hf : f + x.l = a) (hk : x.k = 1) : Hol c (mJoin (mDrop m f) a) L1 f (x.l + n) L2 ∧ apE false L1 = false := by
  have hp := H.pos
  have hn1 := H.n1
  have hl := h2.l1
  have hf0 := h1.le
  have hfp : 0 ≤ f ∧ f < c.p := by omega
  have hif : ifM m f = ⟨x.k, x.l, x.c⟩ := h2.inf
  have hka : (ifM m f).k = 1 := by rw [hif]; exact hk
  have hap := ap_split H.p1
  obtain ⟨e1, e2, e3, e4, _⟩ := pull_same (m := m) (a := f) (.bin (logI (ifM m f).l))
  have e1 : (mDrop m f).info = m.info := e1
  have e2 : (mDrop m f).foot = m.foot := e2
  have e3 : (mDrop m f).slots = m.slots := e3
  have e4 : (mDrop m f).taken = m.taken := e4
  have i1 : ∀ q, q ≠ a → (mJoin (mDrop m f) a).info q = m.info q := fun q hq => by rw [mJoin_info, if_neg hq, e1]
  have i2 : ∀ q, q ≠ a - 1 → (mJoin (mDrop m f) a).foot q = m.foot q := fun q hq => by rw [mJoin_foot, if_neg hq, e2]
  have i3 : (mJoin (mDrop m f) a).slots = m.slots := e3
  have i4 : (mJoin (mDrop m f) a).taken = m.taken := e4
  refine ⟨⟨h1.of_eq (fun q _ _ => i1 q (by omega)) (fun q _ _ => i2 q (by omega)), ?_, by omega, fun q g1 g2 => ?_, fun q g1 g2 => ?_, hap.1, H.p2, fun q a1 a2 hq b b1 b2 => ?_, fun b b1 b2 => ?_, fun q a1 a2 hq => ?_, ?_⟩, hap.2.2.2 hk⟩
  · rw [show f + (x.l + n) = a + n by omega]
    exact H.t2.of_eq (fun q _ _ => i1 q (by omega)) (fun q _ _ => i2 q (by omega))
  · by_cases e : q = a
    · rw [mJoin_info, if_pos e]
    · rw [i1 q e]
      by_cases e' : q < a
      · exact h2.in0 q g1 (by omega)
      · exact H.i0 q (by omega) (by omega)
  · by_cases e : q = a - 1
    · rw [mJoin_foot, if_pos e]
    · rw [i2 q e]
      by_cases e' : q < a
      · exact h2.ft0 q g1 (by omega)
      · exact H.f0 q (by omega) (by omega)
  · by_cases e : q = a
    · subst e; exact zero_bad (by rw [i3, i4]; exact H.z b b1 b2)
    · rw [badM_eq (m := m) (i1 q e) (by rw [i3]) (by rw [i4])]; exact H.bits q a1 a2 e b b1 b2
  · rw [i3, i4]; exact bad_zero (H.bits f (by omega) (by omega) (by omega) b b1 b2) (by omega)
  · by_cases e : q = a
    · subst e; rw [mJoin_if]; rfl
    · rw [ifM_eq (m := m) (i1 q e), i4]; exact H.some q a1 a2 e
  · have hb := logI_bd (iGet_one hka)
    have T := pull_ex (X := [a]) (h := .bin (logI (ifM m f).l)) hb hfp (by simp; omega) H.ls (by simp [gM, binM, hka])
    have T2 := ex_set (m' := mJoin (mDrop m f) a) T (fun _ => rfl) rfl rfl (fun q hq => by
      rw [mJoin_info, if_neg (fun e => hq (by simp [e]))]; rfl) fun q _ => rfl
    refine ex_any T2 (fun q hq hq2 h => ?_) fun q hq hq2 => absurd (by simp only [List.mem_singleton] at hq; simp [hq]) hq2
    have : q = a := by simp at hq hq2; omega
    subst this
    exact gM_none (by rw [mJoin_if]; decide) (by rw [mJoin_if]; decide) h
theorem joinr_hol {L1 L2 : List Sp} {x : Sp} (H : Hol c m L1 a n (x :: L2)) (hk : x.k = 1) : Hol c (mJoin (mDrop m (a + n)) (a + n)) L1 a (n + x.l) L2 ∧ apF true L2 = true := by
  obtain ⟨h2, h3⟩ := H.t2
  have hp := H.pos
  have hn1 := H.n1
  have hl := h2.l1
  have hle := h3.le
  have hfp : 0 ≤ a + n ∧ a + n < c.p := by omega
  have hif : ifM m (a + n) = ⟨x.k, x.l, x.c⟩ := h2.inf
  have hka : (ifM m (a + n)).k = 1 := by rw [hif]; exact hk
  have hap := ap_split (L1 := []) H.p2
  have hap2 : apF (x.k == 1) L2 = true := hap.2.2.1
  rw [hk] at hap2
  obtain ⟨e1, e2, e3, e4, _⟩ := pull_same (m := m) (a := a + n) (.bin (logI (ifM m (a + n)).l))
  have e1 : (mDrop m (a + n)).info = m.info := e1
  have e2 : (mDrop m (a + n)).foot = m.foot := e2
  have e3 : (mDrop m (a + n)).slots = m.slots := e3
  have e4 : (mDrop m (a + n)).taken = m.taken := e4
  have i1 : ∀ q, q ≠ a + n → (mJoin (mDrop m (a + n)) (a + n)).info q = m.info q := fun q hq => by rw [mJoin_info, if_neg hq, e1]
  have i2 : ∀ q, q ≠ a + n - 1 → (mJoin (mDrop m (a + n)) (a + n)).foot q = m.foot q := fun q hq => by rw [mJoin_foot, if_neg hq, e2]
  have i3 : (mJoin (mDrop m (a + n)) (a + n)).slots = m.slots := e3
  have i4 : (mJoin (mDrop m (a + n)) (a + n)).taken = m.taken := e4
  refine ⟨⟨H.t1.of_eq (fun q _ _ => i1 q (by omega)) (fun q _ _ => i2 q (by omega)), ?_, by omega, fun q g1 g2 => ?_, fun q g1 g2 => ?_, H.p1, hap.2.1, fun q a1 a2 hq b b1 b2 => ?_, fun b b1 b2 => ?_, fun q a1 a2 hq => ?_, ?_⟩, hap2⟩
  · rw [show a + (n + x.l) = a + n + x.l by omega]
    exact h3.of_eq (fun q _ _ => i1 q (by omega)) (fun q _ _ => i2 q (by omega))
  · by_cases e : q = a + n
    · rw [mJoin_info, if_pos e]
    · rw [i1 q e]
      by_cases e' : q < a + n
      · exact H.i0 q g1 e'
      · exact h2.in0 q (by omega) (by omega)
  · by_cases e : q = a + n - 1
    · rw [mJoin_foot, if_pos e]
    · rw [i2 q e]
      by_cases e' : q < a + n
      · exact H.f0 q g1 (by omega)
      · exact h2.ft0 q (by omega) (by omega)
  · by_cases e : q = a + n
    · subst e
      exact zero_bad (by rw [i3, i4]; exact bad_zero (H.bits (a + n) (by omega) (by omega) (by omega) b b1 b2) (by omega))
    · rw [badM_eq (m := m) (i1 q e) (by rw [i3]) (by rw [i4])]; exact H.bits q a1 a2 hq b b1 b2
  · rw [i3, i4]; exact H.z b b1 b2
  · by_cases e : q = a + n
    · subst e; rw [mJoin_if]; rfl
    · rw [ifM_eq (m := m) (i1 q e), i4]; exact H.some q a1 a2 hq
  · have hb := logI_bd (iGet_one hka)
    have T := pull_ex (X := [a]) (h := .bin (logI (ifM m (a + n)).l)) hb hfp (by simp; omega) H.ls (by simp [gM, binM, hka])
    have T2 := ex_set (m' := mJoin (mDrop m (a + n)) (a + n)) T (fun _ => rfl) rfl rfl (fun q hq => by
      rw [mJoin_info, if_neg (fun e => hq (by simp [e]))]; rfl) fun q _ => rfl
    refine ex_any T2 (fun q hq hq2 h => ?_) fun q hq hq2 => absurd (by simp only [List.mem_singleton] at hq; simp [hq]) hq2
    have : q = a + n := by
      simp only [List.mem_cons, List.not_mem_nil, or_false] at hq hq2
      rcases hq with h | h
      · exact h
      · exact absurd h hq2
    subst this
    exact gM_none (by rw [mJoin_if]; decide) (by rw [mJoin_if]; decide) h
end
end Go.Proofs.YtcbeifgnccbfbaaGreat
namespace Go.Proofs.YtcbeifgnccbfbaaGreat
open Go.Sl
theorem wI_id {x : Int} (h : -9223372036854775808 ≤ x ∧ x < 9223372036854775808) : wI x = x := w64 h
section
variable {c : Cf} {m : Mm} {s : VS} {a n : Int}
theorem join_at {p b : Int} {G : Hq → Int → Bool} (h : At c s m) (hp : 0 ≤ p ∧ p < c.p) (hk : (ifM m p).k = 1) (S : ListsM c m G) (hG : G (.bin (logI (ifM m p).l)) p = true) (hb : 1 ≤ b ∧ b < c.p) : At c ((qJoin c p b).run s).1 (mJoin (mDrop m p) b) ∧ ((qJoin c p b).run s).2 = (ifM m p).l := by
  have hok := Cf.ok_iff.1 h.ok
  obtain ⟨h1, h2⟩ := drop_at' h hp hk S hG
  unfold qJoin
  simp only [Pg.run_bind, Pg.run_put, Pg.run_ret]
  refine ⟨?_, h2⟩
  have h3 := (h1.set_info (g := b) (by omega) 0).set_foot (g := b - 1) (by omega) 0
  rw [wI_id (x := b - 1) (by omega)]
  exact h3
theorem free_no (h : At c s m) (ha : 0 ≤ a ∧ a < c.p) (hk : (ifM m a).k ≠ 1) : ((pFree c a).run s).2 = 0 := by
  rw [(free_at h ha).2]
  have : ((ifM m a).k == 1) = false := by simpa using hk
  rw [this]; rfl
theorem exG_self {X : List Int} {k : Int} (hk : (ifM m k).k = 1) (hX : k ∉ X) : exG m X (.bin (logI (ifM m k).l)) k = true := by
  unfold exG
  rw [notin.2 hX]
  simp [gM, binM, hk]
theorem ahead_at {L1 L2 : List Sp} (h : At c s m) (H : Hol c m L1 a n L2) : ∃ m' L1' f, At c ((qAhead c a n).run s).1 m' ∧ ((qAhead c a n).run s).2 = (f, a + n - f) ∧ Hol c m' L1' f (a + n - f) L2 ∧ apE false L1' = false ∧ Kp m m' ∧ fS L1' + (a + n - f) = fS L1 + n ∧ (∀ q, q ≠ f → uM m' q = if q = a then ⟨0, 0, 0⟩ else uM m q) ∧ (f ≠ a → uM m f = ⟨0, 0, 0⟩) ∧ f ≤ a ∧ (apE false L1 = false → f = a) := by
  have hok := Cf.ok_iff.1 h.ok
  have hp := H.pos
  have hn1 := H.n1
  have same : ((qAhead c a n).run s).2 = (a, n) → At c ((qAhead c a n).run s).1 m → apE false L1 = false → ∃ m' L1' f, At c ((qAhead c a n).run s).1 m' ∧ ((qAhead c a n).run s).2 = (f, a + n - f) ∧ Hol c m' L1' f (a + n - f) L2 ∧ apE false L1' = false ∧ Kp m m' ∧ fS L1' + (a + n - f) = fS L1 + n ∧ (∀ q, q ≠ f → uM m' q = if q = a then ⟨0, 0, 0⟩ else uM m q) ∧ (f ≠ a → uM m f = ⟨0, 0, 0⟩) ∧ f ≤ a ∧ (apE false L1 = false → f = a) := fun e1 e2 e3 => by
    have e4 : a + n - a = n := by omega
    refine ⟨m, L1, a, e2, by rw [e1, e4], by rw [e4]; exact H, e3, Kp.rfl, by rw [e4], fun q hq => by rw [if_neg hq], fun e => absurd rfl e, Int.le_refl _, fun _ => rfl⟩
  by_cases h0 : a = 0
  · have e : L1 = [] := by
      cases L1 with
      | nil => rfl
      | cons x L =>
        have h1 := H.t1.1.l1
        have h2 := H.t1.2.le
        omega
    subst e
    have e2 : (a == 0) = true := by simpa using h0
    refine same ?_ ?_ rfl <;> unfold qAhead <;> rw [e2]
    · rfl
    · exact h
  · have hL : ∃ L x, L1 = L ++ [x] := by
      cases e : L1 with
      | nil => rw [e] at H; have h1 : (0 : Int) = a := H.t1; omega
      | cons y L => exact ⟨_, _, (List.dropLast_concat_getLast (l := y :: L) (by simp)).symm⟩
    obtain ⟨L, x, e⟩ := hL
    subst e
    obtain ⟨f, t1, t2, t3⟩ := Tl.app.1 H.t1
    have t3 : f + x.l = a := t3
    have hl := t2.l1
    have hf := t1.le
    have hft : m.foot (a - 1) = f + 1 := by
      have := t2.ft
      rw [t3, nv_id (by omega)] at this
      exact this
    have e2 : (a == 0) = false := by simpa using h0
    have hfp : 0 ≤ f ∧ f < c.p := by omega
    have h1 := h.read (c.foot (wI (a - 1)))
    have hrun : (qAhead c a n).run s = ((pFree c f).bind fun l => bif decide (0 < l) then (qJoin c f a).bind fun m => .ret (f, wI (n + m)) else .ret (a, n)).run (s.read (c.foot (wI (a - 1)))) := by
      unfold qAhead
      rw [e2, cond_false, Pg.run_get, wI_id (x := a - 1) (by omega), h.get_foot (g := a - 1) (by omega), hft, show f + 1 - 1 = f by omega]
    have hif : ifM m f = ⟨x.k, x.l, x.c⟩ := t2.inf
    by_cases hk : x.k = 1
    · have hka : (ifM m f).k = 1 := by rw [hif]; exact hk
      have hfr : ((pFree c f).run (s.read (c.foot (wI (a - 1))))).2 = x.l := by
        rw [(free_at h1 hfp).2, hif, hk]; rfl
      obtain ⟨j1, j2⟩ := join_at (b := a) (free_at h1 hfp).1 hfp hka H.ls (exG_self hka (by simp; omega)) (by omega)
      obtain ⟨k1, k2⟩ := joinl_hol H t1 t2 t3 hk
      have e3 : decide (0 < x.l) = true := by simp; omega
      have hrun2 : (qAhead c a n).run s = (((qJoin c f a).run ((pFree c f).run (s.read (c.foot (wI (a - 1))))).1).1, (f, wI (n + x.l))) := by
        rw [hrun]
        simp only [Pg.run_bind, Pg.run_ret, hfr, e3, cond_true, j2, hif]
      have e4 : a + n - f = x.l + n := by omega
      refine ⟨_, L, f, by rw [hrun2]; exact j1, by rw [hrun2, wI_id (x := n + x.l) (by omega), e4, Int.add_comm], by rw [e4]; exact k1, k2, (Kp.drop m f).trans (Kp.join _ a), ?_, fun q hq => ?_, fun _ => ?_, by omega, fun hx => ?_⟩
      · rw [e4, fS_app]
        simp only [fS, hk, beq_self_eq_true, cond_true]; omega
      · by_cases e : q = a
        · subst e; rw [if_pos rfl]; unfold uM; rw [mJoin_if]; rfl
        · rw [if_neg e]
          refine uM_eq ?_
          rw [mJoin_info, if_neg e]
          exact congrFun (pull_same (m := m) (a := f) (.bin (logI (ifM m f).l))).1 q
      · unfold uM; rw [hif, uI, hk]; rfl
      · rw [apE_app] at hx
        have hx : (x.k == 1) = false := hx
        rw [hk] at hx; cases hx
    · have hka : (ifM m f).k ≠ 1 := by rw [hif]; exact hk
      have hfr := free_no h1 hfp hka
      have hrun2 : (qAhead c a n).run s = (((pFree c f).run (s.read (c.foot (wI (a - 1))))).1, (a, n)) := by
        rw [hrun]
        simp only [Pg.run_bind, hfr, Int.lt_irrefl, decide_false, cond_false, Pg.run_ret]
      refine same (by rw [hrun2]) (by rw [hrun2]; exact (free_at h1 hfp).1) ?_
      rw [apE_app]
      show (x.k == 1) = false
      simpa using hk
theorem next_at {L1 L2 : List Sp} (h : At c s m) (H : Hol c m L1 a n L2) : ∃ m' L2' n', At c ((qNext c (a + n) (a, n)).run s).1 m' ∧ ((qNext c (a + n) (a, n)).run s).2 = (a, n') ∧ Hol c m' L1 a n' L2' ∧ apF true L2' = true ∧ Kp m m' ∧ n' + fS L2' = n + fS L2 ∧ (∀ q, q ≠ a → uM m' q = uM m q) ∧ n ≤ n' := by
  have hok := Cf.ok_iff.1 h.ok
  have hp := H.pos
  have hn1 := H.n1
  cases e : L2 with
  | nil =>
    subst e
    have h1 : a + n = c.p := H.t2
    have e2 : decide (a + n < c.p) = false := by simp; omega
    refine ⟨m, [], n, ?_, ?_, H, rfl, Kp.rfl, rfl, fun q _ => rfl, Int.le_refl _⟩ <;> unfold qNext <;> rw [e2]
    · exact h
    · rfl
  | cons x L =>
    subst e
    obtain ⟨t1, t2⟩ := H.t2
    have hl := t1.l1
    have hle := t2.le
    have hfp : 0 ≤ a + n ∧ a + n < c.p := by omega
    have e2 : decide (a + n < c.p) = true := by simpa using hfp.2
    have hif : ifM m (a + n) = ⟨x.k, x.l, x.c⟩ := t1.inf
    by_cases hk : x.k = 1
    · have hka : (ifM m (a + n)).k = 1 := by rw [hif]; exact hk
      have hfr : ((pFree c (a + n)).run s).2 = x.l := by
        rw [(free_at h hfp).2, hif, hk]; rfl
      obtain ⟨j1, j2⟩ := join_at (b := a + n) (free_at h hfp).1 hfp hka H.ls (exG_self hka (by simp; omega)) (by omega)
      obtain ⟨k1, k2⟩ := joinr_hol H hk
      have e3 : decide (0 < x.l) = true := by simp; omega
      have hrun : (qNext c (a + n) (a, n)).run s = (((qJoin c (a + n) (a + n)).run ((pFree c (a + n)).run s).1).1, (a, wI (n + x.l))) := by
        unfold qNext
        simp only [e2, cond_true, Pg.run_bind, Pg.run_ret, hfr, e3, j2, hif]
      refine ⟨_, L, n + x.l, by rw [hrun]; exact j1, by rw [hrun, wI_id (x := n + x.l) (by omega)], k1, k2, (Kp.drop m (a + n)).trans (Kp.join _ _), ?_, fun q hq => ?_, by omega⟩
      · simp only [fS, hk, beq_self_eq_true, cond_true]; omega
      · by_cases e : q = a + n
        · subst e
          unfold uM; rw [mJoin_if, hif, uI, uI, hk]; rfl
        · refine uM_eq ?_
          rw [mJoin_info, if_neg e]
          exact congrFun (pull_same (m := m) (a := a + n) (.bin (logI (ifM m (a + n)).l))).1 q
    · have hka : (ifM m (a + n)).k ≠ 1 := by rw [hif]; exact hk
      have hfr := free_no h hfp hka
      have hrun : (qNext c (a + n) (a, n)).run s = (((pFree c (a + n)).run s).1, (a, n)) := by
        unfold qNext
        simp only [e2, cond_true, Pg.run_bind, hfr, Int.lt_irrefl, decide_false, cond_false, Pg.run_ret]
      refine ⟨m, x :: L, n, by rw [hrun]; exact (free_at h hfp).1, by rw [hrun], H, ?_, Kp.rfl, rfl, fun q _ => rfl, Int.le_refl _⟩
      have := H.p2
      simp only [apF, Bool.and_eq_true] at this ⊢
      have e5 : (x.k == 1) = false := by simpa using hk
      rw [e5]
      rw [e5] at this
      exact ⟨rfl, this.2⟩
theorem count_at (h : At c s m) (k : Int) : At c ((pCount k).run s).1 { m with fr := nv (m.fr + k) } := by
  unfold pCount
  simp only [Pg.run_get, Pg.run_put, Pg.run_ret]
  have h1 := (h.read 0).set_fr (nv (s.get 0 + k))
  rw [nvnv, h.get_fr] at h1
  rw [h.get_fr]
  exact h1
theorem SndM.same {L : List Sp} {m' : Mm} (S : SndM c m L) (e1 : m'.info = m.info) (e2 : m'.foot = m.foot) (e3 : m'.slots = m.slots) (e4 : m'.taken = m.taken) (e5 : m'.next = m.next) (e6 : m'.prev = m.prev) (e7 : ∀ h : Hq, m'.hd h = m.hd h) : SndM c m' L := by
  obtain ⟨S1, S2⟩ := snd_iff.1 S
  refine snd_iff.2 ⟨⟨S1.tl.of_eq (fun q _ _ => by rw [e1]) (fun q _ _ => by rw [e2]), S1.ap, fun q a1 a2 b b1 b2 => ?_, fun q a1 a2 => ?_⟩, S2.of_eq e7 e5 e6 fun h hh q a1 a2 => gM_eq (by rw [e1]) (by rw [e4]) h⟩
  · rw [badM_eq (m := m) (by rw [e1]) (by rw [e3]) (by rw [e4])]; exact S1.bits q a1 a2 b b1 b2
  · rw [ifM_eq (m := m) (by rw [e1]), e4]; exact S1.some q a1 a2
structure Ch1 (c : Cf) (m m' : Mm) (a : Int) (u : If) (d : Int) : Prop where
  u : ∀ q, 0 ≤ q → q < c.p → uM m' q = if q = a then u else uM m q
  slots : m'.slots = m.slots
  taken : m'.taken = m.taken
  root : m'.root = m.root
  dn : m'.dn = m.dn
  lv : m'.lv = m.lv
  fr : m'.fr = nv (m.fr + d)
theorem add_info (q : Int) : (mAdd m a n).info q = if q = a then iVal 1 n 0 else m.info q := by
  have e : (mAdd m a n).info = (mSpan m 1 a n).info := (push_same (m := mSpan m 1 a n) (a := a) (.bin (logI n))).1
  rw [e, mSpan_info]
theorem add_uM (hn : 1 ≤ n ∧ n ≤ 1024) (q : Int) : uM (mAdd m a n) q = if q = a then ⟨0, 0, 0⟩ else uM m q := by
  by_cases e : q = a
  · subst e
    rw [if_pos rfl]
    unfold uM ifM
    rw [add_info, if_pos rfl, (iVal_get (span_right (.inl rfl) hn)).1]; rfl
  · rw [if_neg e]; exact uM_eq (by rw [add_info, if_neg e])
theorem rel_at {L1 L2 : List Sp} (h : At c s m) (H : Hol c m L1 a n L2) : ∃ m' L', At c ((qRelease c a n).run s).1 m' ∧ SndM c m' L' ∧ Ch1 c m m' a ⟨0, 0, 0⟩ n ∧ fS L' = fS L1 + n + fS L2 ∧ (apE false L1 = false → (ifM m' a).k = 1 ∧ n ≤ (ifM m' a).l) := by
  have hok := Cf.ok_iff.1 h.ok
  have hp := H.pos
  have hn1 := H.n1
  obtain ⟨m1, L1', f, g1, g2, g3, g4, g5, g6, g7, g8, g9, g10⟩ := ahead_at h H
  obtain ⟨m2, L2', n', k1, k2, k3, k4, k5, k6, k7, k8⟩ := next_at g1 g3
  have hp2 := k3.pos
  have hn2 := k3.n1
  have hA := add_at (a := f) (n := n') k1 (by omega) (by omega) (k3.ls.hd_ok (h := .bin (logI n')) (logI_bd (by omega)))
  have hS := fill_free k3 (by omega) g4 k4
  have hC := count_at hA n
  have hrun : ((qRelease c a n).run s).1 = ((pCount n).run ((pAdd c f n').run ((qNext c (f + (a + n - f)) (f, a + n - f)).run ((qAhead c a n).run s).1).1).1).1 := by
    unfold qRelease
    simp only [Pg.run_bind, g2]
    rw [wI_id (x := a + n) (by omega), show f + (a + n - f) = a + n by omega] at *
    rw [k2]
  refine ⟨{ mAdd m2 f n' with fr := nv ((mAdd m2 f n').fr + n) }, _, by rw [hrun]; exact hC, hS.same rfl rfl rfl rfl rfl rfl (fun h => by cases h <;> rfl), ⟨fun q a1 a2 => ?_, ?_, ?_, ?_, ?_, ?_, ?_⟩, ?_, fun hx => ?_⟩
  · show uM (mAdd m2 f n') q = _
    rw [add_uM (by omega)]
    by_cases e : q = f
    · rw [if_pos e]
      by_cases e2 : q = a
      · rw [if_pos e2]
      · rw [if_neg e2, e, g8 (fun e3 => e2 (e.trans e3))]
    · rw [if_neg e, k7 q e, g7 q e]
  · exact (g5.trans (k5.trans (Kp.add m2 f n'))).slots
  · exact (g5.trans (k5.trans (Kp.add m2 f n'))).taken
  · exact (g5.trans (k5.trans (Kp.add m2 f n'))).root
  · exact (g5.trans (k5.trans (Kp.add m2 f n'))).dn
  · exact (g5.trans (k5.trans (Kp.add m2 f n'))).lv
  · show nv ((mAdd m2 f n').fr + n) = _
    rw [(g5.trans (k5.trans (Kp.add m2 f n'))).fr]
  · rw [fS_app]
    simp only [fS, beq_self_eq_true, cond_true]; omega
  · have e := g10 hx
    subst e
    have e2 : ifM { mAdd m2 f n' with fr := nv ((mAdd m2 f n').fr + n) } f = ⟨1, n', 0⟩ := by
      show iGet ((mAdd m2 f n').info f) = _
      rw [add_info, if_pos rfl, (iVal_get (span_right (.inl rfl) ⟨by omega, by omega⟩)).1]
    rw [e2]
    exact ⟨rfl, by show n ≤ n'; omega⟩
end
end Go.Proofs.YtcbeifgnccbfbaaGreat
namespace Go.Proofs.YtcbeifgnccbfbaaGreat
open Go.Sl
section
variable {c : Cf} {m : Mm} {s : VS} {a n : Int}
end
end Go.Proofs.YtcbeifgnccbfbaaGreat
namespace Go.Proofs.YtcbeifgnccbfbaaGreat
open Go.Sl
section
variable {c : Cf} {m : Mm} {s : VS} {a n : Int}
end
end Go.Proofs.YtcbeifgnccbfbaaGreat
namespace Go.Proofs.YtcbeifgnccbfbaaGreat
open Go.Sl
section
variable {c : Cf} {m m' : Mm}
def blkU (c : Cf) (u : If) (sl q : Int) : List Pt := bif u.k == 2 then [⟨2, (q + 1) * pgB c.s, u.l * pgB c.s⟩] else bif u.k == 3 then slF c sl q u.c (kSlots u.c).toNat else []
where slF (c : Cf) (sl q k : Int) : Nat → List Pt
  | 0 => []
  | n + 1 => slF c sl q k n ++ bif bitAt sl n then [⟨2, (q + 1) * pgB c.s + n * szB c.s k, szB c.s k⟩] else []
theorem slF_eq (q k : Int) : ∀ n : Nat, slB c m q k n = blkU.slF c (m.slots q) q k n
  | 0 => rfl
  | n + 1 => by rw [slB, blkU.slF, slF_eq q k n]
theorem blkP_u (q : Int) : blkP c m q = blkU c (uM m q) (m.slots q) q := by
  unfold blkP blkU uM uI
  cases h2 : (ifM m q).k == 2 with
  | true => simp only [Bool.true_or, cond_true, h2]
  | false =>
    cases h3 : (ifM m q).k == 3 with
    | true => simp only [Bool.or_true, cond_true, h2, h3, cond_false, slF_eq]
    | false =>
      simp only [Bool.or_self, cond_false]
      have e1 : ((0 : Int) == 2) = false := by decide
      have e2 : ((0 : Int) == 3) = false := by decide
      rw [e1, e2, cond_false, cond_false]
theorem lvP_u (q : Int) : lvP m q = (bif (uM m q).k == 2 then 1 else 0) + ones (m.slots q) := by
  unfold lvP uM uI
  cases h2 : (ifM m q).k == 2 with
  | true => simp only [Bool.true_or, cond_true, h2]
  | false =>
    cases h3 : (ifM m q).k == 3 with
    | true => simp only [Bool.or_true, cond_true, h2]
    | false => rfl
def blkT (c : Cf) (m : Mm) (a : Int) : Nat → List Pt
  | 0 => []
  | k + 1 => blkT c m a k ++ blkP c m (a + k)
theorem blkT_congr {a : Int} : ∀ {k : Nat}, (∀ q : Int, a ≤ q → q < a + k → blkP c m' q = blkP c m q) → blkT c m' a k = blkT c m a k
  | 0, _ => rfl
  | k + 1, h => by
    rw [blkT, blkT, blkT_congr (k := k) fun q g1 g2 => h q g1 (by push_cast; omega), h _ (by omega) (by push_cast; omega)]
section
variable {a : Int} {u : If} {d : Int}
theorem Ch1.blkP (C : Ch1 c m m' a u d) {q : Int} (h0 : 0 ≤ q) (h1 : q < c.p) (hq : q ≠ a) : blkP c m' q = blkP c m q := by
  rw [blkP_u, blkP_u, C.u q h0 h1, if_neg hq, C.slots]
theorem Ch1.pre (C : Ch1 c m m' a u d) (h1 : a < c.p) : blkF c m' a.toNat = blkF c m a.toNat := blkF_congr fun q g1 g2 => C.blkP g1 (by omega) (by omega)
theorem Ch1.post (C : Ch1 c m m' a u d) (h0 : 0 ≤ a) (h1 : a < c.p) : blkT c m' (a + 1) (c.p - a - 1).toNat = blkT c m (a + 1) (c.p - a - 1).toNat := blkT_congr fun q g1 g2 => C.blkP (by omega) (by omega) (by omega)
end
end
end Go.Proofs.YtcbeifgnccbfbaaGreat
namespace Go.Proofs.YtcbeifgnccbfbaaGreat
open Go.Sl
def stM (c : Cf) (m : Mm) : List Int × List Int × Int × Int × Int × Int × Int × Int × Int × Int × Bool := ((blkF c m c.p.toNat).map (·.a), (blkF c m c.p.toNat).map (·.s), m.root 0, m.root 1, m.root 2, m.root 3, m.root 4, m.root 5, m.root 6, m.root 7, true)
section
variable {c : Cf} {m m' : Mm} {s : VS} {xs : List Int} {L : List Sp}
theorem state_xs (h : soundA c xs = true) : stateA c xs = stM c (Mm.of c xs) := by
  unfold stateA
  rw [h, cond_true, blocks_eq]; rfl
theorem sound_xs (h : soundA c xs = true) (hb : bdAll xs) : ∃ L, SoundM c (Mm.of c xs) L := ((sound_iff hb).1 h).2
theorem sound_of (h : At c s m) (ha : s.all = true) (S : SoundM c m L) : soundA c s.vals = true := (sound_iff (good_vals h ha).bd).2 ⟨good_vals h ha, L, S.congr (meq_vals h ha)⟩
theorem state_of (h : At c s m) (ha : s.all = true) (S : SoundM c m L) : stateA c s.vals = stM c m := by
  have e := meq_vals h ha
  rw [state_xs (sound_of h ha S)]
  unfold stM
  rw [blkF_eq e.info e.slots, e.root 0 (by decide) (by decide), e.root 1 (by decide) (by decide), e.root 2 (by decide) (by decide), e.root 3 (by decide) (by decide), e.root 4 (by decide) (by decide), e.root 5 (by decide) (by decide), e.root 6 (by decide) (by decide), e.root 7 (by decide) (by decide)]
theorem stM_eq (h1 : blkF c m' c.p.toNat = blkF c m c.p.toNat) (h2 : m'.root = m.root) : stM c m' = stM c m := by unfold stM; rw [h1, h2]
end
end Go.Proofs.YtcbeifgnccbfbaaGreat
namespace Go.Proofs.YtcbeifgnccbfbaaGreat
open Go.Sl
section
variable {c : Cf} {m m' : Mm} {s : VS} {L L' : List Sp} {a d : Int} {u : If}
theorem uM_kind {q : Int} (h : uM m q = ⟨0, 0, 0⟩) : (ifM m q).k ≠ 2 ∧ (ifM m q).k ≠ 3 := by
  unfold uM uI at h
  constructor
  · intro e
    rw [e] at h
    have e2 : ((2 : Int) == 2 || (2 : Int) == 3) = true := rfl
    rw [e2, cond_true] at h
    rw [h] at e; cases e
  · intro e
    rw [e] at h
    have e2 : ((3 : Int) == 2 || (3 : Int) == 3) = true := rfl
    rw [e2, cond_true] at h
    rw [h] at e; cases e
end
end Go.Proofs.YtcbeifgnccbfbaaGreat
namespace Go.Proofs.YtcbeifgnccbfbaaGreat
open Go.Sl
end Go.Proofs.YtcbeifgnccbfbaaGreat
namespace Go.Proofs.YtcbeifgnccbfbaaGreat
open Go.Sl
abbrev StT := List Int × List Int × Int × Int × Int × Int × Int × Int × Int × Int × Bool
section
variable {c : Cf} {m m' : Mm} {s : VS} {xs : List Int} {L L' : List Sp}
theorem fr_vals (h : At c s m) (ha : s.all = true) : cel s.vals 0 = m.fr := (meq_vals h ha).fr
end
end Go.Proofs.YtcbeifgnccbfbaaGreat
namespace Go.Proofs.YtcbeifgnccbfbaaGreat
open Go.Sl
theorem onesF_fr (t : Int) : ∀ n : Nat, onesF t n + (frN (fun i => !bitAt t (i : Int)) n).length = n
  | 0 => rfl
  | n + 1 => by
    have ih := onesF_fr t n
    rw [onesF, frN_succ, List.length_append]
    cases bitAt t (n : Int) <;> simp <;> omega
theorem onesF_top {t : Int} {n : Nat} : ∀ {k : Nat}, (∀ b : Int, n ≤ b → b < n + k → bitAt t b = false) → onesF t (n + k) = onesF t n
  | 0, _ => rfl
  | k + 1, h => by
    rw [← Nat.add_assoc, onesF, onesF_top (k := k) fun b h1 h2 => h b h1 (by push_cast; omega), h _ (by push_cast; omega) (by push_cast; omega)]; simp
theorem ones_fr {t k : Int} (h : ∀ b : Int, kSlots k ≤ b → b < 32 → bitAt t b = false) : ones t + (frL t (kSlots k)).length = kSlots k := by
  have hk := kSlots_bd k
  have h1 := onesF_top (t := t) (n := (kSlots k).toNat) (k := 32 - (kSlots k).toNat) fun b g1 g2 => h b (by omega) (by omega)
  rw [show (kSlots k).toNat + (32 - (kSlots k).toNat) = 32 by omega] at h1
  have h2 := onesF_fr t (kSlots k).toNat
  unfold ones frL
  rw [h1]; omega
theorem full_fr {t k : Int} (h : ∀ b : Int, kSlots k ≤ b → b < 32 → bitAt t b = false) : full t k = (frL t (kSlots k)).isEmpty := by
  have := ones_fr h
  unfold full
  cases hl : frL t (kSlots k) with
  | nil => rw [hl] at this; simp at this ⊢; omega
  | cons x l =>
    rw [hl] at this
    simp only [List.length_cons] at this
    simp only [List.isEmpty_cons, beq_eq_false_iff_ne, ne_eq]
    omega
theorem frL_in {t n s : Int} (h0 : 0 ≤ s) (h1 : s < n) (h : bitAt t s = false) : s ∈ frL t n := by
  unfold frL
  exact frN_mem.2 ⟨h0, by omega, by rw [show ((s.toNat : Nat) : Int) = s by omega, h]; rfl⟩
def idN (t s : Int) : Nat → Int
  | 0 => 0
  | n + 1 => idN t s n + bif bitAt t n && !bitAt s n then 1 else 0
theorem idN_one {t t' s x : Int} (h : ∀ b, bitAt t' b = (bitAt t b || decide (b = x))) (ht : bitAt t x = false) (hs : bitAt s x = false) (h0 : 0 ≤ x) : ∀ n : Nat, idN t' s n = idN t s n + bif decide (x < n) then 1 else 0
  | 0 => by
    have : decide (x < ((0 : Nat) : Int)) = false := by simp; omega
    rw [this]; rfl
  | n + 1 => by
    rw [idN, idN, idN_one h ht hs h0 n, h]
    by_cases e : (n : Int) = x
    · have e1 : decide (x < (n : Int)) = false := by simp; omega
      have e2 : decide (x < ((n + 1 : Nat) : Int)) = true := by simp; omega
      rw [e1, e2, e, ht, hs]; simp
    · have e1 : decide ((n : Int) = x) = false := by simpa using e
      have e2 : decide (x < ((n + 1 : Nat) : Int)) = decide (x < (n : Int)) := decide_eq_decide.2 (by push_cast; omega)
      rw [e1, e2, Bool.or_false]; omega
theorem idN_sub {t t' s x : Int} (h : ∀ b, bitAt t' b = (bitAt t b && !decide (b = x))) (ht : bitAt t x = true) (hs : bitAt s x = false) (h0 : 0 ≤ x) {n : Nat} (hn : x < n) : idN t s n = idN t' s n + 1 := by
  have := idN_one (t := t') (t' := t) (s := s) (x := x) (fun b => by
    rw [h]
    by_cases e : b = x
    · subst e; rw [ht]; simp
    · simp [e]) (by rw [h]; simp) hs h0 n
  have e : decide (x < (n : Int)) = true := by simpa using hn
  rw [e] at this; exact this
section
variable {c : Cf} {m m' : Mm} {s : VS} {L : List Sp} {a k : Int} {xs : List Int}
def mTak (m : Mm) (a t : Int) : Mm := { m with taken := fset m.taken a t }
structure SndX (c : Cf) (m : Mm) (L : List Sp) (a : Int) : Prop where
  tl : Tl m 0 L c.p
  ap : ∀ i : Nat, i + 1 < L.length → ¬ ((L.getD i ⟨0, 0, 0⟩).k = 1 ∧ (L.getD (i + 1) ⟨0, 0, 0⟩).k = 1)
  bits : ∀ q : Int, 0 ≤ q → q < c.p → ∀ b : Int, 0 ≤ b → b < 32 → badM m q b = false
  some : ∀ q : Int, 0 ≤ q → q < c.p → q ≠ a → ((ifM m q).k == 3 && m.taken q == 0) = false
  ls : ListsM c m (gM m)
theorem SndM.x (S : SndM c m L) (a : Int) : SndX c m L a := by
  obtain ⟨S1, S2⟩ := snd_iff.1 S
  exact ⟨S1.tl, S1.ap, S1.bits, fun q h0 h1 _ => S1.some q h0 h1, S2⟩
theorem rackM_iff {q : Int} : rackM m k q = true ↔ (ifM m q).k = 3 ∧ (ifM m q).c = k ∧ full (m.taken q) k = false := by
  simp only [rackM, Bool.and_eq_true, beq_iff_eq, Bool.not_eq_true', and_assoc]
theorem bad_live {q b : Int} (h : badM m q b = false) (hs : bitAt (m.slots q) b = true) : bitAt (m.taken q) b = true := by
  cases ht : bitAt (m.taken q) b with
  | true => rfl
  | false => unfold badM at h; rw [hs, ht] at h; cases h
theorem bad_slot {q b : Int} (h : badM m q b = false) (ht : bitAt (m.taken q) b = true) : (ifM m q).k = 3 ∧ b < kSlots (ifM m q).c := by
  unfold badM at h
  rw [ht] at h
  simp only [Bool.not_true, Bool.and_false, Bool.false_or, Bool.true_and, Bool.or_eq_false_iff, bne_eq_false_iff_eq, decide_eq_false_iff_not] at h
  omega
theorem bits_in (hb : ∀ b : Int, 0 ≤ b → b < 32 → badM m a b = false) : ∀ b : Int, kSlots (ifM m a).c ≤ b → b < 32 → bitAt (m.taken a) b = false := fun b h1 h2 => by
  have hk := kSlots_bd (ifM m a).c
  cases ht : bitAt (m.taken a) b with
  | false => rfl
  | true => have := bad_slot (hb b (by omega) h2) ht; omega
end
end Go.Proofs.YtcbeifgnccbfbaaGreat
namespace Go.Proofs.YtcbeifgnccbfbaaGreat
open Go.Sl
section
variable {c : Cf} {m m' : Mm} {s : VS} {L L' : List Sp} {a k b : Int} {xs : List Int}
theorem give_some (S : SndM c m L) (ha : 0 ≤ a ∧ a < c.p) (h3 : (ifM m a).k = 3) (ht : bd32 (m.taken a)) (hb : 0 ≤ b ∧ b < 32) (hT : bitAt (m.taken a) b = true) (hS : bitAt (m.slots a) b = false) (hu : clrB (m.taken a) b ≠ 0) :
    SndM c (bif full (m.taken a) (ifM m a).c then mPush (mTak m a (clrB (m.taken a) b)) (.rack (ifM m a).c) a else mTak m a (clrB (m.taken a) b)) L := by
  obtain ⟨S1, S2⟩ := snd_iff.1 S
  obtain ⟨c0, c1, hl⟩ := iGet_three h3
  have hk : (Hq.rack (ifM m a).c).ok := ⟨c0, by show (iGet (m.info a)).c < 9; omega⟩
  obtain ⟨t1, t2⟩ := bitAt_clrB ht hb
  have hin := bits_in (S1.bits a ha.1 ha.2)
  have hbs := bad_slot (S1.bits a ha.1 ha.2 b hb.1 hb.2) hT
  generalize hte : clrB (m.taken a) b = t at t1 t2 hu ⊢
  have hta : (mTak m a t).taken a = t := fset_same _ _ _
  have htk : ∀ q, q ≠ a → (mTak m a t).taken q = m.taken q := fun q hq => fset_ne hq
  have hnf : full t (ifM m a).c = false := by
    rw [full_fr fun x h1 h2 => by rw [t2, hin x h1 h2]; rfl]
    have : b ∈ frL t (kSlots (ifM m a).c) := frL_in hb.1 hbs.2 (by rw [t2]; simp)
    cases hl2 : frL t (kSlots (ifM m a).c) with
    | nil => rw [hl2] at this; cases this
    | cons _ _ => rfl
  have hif : ifM (mTak m a t) a = ifM m a := rfl
  have hbits : ∀ q : Int, 0 ≤ q → q < c.p → ∀ x : Int, 0 ≤ x → x < 32 → badM (mTak m a t) q x = false := fun q h0 h1 x x0 x1 => by
    by_cases e : q = a
    · subst e
      have hx := S1.bits q h0 h1 x x0 x1
      unfold badM at hx ⊢
      rw [hta, hif, t2]
      have hs : (mTak m q t).slots q = m.slots q := rfl
      rw [hs]
      by_cases ex : x = b
      · subst ex; rw [hS]; simp
      · simpa [ex] using hx
    · rw [badM_eq (m := m) (m' := mTak m a t) rfl rfl (htk q e)]; exact S1.bits q h0 h1 x x0 x1
  have hsome : ∀ q : Int, 0 ≤ q → q < c.p → ((ifM (mTak m a t) q).k == 3 && (mTak m a t).taken q == 0) = false := fun q h0 h1 => by
    by_cases e : q = a
    · subst e
      rw [hta]
      have : (t == 0) = false := by simpa using hu
      rw [this, Bool.and_false]
    · rw [htk q e]; exact S1.some q h0 h1
  have hT' : Tl (mTak m a t) 0 L c.p := S1.tl.of_eq (fun _ _ _ => rfl) fun _ _ _ => rfl
  have hls : ListsM c (mTak m a t) (gM m) := S2.of_eq (fun h => by cases h <;> rfl) rfl rfl fun _ _ _ _ _ => rfl
  have hne : ∀ q, q ≠ a → ∀ h : Hq, gM (mTak m a t) h q = gM m h q := fun q hq h => gM_eq (m := m) (m' := mTak m a t) (q := q) rfl (htk q hq) h
  have hgt : gM (mTak m a t) (.rack (ifM m a).c) a = true := rackM_iff.2 ⟨h3, rfl, by rw [hta]; exact hnf⟩
  have hoth : ∀ h : Hq, h ≠ .rack (ifM m a).c → gM (mTak m a t) h a = false := fun h eh => by
    cases h with
    | bin j => show binM (mTak m a t) j a = false; unfold binM; rw [hif, h3]; rfl
    | rack j =>
      have hj : (ifM m a).c ≠ j := fun e => eh (by rw [e])
      show rackM (mTak m a t) j a = false
      unfold rackM
      rw [hif]
      have : ((ifM m a).c == j) = false := by simpa using hj
      rw [this]; simp
  cases hf : full (m.taken a) (ifM m a).c with
  | false =>
    rw [cond_false]
    refine snd_iff.2 ⟨⟨hT', S1.ap, hbits, hsome⟩, hls.of_eq (fun _ => rfl) rfl rfl fun h hh q h0 h1 => ?_⟩
    by_cases e : q = a
    · subst e
      by_cases eh : h = .rack (ifM m q).c
      · subst eh
        rw [hgt]
        exact (rackM_iff.2 ⟨h3, rfl, hf⟩).symm
      · rw [hoth h eh]
        have hr : gM m (.rack (ifM m q).c) q = true := rackM_iff.2 ⟨h3, rfl, hf⟩
        cases hx : gM m h q with
        | false => rfl
        | true => exact (S2.one h _ hh hk eh q h0 h1 hx hr).elim
    · exact hne q e h
  | true =>
    rw [cond_true]
    have hno : ∀ h : Hq, gM m h a = false := fun h => by
      cases h with
      | bin j => show binM m j a = false; unfold binM; rw [h3]; rfl
      | rack j =>
        show rackM m j a = false
        unfold rackM
        by_cases ej : (ifM m a).c = j
        · rw [← ej, hf]; simp
        · have : ((ifM m a).c == j) = false := by simpa using ej
          rw [this]; simp
    obtain ⟨p1, p2, p3, p4, _, _, _, _⟩ := push_same (m := mTak m a t) (a := a) (.rack (ifM m a).c)
    have hpush := hls.push (h := .rack (ifM m a).c) hk ha fun h _ => hno h
    refine snd_iff.2 ⟨⟨hT'.of_eq (fun _ _ _ => by rw [p1]) fun _ _ _ => by rw [p2], S1.ap, fun q h0 h1 x x0 x1 => ?_, fun q h0 h1 => ?_⟩, hpush.of_eq (fun _ => rfl) rfl rfl fun h hh q h0 h1 => ?_⟩
    · rw [badM_eq (m := mTak m a t) (by rw [p1]) (by rw [p3]) (by rw [p4])]; exact hbits q h0 h1 x x0 x1
    · rw [ifM_eq (m := mTak m a t) (by rw [p1]), p4]; exact hsome q h0 h1
    · rw [gM_eq (m := mTak m a t) (by rw [p1]) (by rw [p4]) h]
      unfold gAdd
      by_cases e : q = a
      · subst e
        rw [hno h, Bool.false_or]
        by_cases eh : h = .rack (ifM m q).c
        · subst eh; rw [hgt]; simp
        · have : decide (h = .rack (ifM m q).c) = false := by simpa using eh
          rw [this, Bool.false_and, hoth h eh]
      · have : decide (q = a) = false := by simpa using e
        rw [this, hne q e h]; simp
theorem give_all (S : SndM c m L) (ha : 0 ≤ a ∧ a < c.p) (h3 : (ifM m a).k = 3) (ht : bd32 (m.taken a)) (hsl : bd32 (m.slots a)) (hb : 0 ≤ b ∧ b < 32) (hS : bitAt (m.slots a) b = false) (hu : clrB (m.taken a) b = 0) :
    ∃ L1 x L2, L = L1 ++ x :: L2 ∧ x.k = 3 ∧ x.l = 1 ∧ m.slots a = 0 ∧ Hol c (mTak (bif full (m.taken a) (ifM m a).c then m else mPull m (.rack (ifM m a).c) a) a 0) L1 a 1 L2 := by
  obtain ⟨S1, S2⟩ := snd_iff.1 S
  obtain ⟨c0, c1, hl⟩ := iGet_three h3
  have hk : (Hq.rack (ifM m a).c).ok := ⟨c0, by show (iGet (m.info a)).c < 9; omega⟩
  obtain ⟨t1, t2⟩ := bitAt_clrB ht hb
  have hs0 : m.slots a = 0 := bits_ext hsl (by unfold bd32; decide) fun x => by
    rw [bitAt_zero]
    by_cases hx : 0 ≤ x ∧ x < 32
    · cases hq : bitAt (m.slots a) x with
      | false => rfl
      | true =>
        have h1 := bad_live (S1.bits a ha.1 ha.2 x hx.1 hx.2) hq
        have h2 := t2 x
        rw [hu, bitAt_zero, h1] at h2
        have : x = b := by simpa using h2.symm
        subst this
        rw [hS] at hq; cases hq
    · exact bitAt_out hx
  obtain ⟨L1, x, L2, e, ta, tx, tb⟩ := Tl.at S1.tl ha.1 ha.2 (by rw [h3]; decide)
  subst e
  have hxi : (⟨x.k, x.l, x.c⟩ : If) = ifM m a := tx.inf.symm
  have hxk : x.k = 3 := by rw [← h3, ← hxi]
  have hxl : x.l = 1 := by
    have : (ifM m a).l = 1 := hl
    rw [← this, ← hxi]
  have hap := ap_split S1.apF
  refine ⟨L1, x, L2, rfl, hxk, hxl, hs0, ?_⟩
  rw [hxl] at tb
  have hls : ListsM c m (exG m []) := by rw [ex_nil]; exact S2
  have build : ∀ m0 : Mm, m0.info = m.info → m0.foot = m.foot → m0.slots = m.slots → m0.taken = m.taken → ListsM c m0 (exG m0 [a]) → Hol c (mTak m0 a 0) L1 a 1 L2 := fun m0 e1 e2 e3 e4 hl0 => by
    have i5 : (mTak m0 a 0).info = m.info := e1
    have f5 : (mTak m0 a 0).foot = m.foot := e2
    have s5 : (mTak m0 a 0).slots = m.slots := e3
    have t5 : ∀ q, q ≠ a → (mTak m0 a 0).taken q = m.taken q := fun q hq => by show fset m0.taken a 0 q = _; rw [fset_ne hq, e4]
    refine ⟨ta.of_eq (fun _ _ _ => by rw [i5]) fun _ _ _ => by rw [f5], tb.of_eq (fun _ _ _ => by rw [i5]) fun _ _ _ => by rw [f5], Int.le_refl _, fun q h1 h2 => by omega, fun q h1 h2 => by omega, hap.1, hap.2.1, fun q h0 h1 hq x x0 x1 => ?_, fun x x0 x1 => ⟨?_, ?_⟩, fun q h0 h1 hq => ?_, ?_⟩
    · rw [badM_eq (m := m) (by rw [i5]) (by rw [s5]) (t5 q hq)]; exact S1.bits q h0 h1 x x0 x1
    · show bitAt (fset m0.taken a 0 a) x = false
      rw [fset_same, bitAt_zero]
    · rw [s5, hs0, bitAt_zero]
    · rw [ifM_eq (m := m) (by rw [i5]), t5 q hq]; exact S1.some q h0 h1
    · exact ex_set hl0 (fun h => by cases h <;> rfl) rfl rfl (fun _ _ => rfl) fun q hq => fset_ne fun e => hq (by simp [e])
  cases hf : full (m.taken a) (ifM m a).c with
  | true =>
    rw [cond_true]
    refine build m rfl rfl rfl rfl (ex_more hls fun h => ?_)
    cases h with
    | bin j => show binM m j a = false; unfold binM; rw [h3]; rfl
    | rack j =>
      show rackM m j a = false
      unfold rackM
      by_cases ej : (ifM m a).c = j
      · rw [← ej, hf]; simp
      · have : ((ifM m a).c == j) = false := by simpa using ej
        rw [this]; simp
  | false =>
    rw [cond_false]
    obtain ⟨p1, p2, p3, p4, _, _, _, _⟩ := pull_same (m := m) (a := a) (.rack (ifM m a).c)
    exact build _ p1 p2 p3 p4 (pull_ex hk ha (by simp) hls (rackM_iff.2 ⟨h3, rfl, hf⟩))
structure Slc (c : Cf) (m m' : Mm) (a d : Int) : Prop where
  u : ∀ q, 0 ≤ q → q < c.p → q ≠ a → uM m' q = uM m q
  ua : uM m' a = uM m a ∨ (m.slots a = 0 ∧ (uM m' a).k ≠ 2 ∧ (uM m a).k ≠ 2)
  slots : m'.slots = m.slots
  tk : ∀ q, q ≠ a → m'.taken q = m.taken q
  root : m'.root = m.root
  dn : m'.dn = m.dn
  lv : m'.lv = m.lv
  fr : m'.fr = nv (m.fr + d)
theorem slF_zero (c : Cf) (q k : Int) : ∀ n : Nat, blkU.slF c 0 q k n = []
  | 0 => rfl
  | n + 1 => by rw [blkU.slF, slF_zero c q k n, bitAt_zero]; rfl
theorem blkU_zero {u : If} (h : u.k ≠ 2) (q : Int) : blkU c u 0 q = [] := by
  unfold blkU
  have : (u.k == 2) = false := by simpa using h
  rw [this, cond_false]
  cases u.k == 3 with
  | true => exact slF_zero _ _ _ _
  | false => rfl
theorem Slc.blkP {d : Int} (C : Slc c m m' a d) {q : Int} (h0 : 0 ≤ q) (h1 : q < c.p) : Go.Proofs.YtcbeifgnccbfbaaGreat.blkP c m' q = Go.Proofs.YtcbeifgnccbfbaaGreat.blkP c m q := by
  rw [blkP_u, blkP_u, C.slots]
  by_cases e : q = a
  · subst e
    rcases C.ua with h | ⟨h1, h2, h3⟩
    · rw [h]
    · rw [h1, blkU_zero h2, blkU_zero h3]
  · rw [C.u q h0 h1 e]
theorem Slc.blk {d : Int} (C : Slc c m m' a d) : blkF c m' c.p.toNat = blkF c m c.p.toNat := blkF_congr fun q h0 h1 => C.blkP h0 (by omega)
theorem Slc.lvP {d : Int} (C : Slc c m m' a d) {q : Int} (h0 : 0 ≤ q) (h1 : q < c.p) : Go.Proofs.YtcbeifgnccbfbaaGreat.lvP m' q = Go.Proofs.YtcbeifgnccbfbaaGreat.lvP m q := by
  rw [lvP_u, lvP_u, C.slots]
  by_cases e : q = a
  · subst e
    rcases C.ua with h | ⟨h1, h2, h3⟩
    · rw [h]
    · have e2 : ((uM m' q).k == 2) = false := by simpa using h2
      have e3 : ((uM m q).k == 2) = false := by simpa using h3
      rw [e2, e3]
  · rw [C.u q h0 h1 e]
theorem Slc.sound {d : Int} (C : Slc c m m' a d) (S : SoundM c m L) (S' : SndM c m' L') (hf : fS L' = fS L + d) : SoundM c m' L' := by
  refine ⟨S', ⟨?_, ?_⟩, fun k k0 k1 => ?_⟩
  · have t1 := sm_tl (m := m) (L := L) (a := 0) (b := c.p) (Int.le_refl _) S.snd.tl
    have t2 := sm_tl (m := m') (L := L') (a := 0) (b := c.p) (Int.le_refl _) S'.tl
    have e0 : smF (frP m) (Int.toNat 0) = 0 := rfl
    have e1 : smF (frP m') (Int.toNat 0) = 0 := rfl
    rw [t2, e1, C.fr, S.cnt.1, t1, e0, hf]
    unfold nv; omega
  · rw [C.lv, S.cnt.2]
    rw [smF_congr (f := Go.Proofs.YtcbeifgnccbfbaaGreat.lvP m') (g := Go.Proofs.YtcbeifgnccbfbaaGreat.lvP m) fun q h0 h1 => C.lvP h0 (by omega)]
  · rw [C.root, C.blk]; exact S.rts k k0 k1
def cntP (m : Mm) (q : Int) : Int := bif (ifM m q).k == 3 then idN (m.taken q) (m.slots q) (kSlots (ifM m q).c).toNat else 0
def cntM (c : Cf) (m : Mm) : Int := smF (cntP m) c.p.toNat
theorem cntP_u (q : Int) : cntP m q = bif (uM m q).k == 3 then idN (m.taken q) (m.slots q) (kSlots (uM m q).c).toNat else 0 := by
  unfold cntP uM uI
  cases h3 : (ifM m q).k == 3 with
  | true => simp only [Bool.or_true, cond_true, h3]
  | false =>
    cases h2 : (ifM m q).k == 2 with
    | true => simp only [Bool.true_or, cond_true, h3]
    | false => rfl
theorem Slc.cnt {d : Int} (C : Slc c m m' a d) (ha : 0 ≤ a ∧ a < c.p) : cntM c m' = cntM c m + (cntP m' a - cntP m a) := by
  unfold cntM
  refine smF_one ha.1 (by omega) fun q h0 h1 h2 => ?_
  rw [cntP_u, cntP_u, C.slots, C.tk q h2, C.u q h0 (by omega) h2]
theorem idN_zero (s : Int) : ∀ n : Nat, idN 0 s n = 0
  | 0 => rfl
  | n + 1 => by rw [idN, idN_zero s n, bitAt_zero]; rfl
end
end Go.Proofs.YtcbeifgnccbfbaaGreat
namespace Go.Proofs.YtcbeifgnccbfbaaGreat
open Go.Sl
section
variable {c : Cf} {m m' : Mm} {s : VS} {L L' : List Sp} {a k b want : Int} {xs : List Int}
theorem tkn_bd (h : At c s m) (ha : 0 ≤ a ∧ a < c.p) : bd32 (m.taken a) := by rw [← h.get_taken ha]; exact VS.get_bd _ _
theorem slt_bd (h : At c s m) (ha : 0 ≤ a ∧ a < c.p) : bd32 (m.slots a) := by rw [← h.get_slots ha]; exact VS.get_bd _ _
theorem tak_at (h : At c s m) (ha : 0 ≤ a ∧ a < c.p) {t : Int} (ht : bd32 t) : At c (s.set (c.taken a) t) (mTak m a t) := by
  have := h.set_taken ha t
  rw [nv_id ht] at this
  exact this
end
end Go.Proofs.YtcbeifgnccbfbaaGreat

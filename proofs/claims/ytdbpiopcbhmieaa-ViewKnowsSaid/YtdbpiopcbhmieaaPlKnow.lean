/-
  DERIVED. What programs over cells need to know: run with some cells known, they do the same, or ask for the next cell that they would read. No program is named.
-/
import Derived.Test.YtdbpiopcbhmieaaPlPg
namespace Go.Sl

theorem VS.there_of {s : VS} {i : Int} (h : s.there i = true) : 0 ≤ i ∧ i < s.n ∧ s.miss < 0 := by
  simp only [VS.there, Bool.and_eq_true, decide_eq_true_eq] at h
  exact ⟨h.1.1, h.1.2, h.2⟩
theorem VS.there_stuck {s : VS} {i : Int} (h : 0 ≤ s.miss) : s.there i = false := by
  simp only [VS.there, Bool.and_eq_false_iff, decide_eq_false_iff_not]
  exact .inr (by omega)
theorem Pg.run_stuck {α : Type} (p : Pg α) : ∀ s : VS, 0 ≤ s.miss → (p.run s).1 = s := by
  induction p with
  | ret a => intro s _; rfl
  | get i k ih =>
    intro s h
    have e : s.read i = s := by simp only [VS.read, VS.there_stuck h, cond_false]
    rw [Pg.run_get, e]; exact ih _ s h
  | put i x k ih =>
    intro s h
    have e : s.set i x = s := by simp only [VS.set, VS.there_stuck h, cond_false]
    rw [Pg.run_put, e]; exact ih s h

/-- A view that knows all cells, and goes on so. -/
structure Full (s : VS) : Prop where
  miss : s.miss = -1
  src : ∀ i : Int, 0 ≤ i → i < s.n → (s.src i).isSome = true
  rn : s.reads.Nodup
  ri : ∀ i ∈ s.reads, 0 ≤ i ∧ i < s.n
theorem VS.read_cases (s : VS) (i : Int) : s.read i = s ∨ (s.there i = true ∧ s.put i = none ∧ s.src i = none ∧ s.read i = { s with miss := i }) ∨ (s.there i = true ∧ s.put i = none ∧ (s.src i).isSome = true ∧ s.reads.contains i = false ∧ s.read i = { s with reads := s.reads ++ [i] }) := by
  unfold VS.read
  cases ht : s.there i with
  | false => exact .inl rfl
  | true =>
    simp only [cond_true]
    cases hp : s.put i with
    | some v => exact .inl rfl
    | none =>
      cases hs : s.src i with
      | none => exact .inr (.inl ⟨by trivial, by trivial, by trivial, rfl⟩)
      | some v =>
        simp only
        cases hc : s.reads.contains i with
        | true => exact .inl rfl
        | false => exact .inr (.inr ⟨by trivial, by trivial, rfl, by trivial, rfl⟩)
theorem nodup_snoc' {xs : List Int} {i : Int} (h : xs.Nodup) (hi : xs.contains i = false) : (xs ++ [i]).Nodup := by
  rw [List.nodup_append]
  refine ⟨h, by simp, fun a ha b hb => ?_⟩
  simp only [List.mem_singleton] at hb
  subst hb
  intro e
  subst e
  have : xs.contains a = true := by simpa using ha
  rw [hi] at this; cases this
theorem Full.read {s : VS} (h : Full s) (i : Int) : Full (s.read i) := by
  rcases s.read_cases i with e | ⟨ht, _, hs, _⟩ | ⟨ht, _, _, hc, e⟩
  · rw [e]; exact h
  · obtain ⟨h0, h1, _⟩ := VS.there_of ht
    have := h.src i h0 h1
    rw [hs] at this; cases this
  · rw [e]
    obtain ⟨h0, h1, _⟩ := VS.there_of ht
    refine { miss := h.miss, src := h.src, rn := nodup_snoc' h.rn hc, ri := fun j hj => ?_ }
    have hj' : j ∈ s.reads ++ [i] := hj
    simp only [List.mem_append, List.mem_singleton] at hj'
    rcases hj' with hj' | rfl
    · exact h.ri j hj'
    · exact ⟨h0, h1⟩
theorem VS.set_same (s : VS) (i x : Int) : (s.set i x).n = s.n ∧ (s.set i x).src = s.src ∧ (s.set i x).reads = s.reads ∧ (s.set i x).miss = s.miss ∧ (s.set i x).all = s.all := by
  unfold VS.set
  cases s.there i <;> exact ⟨rfl, rfl, rfl, rfl, rfl⟩
theorem VS.read_same (s : VS) (i : Int) : (s.read i).n = s.n ∧ (s.read i).src = s.src ∧ (s.read i).put = s.put ∧ (s.read i).wrote = s.wrote ∧ (s.read i).all = s.all := by
  rcases s.read_cases i with e | ⟨_, _, _, e⟩ | ⟨_, _, _, _, e⟩ <;> rw [e] <;> exact ⟨rfl, rfl, rfl, rfl, rfl⟩
theorem Full.set {s : VS} (h : Full s) (i x : Int) : Full (s.set i x) := by
  obtain ⟨e1, e2, e3, e4, _⟩ := s.set_same i x
  exact { miss := by rw [e4]; exact h.miss, src := by rw [e1, e2]; exact h.src, rn := by rw [e3]; exact h.rn, ri := by rw [e1, e3]; exact h.ri }
theorem Full.run {α : Type} (p : Pg α) : ∀ {s : VS}, Full s → Full (p.run s).1 := by
  induction p with
  | ret a => intro s h; exact h
  | get i k ih => intro s h; exact ih _ (h.read i)
  | put i x k ih => intro s h; exact ih (h.set i x)
theorem Pg.run_reads {α : Type} (p : Pg α) : ∀ s : VS, ∃ r, (p.run s).1.reads = s.reads ++ r := by
  induction p with
  | ret a => intro s; exact ⟨[], by simp [Pg.run]⟩
  | get i k ih =>
    intro s
    obtain ⟨r, hr⟩ := ih (s.get i) (s.read i)
    rw [Pg.run_get, hr]
    rcases s.read_cases i with e | ⟨_, _, _, e⟩ | ⟨_, _, _, _, e⟩ <;> rw [e]
    · exact ⟨r, rfl⟩
    · exact ⟨r, rfl⟩
    · exact ⟨i :: r, by simp⟩
  | put i x k ih =>
    intro s
    obtain ⟨r, hr⟩ := ih (s.set i x)
    rw [Pg.run_put, hr, (s.set_same i x).2.2.1]
    exact ⟨r, rfl⟩
theorem VS.whole_full (xs : List Int) : Full (VS.whole xs) where
  miss := rfl
  src := fun i h0 h1 => by
    have e1 : decide (0 ≤ i) = true := by simpa using h0
    have e2 : decide (i < (xs.length : Int)) = true := by simpa [VS.whole] using h1
    simp only [VS.whole, e1, e2, Bool.and_self, cond_true, Option.isSome_some]
  rn := List.nodup_nil
  ri := fun i h => by cases h

/-- A run that knows all, and one that knows some. -/
structure Sim (kn : Int → Bool) (s k : VS) : Prop where
  full : Full s
  n : k.n = s.n
  put : k.put = s.put
  reads : k.reads = s.reads
  wrote : k.wrote = s.wrote
  miss : k.miss = -1
  src : ∀ i : Int, 0 ≤ i → i < s.n → k.src i = bif kn i then s.src i else none
  rk : ∀ i ∈ s.reads, kn i = true
theorem Sim.there {kn : Int → Bool} {s k : VS} (h : Sim kn s k) (i : Int) : k.there i = s.there i := by
  simp only [VS.there, h.n, h.miss, h.full.miss]
theorem Sim.set {kn : Int → Bool} {s k : VS} (h : Sim kn s k) (i x : Int) : Sim kn (s.set i x) (k.set i x) := by
  obtain ⟨e1, e2, e3, e4, _⟩ := s.set_same i x
  obtain ⟨f1, f2, f3, f4, _⟩ := k.set_same i x
  exact { full := h.full.set i x
          n := by rw [e1, f1]; exact h.n
          put := by unfold VS.set; rw [h.there i, h.put]; cases s.there i <;> simp [h.put]
          reads := by rw [e3, f3]; exact h.reads
          wrote := by unfold VS.set; rw [h.there i, h.put, h.wrote]; cases s.there i <;> simp [h.wrote]
          miss := by rw [f4]; exact h.miss
          src := by rw [e1, e2, f2]; exact h.src
          rk := by rw [e3]; exact h.rk }
/-- What comes of a run that knows some. -/
def Ends {α : Type} (kn : Int → Bool) (s : VS × α) (k : VS × α) : Prop :=
  (Sim kn s.1 k.1 ∧ s.2 = k.2) ∨ ∃ pre i rest, s.1.reads = pre ++ i :: rest ∧ (∀ j ∈ pre, kn j = true) ∧ kn i = false ∧ k.1.miss = i ∧ k.1.reads = pre
theorem Sim.run {α : Type} (kn : Int → Bool) (p : Pg α) : ∀ {s k : VS}, Sim kn s k → Ends kn (p.run s) (p.run k) := by
  induction p with
  | ret a => intro s k h; exact .inl ⟨h, rfl⟩
  | put i x q ih => intro s k h; exact ih (h.set i x)
  | get i q ih =>
    intro s k h
    rw [Pg.run_get, Pg.run_get]
    have step : Sim kn (s.read i) (k.read i) → s.get i = k.get i → Ends kn ((q (s.get i)).run (s.read i)) ((q (k.get i)).run (k.read i)) := fun h1 h2 => by
      rw [h2]; exact ih _ h1
    cases ht : s.there i with
    | false =>
      have hk : k.there i = false := by rw [h.there]; exact ht
      refine step ?_ ?_
      · simp only [VS.read, ht, hk, cond_false]; exact h
      · simp only [VS.get, ht, hk, cond_false]
    | true =>
      have hk : k.there i = true := by rw [h.there]; exact ht
      obtain ⟨h0, h1, _⟩ := VS.there_of ht
      cases hp : s.put i with
      | some v =>
        have hpk : k.put i = some v := by rw [h.put]; exact hp
        refine step ?_ ?_
        · simp only [VS.read, ht, hk, cond_true, hp, hpk]; exact h
        · simp only [VS.get, ht, hk, cond_true, hp, hpk]
      | none =>
        have hpk : k.put i = none := by rw [h.put]; exact hp
        have hsome := h.full.src i h0 h1
        have hsk := h.src i h0 h1
        cases hs : s.src i with
        | none => rw [hs] at hsome; cases hsome
        | some v =>
          cases hkn : kn i with
          | true =>
            have hks : k.src i = some v := by rw [hsk, hkn, hs]; rfl
            refine step ?_ ?_
            · simp only [VS.read, ht, hk, cond_true, hp, hpk, hs, hks, h.reads]
              cases hc : s.reads.contains i with
              | true => exact h
              | false =>
                exact { full := by have := h.full.read i; simpa only [VS.read, ht, cond_true, hp, hs, hc, cond_false] using this
                        n := h.n, put := h.put, reads := rfl, wrote := h.wrote, miss := h.miss, src := h.src
                        rk := fun j hj => by
                          simp only [cond_false, List.mem_append, List.mem_singleton] at hj
                          rcases hj with hj | rfl
                          · exact h.rk j hj
                          · exact hkn }
            · simp only [VS.get, ht, hk, cond_true, hp, hpk, hs, hks]
          | false =>
            have hks : k.src i = none := by rw [hsk, hkn]; rfl
            have hni : s.reads.contains i = false := by
              cases hc : s.reads.contains i with
              | false => rfl
              | true =>
                have := h.rk i (by simpa using hc)
                rw [hkn] at this; cases this
            have er : k.read i = { k with miss := i } := by simp only [VS.read, hk, cond_true, hpk, hks]
            have es : s.read i = { s with reads := s.reads ++ [i] } := by simp only [VS.read, ht, cond_true, hp, hs, hni, cond_false]
            right
            obtain ⟨r, hr⟩ := Pg.run_reads (q (s.get i)) (s.read i)
            have hst := Pg.run_stuck (q (k.get i)) (k.read i) (by rw [er]; exact h0)
            refine ⟨s.reads, i, r, ?_, h.rk, hkn, ?_, ?_⟩
            · rw [hr, es]; simp
            · rw [hst, er]
            · rw [hst, er]; exact h.reads

theorem length_le_of_subset : ∀ {xs ys : List Int}, xs.Nodup → (∀ x ∈ xs, x ∈ ys) → xs.length ≤ ys.length
  | [], ys, _, _ => by simp
  | x :: xs, ys, hn, h => by
    rw [List.nodup_cons] at hn
    have hx : x ∈ ys := h x (by simp)
    have := length_le_of_subset (xs := xs) (ys := ys.erase x) hn.2 fun y hy => by
      have hne : y ≠ x := fun e => by subst e; exact hn.1 hy
      exact (List.mem_erase_of_ne hne).2 (h y (by simp [hy]))
    rw [List.length_erase_of_mem hx] at this
    have hp : 0 < ys.length := List.length_pos_of_mem hx
    simp only [List.length_cons]; omega

/-- Known are just the first m cells that a run reads: it asks for the next one, or does the same. -/
theorem known_run {α : Type} (p : Pg α) {s k : VS} {m : Nat} (hm : m ≤ (p.run s).1.reads.length) (h : Sim (fun i => ((p.run s).1.reads.take m).contains i) s k) :
    (m = (p.run s).1.reads.length → Sim (fun i => ((p.run s).1.reads.take m).contains i) (p.run s).1 (p.run k).1 ∧ (p.run s).2 = (p.run k).2) ∧
    (m < (p.run s).1.reads.length → (p.run k).1.miss = (p.run s).1.reads.getD m 0 ∧ (p.run k).1.reads = (p.run s).1.reads.take m) := by
  have hf := Full.run p h.full
  rcases Sim.run _ p h with ⟨h1, h2⟩ | ⟨pre, i, rest, e, h2, h3, h4, h5⟩
  · refine ⟨fun _ => ⟨h1, h2⟩, fun hlt => ?_⟩
    have hl := length_le_of_subset (ys := (p.run s).1.reads.take m) hf.rn fun x hx => by simpa using h1.rk x hx
    rw [List.length_take] at hl
    omega
  · have hin : i ∈ (p.run s).1.reads := by rw [e]; simp
    have hlen : pre.length = m := by
      have hn := hf.rn
      have hpn : pre.Nodup := by rw [e] at hn; exact (List.nodup_append.1 hn).1
      have a := length_le_of_subset (ys := (p.run s).1.reads.take m) hpn fun x hx => by simpa using h2 x hx
      rw [List.length_take] at a
      have b : ¬ pre.length < m := fun hlt => by
        have : i ∈ (p.run s).1.reads.take m := by
          rw [e, List.mem_take_iff_getElem]
          exact ⟨pre.length, by simp; omega, by simp⟩
        have h3' : ((p.run s).1.reads.take m).contains i = true := by simpa using this
        exact absurd (h3'.symm.trans h3) (by decide)
      omega
    refine ⟨fun he => ?_, fun _ => ⟨?_, ?_⟩⟩
    · exfalso
      have : ((p.run s).1.reads.take m).contains i = true := by rw [he, List.take_length]; simpa using hin
      exact absurd (this.symm.trans h3) (by decide)
    · rw [h4, e, ← hlen]; simp [List.getD_eq_getElem?_getD]
    · rw [h5, e, ← hlen]; simp

theorem known_src {vals xs ys : List Int} (hy : ys = xs.map fun i => vals.getD i.toNat 0) (i : Int) : fsUpto xs ys xs.length i = bif xs.contains i then some (vals.getD i.toNat 0) else none := by
  unfold fsUpto
  cases hf : (List.range xs.length).find? (fun j => xs.getD j 0 == i) with
  | none =>
    have : xs.contains i = false := by
      cases hc : xs.contains i with
      | false => rfl
      | true =>
        have hm : i ∈ xs := by simpa using hc
        obtain ⟨j, hj, e⟩ := List.getElem_of_mem hm
        have := List.find?_eq_none.1 hf j (by simpa using hj)
        rw [List.getD_eq_getElem?_getD, List.getElem?_eq_getElem hj] at this
        simp [e] at this
    rw [this]; rfl
  | some j =>
    have hj : j < xs.length := by simpa using List.mem_of_find?_eq_some hf
    have he : xs.getD j 0 = i := by simpa using List.find?_some hf
    rw [List.getD_eq_getElem?_getD, List.getElem?_eq_getElem hj] at he
    have he' : xs[j] = i := by simpa using he
    have : xs.contains i = true := by simpa using he' ▸ List.getElem_mem hj
    rw [this, hy]
    simp [List.getD_eq_getElem?_getD, List.getElem?_eq_getElem hj, he']
theorem sim_known {vals xs ys : List Int} (hy : ys = xs.map fun i => vals.getD i.toNat 0) : Sim (fun i => xs.contains i) (VS.whole vals) (VS.known vals.length xs ys) where
  full := VS.whole_full vals
  n := rfl
  put := rfl
  reads := rfl
  wrote := rfl
  miss := rfl
  src := fun i h0 h1 => by
    have e1 : decide (0 ≤ i) = true := by simpa using h0
    have e2 : decide (i < (vals.length : Int)) = true := by simpa [VS.whole] using h1
    simp only [VS.known, VS.whole, known_src hy, e1, e2, Bool.and_self, cond_true]
  rk := fun i h => by cases h
end Go.Sl

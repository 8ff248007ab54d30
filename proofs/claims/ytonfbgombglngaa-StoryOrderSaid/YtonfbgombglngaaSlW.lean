/-
  DERIVED. Regions whose order is drawn, in general: the machine's 'wide' is right. What is done early by the machine and late by the run is kept in a frame of its own (s); the run's own frame (a) is as that one, but at the slots of what is listed late. No program is named.
-/
import Derived.Test.YtonfbgombglngaaSlK
namespace Go.Sl
open Go.RowKit

variable {σ : Type} (D : Addr → σ → Asn)

theorem hasN_iff {i : Nat} {l : List Nat} : hasN i l = true ↔ i ∈ l := by
  unfold hasN
  rw [List.any_eq_true]
  exact ⟨fun ⟨x, h, e⟩ => by rw [Nat.eq_of_beq_eq_true e]; exact h, fun h => ⟨i, h, Nat.beq_refl i⟩⟩
theorem rmv_mem {j x : Nat} {l : List Nat} : x ∈ rmv j l ↔ x ∈ l ∧ x ≠ j := by
  unfold rmv
  rw [List.mem_filter]
  cases hb : Nat.beq x j with
  | true => have := Nat.eq_of_beq_eq_true hb; simp [this]
  | false => simp [Nat.ne_of_beq_eq_false hb]

theorem keepR_mem {rd : List Nat} {L : List Ent} {e : Ent} (h : e ∈ keepR rd L) : e ∈ L ∧ e.s ∈ rd ∧ ∀ c b, e.g = some (c, b) → c ∈ rd := by
  induction L with
  | nil => simp [keepR] at h
  | cons x r ih =>
    simp only [keepR] at h
    cases hb : (hasN x.s rd && gIn rd x.g) with
    | false => rw [hb] at h; simp only [cond_false] at h; have := ih h; exact ⟨by simp [this.1], this.2⟩
    | true =>
      rw [hb] at h
      simp only [cond_true, List.mem_cons] at h
      rcases h with rfl | h
      · simp only [Bool.and_eq_true] at hb
        refine ⟨by simp, hasN_iff.1 hb.1, fun c b hg => ?_⟩
        rw [hg] at hb
        exact hasN_iff.1 hb.2
      · have := ih h; exact ⟨by simp [this.1], this.2⟩

/-- As far as these slots go. -/
def Agr (R : List Nat) (a b : Act) : Prop := ∀ x ∈ R, a.tmps.getD x undef = b.tmps.getD x undef
theorem Agr.gv {R : List Nat} {a b : Act} (h : Agr R a b) {g : Option (Nat × Bool)} (hg : ∀ c t, g = some (c, t) → c ∈ R) : GV a.tmps g ↔ GV b.tmps g := by
  cases g with
  | none => exact Iff.rfl
  | some x =>
    obtain ⟨c, t⟩ := x
    simp only [GV]
    rw [h c (hg c t rfl)]
theorem Fr.agr {n : Nat} {L : List Ent} {K : List (Chunk σ)} {a b : Act} {R : List Nat} (h : Fr n L K a) (hL : ∀ e ∈ L, e.s ∈ R ∧ ∀ c t, e.g = some (c, t) → c ∈ R) (hab : Agr R a b) (hd : b.defers = []) (hs : b.tmps.size = n) : Fr n L K b := by
  refine ⟨h.kok, hd, hs, fun e he hg => ?_, fun e he hg => ?_⟩
  · obtain ⟨h1, h2⟩ := hL e he
    rw [← hab _ h1]
    exact h.ents e he ((hab.gv h2).2 hg)
  · obtain ⟨h1, h2⟩ := hL e he
    rw [← hab _ h1]
    exact h.skipd e he fun hg' => hg ((hab.gv h2).1 hg')
theorem keepR_fr {n : Nat} {L : List Ent} {K : List (Chunk σ)} {a b : Act} {R : List Nat} (h : Fr n L K a) (hab : Agr R a b) (hd : b.defers = []) (hs : b.tmps.size = n) : Fr n (keepR R L) K b :=
  (h.sub fun _ he => (keepR_mem he).1).agr (fun _ he => (keepR_mem he).2) hab hd hs

/-! ### What nobody writes -/
theorem frz_get (K : List (Chunk σ)) (k : Nat) : (frz K)[k]? = (K[k]?).map frzC := by unfold frz; rw [List.getElem?_map]
theorem frz_or (K : List (Chunk σ)) (k : Nat) : (frz K)[k]? = K[k]? ∨ ((frz K)[k]? = some .dead) := by
  rw [frz_get]
  cases K[k]? with
  | none => exact .inl rfl
  | some c => cases c <;> first | exact .inl rfl | exact .inr rfl
theorem findRo_frz (b : Nat) : ∀ (K : List (Chunk σ)) (k : Nat), findRo b k (frz K) = findRo b k K
  | [], _ => rfl
  | c :: r, k => by
    have ih := findRo_frz b r (k + 1)
    cases c with
    | ro a n cap cols =>
      show findRo b k (.ro a n cap cols :: frz r) = _
      match a with
      | none => exact ih
      | some ⟨b', 0, none⟩ => simp only [findRo]; rw [ih]
      | some ⟨b', 0, some _⟩ => exact ih
      | some ⟨b', m + 1, x⟩ => exact ih
    | _ => exact ih
theorem frz_ext (K : List (Chunk σ)) : KExt K (frz K) := fun k c h => ⟨frzC c, by rw [frz_get, h]; rfl, fun v pk hv => by cases c <;> first | exact hv | (simp only [frzC, cOk])⟩
theorem frz_kok (K : List (Chunk σ)) : KOk (frz K) := fun k b t cs hk => by
  rw [frz_get] at hk
  cases hc : K[k]? with
  | none => rw [hc] at hk; cases hk
  | some c => rw [hc] at hk; cases c <;> simp [frzC] at hk
/-- It stands so in each later world. -/
def Pers (G : Hp) (Kz : List (Chunk σ)) : Prop := ∀ c ∈ Kz, ∀ G' : Hp, (∀ b o, G b = some o → G' b = some o) → ∀ h : Hp, den D G' c h
theorem SatK.pers {E : World} {G : Hp} {w : World} {K : List (Chunk σ)} (h : SatK D E G w K) : Pers D G (frz K) := fun c hc G' hG hh => by
  obtain ⟨k, hk⟩ := List.getElem?_of_mem hc
  rw [frz_get] at hk
  cases hK : K[k]? with
  | none => rw [hK] at hk; cases hk
  | some d =>
    rw [hK] at hk
    simp only [Option.map_some, Option.some.injEq] at hk
    subst hk
    obtain ⟨q, hq, _⟩ := h.get D hK
    cases d with
    | roc b t vs => simp only [frzC, den] at hq ⊢; exact hG _ _ hq
    | ro a n cap cols =>
      have := den_mono D hG (c := .ro a n cap cols) hq
      simpa only [frzC, den] using this
    | _ => simp only [frzC, den]
theorem Pers.sat {G : Hp} {Kz : List (Chunk σ)} (h : Pers D G Kz) {w : World} (hG : G.sub w) : SatK D w (fun b => w.heap[b]?) w Kz :=
  ⟨⟨rfl, rfl, rfl, Nat.le_refl _⟩, fun b o hb => hb, fun _ => none, fun b i hb => (by cases hb), fun i A hi => by
    rw [List.getElem?_map] at hi
    cases hk : Kz[i]? with
    | none => rw [hk] at hi; cases hi
    | some c =>
      rw [hk] at hi
      simp only [Option.map_some, Option.some.injEq] at hi
      subst hi
      exact h c (List.mem_of_getElem? hk) _ (fun b o hb => hG b o hb) _⟩
theorem Sat.keeps {E : World} {G : Hp} {w w' : World} {As Bs : List Asn} (h : Sat E G w As) (h' : Sat w (fun b => w.heap[b]?) w' Bs) : Sat E G w' As := by
  obtain ⟨⟨e1, e2, e3, e4⟩, h2, o, h3, h4⟩ := h
  obtain ⟨⟨f1, f2, f3, f4⟩, k2, _⟩ := h'
  refine ⟨⟨f1.trans e1, f2.trans e2, f3.trans e3, Nat.le_trans e4 f4⟩, fun b x hb => k2 b x (h2 b x hb), o, fun b i hb => ⟨(h3 b i hb).1, Nat.lt_of_lt_of_le (h3 b i hb).2 f4⟩, fun i A hi => ?_⟩
  have : part w' o i = part w o i := by
    funext b
    unfold part
    by_cases hb : o b = some i
    · rw [if_pos hb, if_pos hb]
      have hlt := (h3 b i hb).2
      have he : w.heap[b]? = some w.heap[b] := Array.getElem?_eq_getElem hlt
      rw [he]
      exact k2 b _ he
    · rw [if_neg hb, if_neg hb]
  rw [this]; exact h4 i A hi
theorem quietAt_mono {P : Program} {o : Oper} {a : Act} {C C' : World → Prop} {w : World} {v : Value} (h : o.quietAt P a C w v) (hC : ∀ w', C w' → C' w') : o.quietAt P a C' w v := by
  unfold Oper.quietAt at h ⊢
  cases hr : (execOp a.eval o).run P w with
  | halt x w' => rw [hr] at h; exact h.elim
  | ok nx w' =>
    rw [hr] at h
    cases nx with
    | value u => exact h
    | skip => exact h
    | enter g args =>
      obtain ⟨h1, h2⟩ := h
      refine ⟨h1, fun cs => ?_⟩
      obtain ⟨e, w'', fr, ⟨he, hc⟩, hrest⟩ := h2 cs
      exact ⟨e, w'', fr, ⟨he, hC _ hc⟩, hrest⟩
    | _ => exact h.elim

/-! ### What no call writes -/
theorem frs_get (K : List (Chunk σ)) (k : Nat) : (frs K)[k]? = (K[k]?).map frsC := by unfold frs; rw [List.getElem?_map]
theorem frs_or (K : List (Chunk σ)) (k : Nat) : (frs K)[k]? = K[k]? ∨ (frs K)[k]? = some .dead := by
  rw [frs_get]
  cases K[k]? with
  | none => exact .inl rfl
  | some c => cases c <;> first | exact .inl rfl | exact .inr rfl
theorem findRo_frs (b : Nat) : ∀ (K : List (Chunk σ)) (k : Nat), findRo b k (frs K) = findRo b k K
  | [], _ => rfl
  | c :: r, k => by
    have ih := findRo_frs b r (k + 1)
    cases c with
    | ro a n cap cols =>
      show findRo b k (.ro a n cap cols :: frs r) = _
      match a with
      | none => exact ih
      | some ⟨b', 0, none⟩ => simp only [findRo]; rw [ih]
      | some ⟨b', 0, some _⟩ => exact ih
      | some ⟨b', m + 1, x⟩ => exact ih
    | _ => exact ih
theorem frs_ro (K : List (Chunk σ)) (b : Nat) : findRo b 0 (frs K) = findRo b 0 K := findRo_frs b K 0
theorem frs_ext (K : List (Chunk σ)) : KExt K (frs K) := fun k c h => ⟨frsC c, by rw [frs_get, h]; rfl, fun v pk hv => by cases c <;> first | exact hv | (simp only [frsC, cOk])⟩
theorem frs_kok {K : List (Chunk σ)} (h : KOk K) : KOk (frs K) := fun k b t cs hk x hx => by
  rw [frs_get] at hk
  cases hc : K[k]? with
  | none => rw [hc] at hk; cases hk
  | some c =>
    rw [hc] at hk
    cases c <;> simp [frsC] at hk
    obtain ⟨rfl, rfl, rfl⟩ := hk
    exact (h k _ _ _ hc x hx).ext (frs_ext K)
/-- Each of these stands so in each later world, or stands there. -/
def SubK (G : Hp) (Kz K : List (Chunk σ)) : Prop := ∀ (k : Nat) (c : Chunk σ), Kz[k]? = some c → (∀ h : Hp, den D G c h) ∨ ∃ b t cs, c = .cells b t cs ∧ K[k]? = some c
theorem SatK.subK {E : World} {G : Hp} {w : World} {Kz K : List (Chunk σ)} (h : SatK D E G w K) (hs : SubK D G Kz K) : SatK D E G w Kz := by
  obtain ⟨h1, h2, o, h3, h4⟩ := h
  refine ⟨h1, h2, o, h3, fun i A hi => ?_⟩
  rw [List.getElem?_map] at hi
  cases hk : Kz[i]? with
  | none => rw [hk] at hi; cases hi
  | some c =>
    rw [hk] at hi
    simp only [Option.map_some, Option.some.injEq] at hi
    subst hi
    rcases hs i c hk with hp | ⟨b, t, cs, _, hK⟩
    · exact hp _
    · exact h4 i _ (map_den_get D hK)
theorem SubK.keep {G : Hp} {Kz K K' : List (Chunk σ)} (h : SubK D G Kz K) (hk : CKeep K K') : SubK D G Kz K' := fun k c hc => by
  rcases h k c hc with hp | ⟨b, t, cs, e, hK⟩
  · exact .inl hp
  · subst e; exact .inr ⟨b, t, cs, rfl, hk k b t cs hK⟩
theorem SatK.frs {E : World} {G : Hp} {w : World} {K : List (Chunk σ)} (h : SatK D E G w K) : SubK D G (Sl.frs K) K := fun k c hc => by
  have hpers := SatK.pers D h
  rw [frs_get] at hc
  cases hK : K[k]? with
  | none => rw [hK] at hc; cases hc
  | some d =>
    rw [hK] at hc
    simp only [Option.map_some, Option.some.injEq] at hc
    subst hc
    have hm : frzC d ∈ frz K := List.mem_of_getElem? (by rw [frz_get, hK]; rfl : (frz K)[k]? = some (frzC d))
    have hp := hpers _ hm G (fun _ _ e => e)
    cases d with
    | cells b t cs => exact .inr ⟨b, t, cs, rfl, rfl⟩
    | _ => exact .inl hp

/-- What is reckoned of what nobody writes is reckoned so of all that is there. -/
theorem qstep_dead {P : Program} {T : List (Nat × Entry σ)} {g : Option (Nat × Bool)} {L : List Ent} {K : List (Chunk σ)} {Kz : List (Chunk σ)} {o : Oper} {x : Value × Pr × List Prop} (hor : ∀ k : Nat, Kz[k]? = K[k]? ∨ Kz[k]? = some .dead) (hro : ∀ b, findRo b 0 Kz = findRo b 0 K) (hc : ∀ c, o.op ≠ .call c) (h : qstep P T g L Kz o = some x) : qstep P T g L K o = some x := by
  have hcall : ∀ K' : List (Chunk σ), callOf P g L K' o = none := fun K' => by
    unfold callOf
    split
    · rename_i hop; exact absurd hop (hc _)
    · rename_i hop; exact absurd hop (hc _)
    · rfl
  unfold qstep at h ⊢
  split at h
  all_goals (first | (rename_i hop; simp only [hop]) | skip)
  all_goals (first | exact h | skip)
  · -- load
    split at h
    · rename_i k off hp
      rcases hor k with e | e
      · rw [e] at h; exact h
      · rw [e] at h; cases h
    · rename_i k i off hp
      rcases hor k with e | e
      · rw [e] at h; exact h
      · rw [e] at h; cases h
    · cases h
  · -- fieldAddr
    split at h
    · rename_i fields k pk hu hp
      split at h
      · rename_i fd q hfd hv
        split at h
        · rename_i nn hsz
          cases pk with
          | elem i off =>
            simp only at h ⊢
            rcases hor k with e | e
            · rw [e] at h; exact h
            · rw [e] at h; cases h
          | _ => exact h
        · cases h
      · cases h
    · cases h
  · -- indexAddr
    split at h
    · rename_i e0 k a m cap k1 i hu hp hv hi
      rcases hor k with e | e
      · rw [e] at h; exact h
      · rw [e] at h
        split at h
        · rename_i h1; cases h1
        · rename_i h1; cases h1
        · cases h
    · rename_i len e0 k off a k1 i hu hp hv hi
      exact h
    · simp only [hro] at h
      exact h
    · cases h
  · -- lookup
    split at h
    · rename_i k ki i kt et hp hi hu
      rcases hor k with e | e
      · rw [e] at h; exact h
      · rw [e] at h; cases h
    · cases h
  · rw [hcall] at h ⊢
    exact h

theorem effB_call {o : Oper} (h : effB o = false) : ∀ c, o.op ≠ .call c := fun c e => by unfold effB at h; rw [e] at h; cases h

/-! ### The region's form -/
structure WideOk (ops : Array Oper) : Prop where
  dep : (List.range ops.size).all (fun i => ((ops[i]?).map (·.after.all fun e => !Region.binds .any e || Nat.blt e.on i)).getD false) = true
  rd : ∀ (i j : Nat) (o o' : Oper) (d : Nat), ops[i]? = some o → ops[j]? = some o' → o.dst = some d → d ∈ rdM ops o' → i ∈ depsOf ops j ∧ i ≠ j
  ds : ∀ (i j : Nat) (o o' : Oper) (d : Nat), ops[i]? = some o → ops[j]? = some o' → o.dst = some d → o'.dst = some d → i = j
theorem lt_ops {ops : Array Oper} {i : Nat} {o : Oper} (h : ops[i]? = some o) : i < ops.size := by
  rcases Nat.lt_or_ge i ops.size with h' | h'
  · exact h'
  · rw [Array.getElem?_eq_none h'] at h; cases h
theorem wide_ok {ops : Array Oper} (h : wideOk ops = true) : WideOk ops := by
  unfold wideOk at h
  simp only [Bool.and_eq_true] at h
  obtain ⟨h1, h2⟩ := h
  have row : ∀ (i j : Nat) (o o' : Oper) (d : Nat), ops[i]? = some o → ops[j]? = some o' → o.dst = some d →
      ((!(hasN d (rdM ops o')) || (hasN i (depsOf ops j) && !(Nat.beq i j))) && (Nat.beq i j || neD d o'.dst)) = true := fun i j o o' d hi hj hd => by
    have := (List.all_eq_true.1 h2) i (List.mem_range.2 (lt_ops hi))
    rw [hi] at this
    simp only [hd] at this
    unfold wideRow at this
    have := (List.all_eq_true.1 this) j (List.mem_range.2 (lt_ops hj))
    rw [hj] at this
    exact this
  refine ⟨h1, fun i j o o' d hi hj hd hm => ?_, fun i j o o' d hi hj hd hd' => ?_⟩
  · have := row i j o o' d hi hj hd
    rw [hasN_iff.2 hm] at this
    simp only [Bool.not_true, Bool.false_or, Bool.and_eq_true] at this
    obtain ⟨⟨h3, h4⟩, _⟩ := this
    exact ⟨hasN_iff.1 h3, fun e => by subst e; simp at h4⟩
  · have := row i j o o' d hi hj hd
    simp only [Bool.and_eq_true] at this
    have := this.2
    rw [hd'] at this
    simp only [neD, Nat.beq_refl, Bool.not_true, Bool.or_false] at this
    exact Nat.eq_of_beq_eq_true this
theorem gs_rd {n : Nat} {ops : Array Oper} {o : Oper} {g : Option (Nat × Bool)} (h : gs n ops o = some g) : ∀ c t, g = some (c, t) → c ∈ rdM ops o := fun c t hg => by
  have := (gs_spec h).1
  unfold rdM rdOf
  rw [this, hg]
  simp

theorem put_ne {a : Act} {dst : Option Nat} {u : Value} {x : Nat} (h : dst ≠ some x) : (a.put dst u).tmps.getD x undef = a.tmps.getD x undef := by
  cases dst with
  | none => rfl
  | some d =>
    show (a.tmps.setIfInBounds d u).getD x undef = _
    have : d ≠ x := fun e => h (by rw [e])
    rw [Array.getD_eq_getD_getElem?, Array.getElem?_setIfInBounds, if_neg this, Array.getD_eq_getD_getElem?]
theorem put_eq {a : Act} {dst : Option Nat} {u : Value} {x : Nat} (h : dst = some x) (hx : x < a.tmps.size) : (a.put dst u).tmps.getD x undef = u := by
  subst h
  show (a.tmps.setIfInBounds x u).getD x undef = _
  rw [getD_put u hx, if_pos rfl]
theorem put_size {a : Act} {dst : Option Nat} {u : Value} : (a.put dst u).tmps.size = a.tmps.size := by
  cases dst with
  | none => rfl
  | some d => show (a.tmps.setIfInBounds d u).size = _; simp
theorem put_defers {a : Act} {dst : Option Nat} {u : Value} : (a.put dst u).defers = a.defers := by cases dst <;> rfl

/-! ### What is kept -/
section
variable (P : Program) (T : List (Nat × Entry σ)) (n : Nat) (ops : Array Oper) (nx : Bool)
/-- What is known of an operation that the machine has done, and the run has not. -/
def Cert (G : Hp) (Q : List Nat) (K : List (Chunk σ)) (s : Act) (i : Nat) (o : Oper) : Prop :=
  ∃ g, gs n ops o = some g ∧ (∀ x ∈ depsOf ops i, x ∉ Q) ∧ (¬ GV s.tmps g → ∀ d, o.dst = some d → s.tmps.getD d undef = undef) ∧
    (GV s.tmps g → ∃ Li Kz v p ps, qstep P T g Li Kz o = some (v, p, ps) ∧ (∀ q ∈ ps, q) ∧ Fr n Li Kz s ∧ (∀ e ∈ Li, e.s ∈ rdM ops o ∧ ∀ c t, e.g = some (c, t) → c ∈ rdM ops o) ∧
      (∀ d, o.dst = some d → s.tmps.getD d undef = v) ∧ (Pers D G Kz ∨ (Kz = K ∧ ∀ j ∈ Q, effAt ops j = true → i ∈ reached ops j) ∨ (SubK D G Kz K ∧ (∀ c, o.op ≠ .call c) ∧ nx = true ∧ ∀ j ∈ Q, storeAt ops j = true → i ∈ reached ops j)))
structure WInv (E : World) (G : Hp) (K0 : List (Chunk σ)) (listed : Array Bool) (Q : List Nat) (L : List Ent) (K : List (Chunk σ)) (s a : Act) (w : World) : Prop where
  lsz : listed.size = ops.size
  cl : Closed ops listed
  qn : ∀ j ∈ Q, j < ops.size ∧ listed.getD j true = false
  fr : Fr n L K s
  sat : SatK D E G w K
  ad : a.defers = []
  asz : a.tmps.size = n
  agr : ∀ x, (∀ (i : Nat) (o : Oper), ops[i]? = some o → o.dst = some x → listed.getD i true = true ∨ i ∈ Q) → a.tmps.getD x undef = s.tmps.getD x undef
  pend : ∀ (i : Nat) (o : Oper), ops[i]? = some o → listed.getD i true = false → i ∉ Q → Cert D P T n ops nx G Q K s i o
  kx : KExt K0 K
end
section
variable {P : Program} {T : List (Nat × Entry σ)} {n : Nat} {ops : Array Oper} {nx : Bool} {E : World} {G : Hp} {K0 : List (Chunk σ)} {listed : Array Bool} {Q : List Nat} {L : List Ent} {K : List (Chunk σ)} {s a : Act} {w : World}

theorem WInv.rd (hW : WideOk ops) (h : WInv D P T n ops nx E G K0 listed Q L K s a w) {i : Nat} {o : Oper} (hi : i ∈ Region.ready .any ops listed) (ho : ops[i]? = some o) : Agr (rdM ops o) s a := fun x hx =>
  (h.agr x fun j o' hj hd => .inl (by
    have h1 := ready_deps hi (hW.rd j i o' o x hj ho hd hx).1
    rw [getD_both (by rw [h.lsz]; exact lt_ops hj) true false]
    exact h1)).symm

/-- One is done late. -/
theorem WInv.late (hT : TableOk D P T) (hW : WideOk ops) (h : WInv D P T n ops nx E G K0 listed Q L K s a w) {i : Nat} {o : Oper} (hi : i ∈ Region.ready .any ops listed) (hq : i ∉ Q) (ho : ops[i]? = some o) :
    ∃ u, ((Region.wanted o (yielded ops a.tmps) = true ∧ o.quietAt P a (fun w' => SatK D E G w' K) w u) ∨ (Region.wanted o (yielded ops a.tmps) = false ∧ u = undef)) ∧
      ∀ w', SatK D E G w' K → WInv D P T n ops nx E G K0 (listed.setIfInBounds i true) Q L K s (a.put o.dst u) w' := by
  obtain ⟨r1, r2, r3⟩ := ready_mem.1 hi
  obtain ⟨g, hgs, hdq, hno, hyes⟩ := h.pend i o ho r2 hq
  have hA := h.rd D hW hi ho
  have hGV : GV s.tmps g ↔ GV a.tmps g := hA.gv (gs_rd hgs)
  have hil : i < listed.size := by rw [h.lsz]; exact r1
  have key : ∀ u, (∀ d, o.dst = some d → s.tmps.getD d undef = u) → ∀ w', SatK D E G w' K → WInv D P T n ops nx E G K0 (listed.setIfInBounds i true) Q L K s (a.put o.dst u) w' := fun u hu w' hS' => by
    refine ⟨by simpa using h.lsz, h.cl.set hi h.lsz, fun j hj => ?_, h.fr, hS', by rw [put_defers]; exact h.ad, by rw [put_size]; exact h.asz, fun x hx => ?_, fun j o' hj hl hjq => ?_, h.kx⟩
    · have := h.qn j hj
      refine ⟨this.1, ?_⟩
      rw [set_listed hil, if_neg (fun e => by subst e; exact hq hj)]
      exact this.2
    · by_cases hd : o.dst = some x
      · rw [put_eq hd (by rw [h.asz]; exact (gs_spec hgs).2.1 x hd)]
        exact (hu x hd).symm
      · rw [put_ne hd]
        refine h.agr x fun j o' hj hd' => ?_
        have := hx j o' hj hd'
        rw [set_listed hil] at this
        by_cases hji : j = i
        · subst hji
          rw [ho] at hj; injection hj with hj; subst hj
          exact absurd hd' hd
        · rwa [if_neg hji] at this
    · rw [set_listed hil] at hl
      by_cases hji : j = i
      · rw [if_pos hji] at hl; cases hl
      · rw [if_neg hji] at hl
        exact h.pend j o' hj hl hjq
  by_cases hg : GV s.tmps g
  · obtain ⟨Li, Kz, v, p, ps, hst, hps, hF, hL, hv, hp⟩ := hyes hg
    have hFa : Fr n Li Kz a := hF.agr hL hA h.ad h.asz
    refine ⟨v, .inl ⟨(wanted_iff (gs_spec hgs).1).2 (hGV.1 hg), ?_⟩, key v hv⟩
    rcases hp with hp | ⟨rfl, _⟩ | ⟨hs, hnc, _, _⟩
    · have hS' := hp.sat D (w := w) (SatK.G D h.sat)
      exact quietAt_mono ((qstep_sound D hT hFa (hGV.1 hg) hst hps hS').1 w hS').1 fun w' hw' => Sat.keeps h.sat hw'
    · exact ((qstep_sound D hT hFa (hGV.1 hg) hst hps h.sat).1 w h.sat).1
    · have hS' := SatK.subK D h.sat hs
      exact q_of_run (((qstep_sound D hT hFa (hGV.1 hg) hst hps hS').1 w hS').2 hnc)
  · refine ⟨undef, .inr ⟨?_, rfl⟩, key undef (hno hg)⟩
    cases hw : Region.wanted o (yielded ops a.tmps) with
    | false => rfl
    | true => exact absurd (hGV.2 ((wanted_iff (gs_spec hgs).1).1 hw)) hg

/-- What is known of one stays so where another one, not done by then, writes its slot. -/
theorem Cert.put (hW : WideOk ops) {K' : List (Chunk σ)} {i j : Nat} {o o' : Oper} {u : Value} (h : Cert D P T n ops nx G Q K s i o') (ho : ops[j]? = some o) (ho' : ops[i]? = some o') (hij : i ≠ j) (hq : j ∈ Q)
    (hK : K' = K ∨ (effAt ops j = true ∧ i ∉ reached ops j ∧ (storeAt ops j = false → nx = true → CKeep K K'))) : Cert D P T n ops nx G (rmv j Q) K' (s.put o.dst u) i o' := by
  obtain ⟨g, hgs, hdq, hno, hyes⟩ := h
  have hA : Agr (rdM ops o') s (s.put o.dst u) := fun x hx => by
    rw [put_ne]
    intro hd
    exact hdq j (hW.rd j i o o' x ho ho' hd hx).1 hq
  have hdst : ∀ d, o'.dst = some d → (s.put o.dst u).tmps.getD d undef = s.tmps.getD d undef := fun d hd => by
    rw [put_ne]
    intro hd'
    exact hij (hW.ds i j o' o d ho' ho hd hd')
  refine ⟨g, hgs, fun x hx hm => hdq x hx (rmv_mem.1 hm).1, fun hg d hd => ?_, fun hg => ?_⟩
  · rw [hdst d hd]
    exact hno (fun hg' => hg ((hA.gv (gs_rd hgs)).1 hg')) d hd
  · obtain ⟨Li, Kz, v, p, ps, hst, hps, hF, hL, hv, hp⟩ := hyes ((hA.gv (gs_rd hgs)).2 hg)
    refine ⟨Li, Kz, v, p, ps, hst, hps, hF.agr hL hA (by rw [put_defers]; exact hF.defers) (by rw [put_size]; exact hF.size), hL, fun d hd => by rw [hdst d hd]; exact hv d hd, ?_⟩
    rcases hp with hp | ⟨rfl, hr⟩ | ⟨hs, hnc, hnx, hr⟩
    · exact .inl hp
    · rcases hK with rfl | ⟨he, hn, _⟩
      · exact .inr (.inl ⟨rfl, fun j' hj' e => hr j' (rmv_mem.1 hj').1 e⟩)
      · exact absurd (hr j hq he) hn
    · refine .inr (.inr ⟨?_, hnc, hnx, fun j' hj' e => hr j' (rmv_mem.1 hj').1 e⟩)
      rcases hK with rfl | ⟨_, hn, hck⟩
      · exact hs
      · cases hst : storeAt ops j with
        | true => exact absurd (hr j hq hst) hn
        | false => exact hs.keep D (hck hst hnx)

/-- One is done where it stands. -/
theorem WInv.now (hW : WideOk ops) (h : WInv D P T n ops nx E G K0 listed Q L K s a w) {j : Nat} {o : Oper} (hj : j ∈ Region.ready .any ops listed) (hq : j ∈ Q) (ho : ops[j]? = some o) {L' : List Ent} {K' : List (Chunk σ)} {u : Value} {w' : World}
    (hd : ∀ d, o.dst = some d → d < n) (hF : Fr n L' K' (s.put o.dst u)) (hS : SatK D E G w' K') (hx : KExt K K') (hK : K' = K ∨ (effAt ops j = true ∧ (storeAt ops j = false → nx = true → CKeep K K'))) :
    WInv D P T n ops nx E G K0 (listed.setIfInBounds j true) (rmv j Q) L' K' (s.put o.dst u) (a.put o.dst u) w' := by
  obtain ⟨r1, r2, r3⟩ := ready_mem.1 hj
  have hil : j < listed.size := by rw [h.lsz]; exact r1
  refine ⟨by simpa using h.lsz, h.cl.set hj h.lsz, fun i hi => ?_, hF, hS, by rw [put_defers]; exact h.ad, by rw [put_size]; exact h.asz, fun x hx' => ?_, fun i o' hi hl hiq => ?_, h.kx.trans hx⟩
  · obtain ⟨h1, h2⟩ := rmv_mem.1 hi
    have := h.qn i h1
    refine ⟨this.1, ?_⟩
    rw [set_listed hil, if_neg h2]
    exact this.2
  · by_cases hdx : o.dst = some x
    · rw [put_eq hdx (by rw [h.asz]; exact hd x hdx), put_eq hdx (by rw [h.fr.size]; exact hd x hdx)]
    · rw [put_ne hdx, put_ne hdx]
      refine h.agr x fun i o' hi hd' => ?_
      have := hx' i o' hi hd'
      rw [set_listed hil] at this
      by_cases hji : i = j
      · subst hji
        rw [ho] at hi; injection hi with hi; subst hi
        exact absurd hd' hdx
      · rw [if_neg hji] at this
        exact this.imp id fun hm => (rmv_mem.1 hm).1
  · rw [set_listed hil] at hl
    by_cases hji : i = j
    · rw [if_pos hji] at hl; cases hl
    · rw [if_neg hji] at hl
      have hiq' : i ∉ Q := fun hm => hiq (rmv_mem.2 ⟨hm, hji⟩)
      refine (h.pend i o' hi hl hiq').put D hW ho hi hji hq (hK.imp id fun e => ⟨e.1, fun hr => ?_, e.2⟩)
      have := sweep_listed h.cl j (depsOf ops j) (fun x hx => ready_deps hj hx) i hr
      rw [getD_both (by rw [h.lsz]; exact lt_ops hi) true false, this] at hl
      cases hl

/-- One is done early by the machine. -/
theorem WInv.early (hW : WideOk ops) (h : WInv D P T n ops nx E G K0 listed Q L K s a w) {i : Nat} {o : Oper} (hq : i ∈ Q) (ho : ops[i]? = some o) {L' : List Ent} {u : Value}
    (hF : Fr n L' K (s.put o.dst u)) (hc : Cert D P T n ops nx G (rmv i Q) K (s.put o.dst u) i o) : WInv D P T n ops nx E G K0 listed (rmv i Q) L' K (s.put o.dst u) a w := by
  refine ⟨h.lsz, h.cl, fun j hj => h.qn j (rmv_mem.1 hj).1, hF, h.sat, h.ad, h.asz, fun x hx => ?_, fun j o' hj hl hjq => ?_, h.kx⟩
  · have hdx : o.dst ≠ some x := fun hd => by
      rcases hx i o ho hd with h1 | h1
      · rw [(h.qn i hq).2] at h1; cases h1
      · exact (rmv_mem.1 h1).2 rfl
    rw [put_ne hdx]
    exact h.agr x fun j o' hj hd' => (hx j o' hj hd').imp id fun hm => (rmv_mem.1 hm).1
  · by_cases hji : j = i
    · subst hji
      rw [ho] at hj; injection hj with hj; subst hj
      exact hc
    · exact (h.pend j o' hj hl fun hm => hjq (rmv_mem.2 ⟨hm, hji⟩)).put D hW ho hj hji hq (.inl rfl)

theorem firstF_spec : ∀ {l : List Nat} {i : Nat} {x : Oper × Option (Nat × Bool) × Value × Pr × List Prop}, firstF P T n ops nx Q L K l = some (i, x) → i ∈ l ∧ tryF P T n ops nx Q L K i = some x
  | [], i, x, h => by simp [firstF] at h
  | j :: r, i, x, h => by
    simp only [firstF] at h
    split at h
    · rename_i y hy
      simp only [Option.some.injEq, Prod.mk.injEq] at h
      obtain ⟨rfl, rfl⟩ := h
      exact ⟨by simp, hy⟩
    · have := firstF_spec h
      exact ⟨by simp [this.1], this.2⟩

theorem WInv.try (hT : TableOk D P T) (hW : WideOk ops) (h : WInv D P T n ops nx E G K0 listed Q L K s a w) {i : Nat} {o : Oper} {g : Option (Nat × Bool)} {v : Value} {p : Pr} {ps : List Prop} (hq : i ∈ Q) (ht : tryF P T n ops nx Q L K i = some (o, g, v, p, ps)) (hps : ∀ q ∈ ps, q) :
    ∃ u, WInv D P T n ops nx E G K0 listed (rmv i Q) (fixMark n o L (addEnt o.dst g v p L)) K (s.put o.dst u) a w := by
  unfold tryF at ht
  split at ht
  · cases ht
  · rename_i o1 ho
    cases hd : (depsOf ops i).any (fun x => hasN x Q) with
    | true => rw [hd] at ht; cases ht
    | false =>
      rw [hd] at ht
      simp only [cond_false] at ht
      have hdq : ∀ x ∈ depsOf ops i, x ∉ Q := fun x hx hm => by
        have : (depsOf ops i).any (fun x => hasN x Q) = true := List.any_eq_true.2 ⟨x, hx, hasN_iff.2 hm⟩
        rw [hd] at this; cases this
      split at ht
      · cases ht
      · rename_i g1 hgs
        obtain ⟨q1, q2, q3⟩ := gs_spec hgs
        have hnd : ∀ (u : Value), Agr (rdM ops o1) s (s.put o1.dst u) := fun u x hx => by
          rw [put_ne]
          intro hd'
          exact (hW.rd i i o1 o1 x ho ho hd' hx).2 rfl
        cases hsk : skipB g1 L with
        | true =>
          rw [hsk] at ht
          simp only [cond_true, Option.some.injEq, Prod.mk.injEq] at ht
          obtain ⟨rfl, rfl, rfl, rfl, rfl⟩ := ht
          have hng : ¬ GV s.tmps g1 := by
            unfold skipB at hsk
            split at hsk
            · rename_i c b
              split at hsk
              · rename_i s0 t pe hl
                simp only [Bool.and_eq_true, beq_iff_eq] at hsk
                obtain ⟨hm, hs⟩ := look_mem hl
                have := (h.fr.ents _ hm trivial).1
                simp only at hs
                subst hs
                simp only at this
                intro hg
                simp only [GV] at hg
                rw [hg] at this
                injection this with this
                rw [hsk.2] at this
                cases b <;> cases this
              · cases hsk
            · cases hsk
          have hngu : ∀ u, ¬ GV (s.put o1.dst u).tmps g1 := fun u hg => hng (((hnd u).gv (gs_rd hgs)).2 hg)
          refine ⟨undef, h.early D hW hq ho ((h.fr.put q2 (fun _ _ _ _ e => by cases e) fun _ => ⟨rfl, pOk_no⟩).fixMark o1 L) ⟨g1, hgs, fun x hx hm => hdq x hx (rmv_mem.1 hm).1, fun _ d hd' => put_eq hd' (by rw [h.fr.size]; exact q2 d hd'), fun hg => absurd hg (hngu _)⟩⟩
        | false =>
          rw [hsk] at ht
          simp only [cond_false] at ht
          cases heb : effB o1 with
          | true => rw [heb] at ht; cases ht
          | false =>
            rw [heb] at ht
            simp only [cond_false] at ht
            -- what both ways have in common
            have fin : ∀ (Kz : List (Chunk σ)) (v : Value) (p : Pr) (ps : List Prop), KExt K Kz → KOk Kz → qstep P T g1 (keepR (rdM ops o1) L) Kz o1 = some (v, p, ps) → qstep P T g1 (keepR (rdM ops o1) L) K o1 = some (v, p, ps) → (∀ q ∈ ps, q) →
                (Pers D G Kz ∨ (Kz = K ∧ ∀ j ∈ rmv i Q, effAt ops j = true → i ∈ reached ops j) ∨ (SubK D G Kz K ∧ (∀ c, o1.op ≠ .call c) ∧ nx = true ∧ ∀ j ∈ rmv i Q, storeAt ops j = true → i ∈ reached ops j)) → ∃ u, WInv D P T n ops nx E G K0 listed (rmv i Q) (fixMark n o1 L (addEnt o1.dst g1 v p L)) K (s.put o1.dst u) a w := fun Kz v p ps hx hk hz hK hps hp => by
              have hFk : Fr n (keepR (rdM ops o1) L) K s := h.fr.sub fun e he => (keepR_mem he).1
              by_cases hg : GV s.tmps g1
              · have hpk := (qstep_sound D hT hFk hg hK hps h.sat).2
                refine ⟨v, h.early D hW hq ho ((h.fr.put q2 q3 (fun _ => ⟨rfl, hpk⟩) fun hn => absurd hg hn).fixMark o1 L) ⟨g1, hgs, fun x hx hm => hdq x hx (rmv_mem.1 hm).1, fun hn => absurd (((hnd v).gv (gs_rd hgs)).1 hg) hn, fun _ => ?_⟩⟩
                exact ⟨keepR (rdM ops o1) L, Kz, v, p, ps, hz, hps, keepR_fr (h.fr.ext hx hk) (hnd v) (by rw [put_defers]; exact h.fr.defers) (by rw [put_size]; exact h.fr.size), fun e he => (keepR_mem he).2, fun d hd' => put_eq hd' (by rw [h.fr.size]; exact q2 d hd'), hp⟩
              · refine ⟨undef, h.early D hW hq ho ((h.fr.put q2 q3 (fun hg' => absurd hg' hg) fun _ => rfl).fixMark o1 L) ⟨g1, hgs, fun x hx hm => hdq x hx (rmv_mem.1 hm).1, fun _ d hd' => put_eq hd' (by rw [h.fr.size]; exact q2 d hd'), fun hg' => absurd (((hnd undef).gv (gs_rd hgs)).2 hg') hg⟩⟩
            split at ht
            · rename_i v1 p1 ps1 hz
              simp only [Option.some.injEq, Prod.mk.injEq] at ht
              obtain ⟨rfl, rfl, rfl, rfl, rfl⟩ := ht
              exact fin (frz K) _ _ _ (frz_ext K) (frz_kok K) hz (qstep_dead (frz_or K) (findRo_frz · K 0) (effB_call heb) hz) hps (.inl (SatK.pers D h.sat))
            · cases hall : Q.all (fun j => !(effAt ops j) || hasN i (reached ops j)) with
              | false =>
                rw [hall] at ht
                simp only [cond_false] at ht
                cases hns : (nx && Q.all (fun j => !(storeAt ops j) || hasN i (reached ops j))) with
                | false => rw [hns] at ht; cases ht
                | true =>
                  rw [hns] at ht
                  simp only [cond_true] at ht
                  simp only [Bool.and_eq_true] at hns
                  split at ht
                  · rename_i v1 p1 ps1 hz
                    simp only [Option.some.injEq, Prod.mk.injEq] at ht
                    obtain ⟨rfl, rfl, rfl, rfl, rfl⟩ := ht
                    refine fin (frs K) _ _ _ (frs_ext K) (frs_kok h.fr.kok) hz (qstep_dead (frs_or K) (frs_ro K) (effB_call heb) hz) hps (.inr (.inr ⟨SatK.frs D h.sat, effB_call heb, hns.1, fun j hj he => ?_⟩))
                    have := (List.all_eq_true.1 hns.2) j (rmv_mem.1 hj).1
                    rw [he] at this
                    simp only [Bool.not_true, Bool.false_or] at this
                    exact hasN_iff.1 this
                  · cases ht
              | true =>
                rw [hall] at ht
                simp only [cond_true] at ht
                split at ht
                · rename_i v1 p1 ps1 hz
                  simp only [Option.some.injEq, Prod.mk.injEq] at ht
                  obtain ⟨rfl, rfl, rfl, rfl, rfl⟩ := ht
                  refine fin K _ _ _ (KExt.refl K) h.fr.kok hz hz hps (.inr (.inl ⟨rfl, fun j hj he => ?_⟩))
                  have := (List.all_eq_true.1 hall) j (rmv_mem.1 hj).1
                  rw [he] at this
                  simp only [Bool.not_true, Bool.false_or] at this
                  exact hasN_iff.1 this
                · cases ht

theorem twos_holds {R' : Value → Pr → List (Chunk σ) → Prop} {S' : List Ab → List Ent → List (Chunk σ) → Prop} {z : Tree σ} : ∀ {l : List (Tree σ)}, (twos z l).holds R' S' → (∀ t ∈ l, t.holds R' S') ∧ (l = [] → z.holds R' S')
  | [], h => ⟨by simp, fun _ => h⟩
  | [t], h => ⟨fun x hx => by rw [List.mem_singleton.1 hx]; exact h, by simp⟩
  | t :: t' :: r, h => by
    obtain ⟨h1, h2⟩ := h
    have := twos_holds (l := t' :: r) h2
    refine ⟨fun x hx => ?_, by simp⟩
    rcases List.mem_cons.1 hx with rfl | hx
    · exact h1
    · exact this.1 x hx

/-- How many are not listed. -/
def unl (listed : Array Bool) : Nat → Nat
  | 0 => 0
  | k + 1 => (if listed.getD k true = true then 0 else 1) + unl listed k
theorem unl_set_ge {i : Nat} (hi : i < listed.size) : ∀ k, k ≤ i → unl (listed.setIfInBounds i true) k = unl listed k
  | 0, _ => rfl
  | k + 1, hk => by
    have e : (listed.setIfInBounds i true).getD k true = listed.getD k true := by rw [set_listed hi, if_neg (by omega)]
    simp only [unl]
    rw [e, unl_set_ge hi k (by omega)]
theorem unl_set {i : Nat} (hi : i < listed.size) (hl : listed.getD i true = false) : ∀ k, i < k → unl (listed.setIfInBounds i true) k + 1 = unl listed k
  | 0, h => by omega
  | k + 1, h => by
    by_cases hk : k = i
    · subst hk
      have e : (listed.setIfInBounds k true).getD k true = true := by rw [set_listed hi, if_pos rfl]
      simp only [unl]
      rw [e, unl_set_ge hi k (Nat.le_refl _), hl]
      simp
      omega
    · have e : (listed.setIfInBounds i true).getD k true = listed.getD k true := by rw [set_listed hi, if_neg hk]
      simp only [unl]
      rw [e]
      have := unl_set hi hl k (by omega)
      omega
theorem unl_le : ∀ k, unl listed k ≤ k
  | 0 => Nat.le_refl _
  | k + 1 => by
    simp only [unl]
    have := unl_le k
    split <;> omega
theorem unl_zero : ∀ k, unl listed k = 0 → ∀ i, i < k → listed.getD i true = true
  | 0, _, i, h => by omega
  | k + 1, h, i, hi => by
    simp only [unl] at h
    by_cases hk : i = k
    · subst hk
      cases hl : listed.getD i true with
      | true => rfl
      | false => rw [hl] at h; simp at h
    · exact unl_zero k (by omega) i (by omega)

theorem WInv.start (hF : Fr n L K a) (hS : SatK D E G w K) : WInv D P T n ops nx E G K (Array.replicate ops.size false) (List.range ops.size) L K a a w := by
  have hl : ∀ i, (Array.replicate ops.size false).getD i false = false := fun i => by
    rw [Array.getD_eq_getD_getElem?, Array.getElem?_replicate]
    split <;> rfl
  refine ⟨by simp, fun i hi => ?_, fun j hj => ⟨List.mem_range.1 hj, ?_⟩, hF, hS, hF.defers, hF.size, fun _ _ => rfl, fun i o ho _ hn => absurd (List.mem_range.2 (lt_ops ho)) hn, KExt.refl K⟩
  · rw [hl] at hi; cases hi
  · rw [getD_both (by simpa using List.mem_range.1 hj) true false, hl]

section
variable {f : FuncId} {R : Ending → World → Prop} {td : List Item} {R' : Value → Pr → List (Chunk σ) → Prop} {S' : List Ab → List Ent → List (Chunk σ) → Prop} {ext : Nat → List (Value × Pr) → List (Chunk σ) → Option (Tree σ)}
  {st : List Nat → List Ent → List (Chunk σ) → Tree σ} {kont : List Ent → List (Chunk σ) → Tree σ}

/-- The machine is brought to where nothing can be done early. -/
theorem wide_norm (hT : TableOk D P T) (hW : WideOk ops) (hst : ∀ Q L K, ¬ (st Q L K).holds R' S') : ∀ (m : Nat) (Q : List Nat) (L : List Ent) (s : Act), WInv D P T n ops nx E G K0 listed Q L K s a w → (wide P T ext n ops nx st kont m Q L K).holds R' S' →
    ∃ m' Q' L' s', WInv D P T n ops nx E G K0 listed Q' L' K s' a w ∧ (wide P T ext n ops nx st kont (m' + 1) Q' L' K).holds R' S' ∧ ((Q' = [] ∧ (kont L' K).holds R' S') ∨ (Q' ≠ [] ∧ ∀ j ∈ readyQ ops Q', (wEff P T ext n ops (st Q' L' K) (wide P T ext n ops nx st kont m') Q' L' K j).holds R' S'))
  | 0, Q, L, s, hI, h => absurd h (hst Q L K)
  | m + 1, Q, L, s, hI, h => by
    have h0 := h
    simp only [wide] at h
    split at h
    · exact ⟨m, [], L, s, hI, h0, .inl ⟨rfl, h⟩⟩
    · split at h
      · rename_i q0 qr _ i o g v p ps hf
        obtain ⟨hps, ht⟩ := needs_holds h
        obtain ⟨h1, h2⟩ := firstF_spec hf
        obtain ⟨u, hI'⟩ := hI.try D hT hW h1 h2 hps
        exact wide_norm hT hW hst m _ _ _ hI' ht
      · rename_i q0 qr _ hf
        refine ⟨m, _, L, s, hI, h0, .inr ⟨by simp, fun j hj => (twos_holds h).1 _ (List.mem_map.2 ⟨j, hj, rfl⟩)⟩⟩

theorem wide_sound (hT : TableOk D P T) (hW : WideOk ops) (hnx : nx = true → ∀ g a K, ext g a K = none)
    (hext : ∀ g args prs K t, ext g (List.zip args prs) K = some t → ∀ E G w, psOk K args prs → KOk K → SatK D E G w K → ∀ Q : Value → Pr → List (Chunk σ) → Prop, t.holds Q (fun _ _ _ => False) → Calls P g args.toArray w fun en w' => ∃ v p K', en = .returned v ∧ Q v p K' ∧ KExt K K' ∧ KOk K' ∧ pOk K' v p ∧ SatK D E G w' K')
    (hst : ∀ Q L K, ¬ (st Q L K).holds R' S') (hk : ∀ L K, KExt K0 K → (kont L K).holds R' S' → ∀ a w, Fr n L K a → SatK D E G w K → WT P f R (.inRegion ops [] :: td) a w) :
    ∀ (fuel t : Nat) (listed : Array Bool) (m : Nat) (Q : List Nat) (L : List Ent) (K : List (Chunk σ)) (s a : Act) (w : World), unl listed ops.size ≤ fuel → WInv D P T n ops nx E G K0 listed Q L K s a w → (wide P T ext n ops nx st kont m Q L K).holds R' S' →
      WT P f R (.inRegion ops (Region.linearise.go .any ops fuel t listed []) :: td) a w := by
  -- all are listed
  have fin : ∀ (listed : Array Bool) (m : Nat) (Q : List Nat) (L : List Ent) (K : List (Chunk σ)) (s a : Act) (w : World), (∀ i, i < ops.size → listed.getD i true = true) → WInv D P T n ops nx E G K0 listed Q L K s a w → (wide P T ext n ops nx st kont m Q L K).holds R' S' →
      WT P f R (.inRegion ops [] :: td) a w := fun listed m Q L K s a w hall hI h => by
    obtain ⟨m', Q', L', s', hI', hh, hc⟩ := wide_norm D hT hW hst m Q L s hI h
    have hQ : Q' = [] := by
      cases Q' with
      | nil => rfl
      | cons j r =>
        have := hI'.qn j (by simp)
        rw [hall j this.1] at this
        cases this.2
    rcases hc with ⟨_, hko⟩ | ⟨hne, _⟩
    · have hA : Agr (L'.map (·.s) ++ L'.filterMap (fun e => e.g.map (·.1))) s' a := fun x _ => (hI'.agr x fun i o ho _ => .inl (hall i (lt_ops ho))).symm
      refine hk L' K hI'.kx hko a w (hI'.fr.agr (fun e he => ⟨?_, fun c t hg => ?_⟩) hA hI'.ad hI'.asz) hI'.sat
      · exact List.mem_append_left _ (List.mem_map.2 ⟨e, he, rfl⟩)
      · exact List.mem_append_right _ (List.mem_filterMap.2 ⟨e, he, by rw [hg]; rfl⟩)
    · exact absurd hQ hne
  intro fuel
  induction fuel with
  | zero =>
    intro t listed m Q L K s a w hu hI h
    exact fin listed m Q L K s a w (unl_zero ops.size (by omega)) hI h
  | succ fuel ih =>
    intro t listed m Q L K s a w hu hI h
    simp only [Region.linearise.go]
    change WT P f R (.inRegion ops (match (Region.ready .any ops listed)[t % (Region.ready .any ops listed).length]? with
      | some i => Region.linearise.go .any ops fuel (t / (Region.ready .any ops listed).length) (listed.setIfInBounds i true) [i]
      | none => [].reverse) :: td) a w
    cases hi : (Region.ready .any ops listed)[t % (Region.ready .any ops listed).length]? with
    | none =>
      have hnil : Region.ready .any ops listed = [] := by
        cases hr : Region.ready .any ops listed with
        | nil => rfl
        | cons x xs =>
          rw [hr] at hi
          have hlt : t % (x :: xs).length < (x :: xs).length := Nat.mod_lt _ (by simp)
          rw [List.getElem?_eq_getElem hlt] at hi; cases hi
      exact fin listed m Q L K s a w (ready_nil hW.dep hI.lsz hnil) hI h
    | some i =>
      have him := List.mem_of_getElem? hi
      dsimp only
      rw [linearise_go_acc, List.reverse_singleton, List.singleton_append]
      obtain ⟨r1, r2, r3⟩ := ready_mem.1 him
      have ho : ops[i]? = some ops[i] := Array.getElem?_eq_getElem r1
      generalize ops[i] = o at ho
      have hu' : unl (listed.setIfInBounds i true) ops.size ≤ fuel := by
        have := unl_set (listed := listed) (by rw [hI.lsz]; exact r1) r2 ops.size r1
        omega
      obtain ⟨m', Q', L', s', hI', hh, hc⟩ := wide_norm D hT hW hst m Q L s hI h
      by_cases hq : i ∈ Q'
      · rcases hc with ⟨hQ, _⟩ | ⟨_, hall⟩
        · rw [hQ] at hq; cases hq
        · have hrq : i ∈ readyQ ops Q' := by
            unfold readyQ
            rw [List.mem_filter]
            refine ⟨hq, ?_⟩
            cases hb : (depsOf ops i).any (fun x => hasN x Q') with
            | false => rfl
            | true =>
              exfalso
              rw [List.any_eq_true] at hb
              obtain ⟨x, hx, hxq⟩ := hb
              have h1 := ready_deps him hx
              have h2 := hI'.qn x (hasN_iff.1 hxq)
              rw [getD_both (by rw [hI.lsz]; exact h2.1) true false, h1] at h2
              cases h2.2
          have hE := hall i hrq
          have hA := hI'.rd D hW him ho
          unfold wEff at hE
          rw [ho] at hE
          simp only at hE
          split at hE
          · exact absurd hE (hst _ _ _)
          · rename_i g hgs
            obtain ⟨g1, g2, g3⟩ := gs_spec hgs
            have hGV : GV s'.tmps g ↔ GV a.tmps g := hA.gv (gs_rd hgs)
            split at hE
            · -- quiet
              split at hE
              · rename_i v p ps hqs
                obtain ⟨hps, ht⟩ := needs_holds hE
                have hFa : Fr n (keepR (rdM ops o) L') K a := keepR_fr hI'.fr hA hI'.ad hI'.asz
                have hFs : Fr n (keepR (rdM ops o) L') K s' := hI'.fr.sub fun e he => (keepR_mem he).1
                by_cases hg : GV s'.tmps g
                · have hwt : Region.wanted o (yielded ops a.tmps) = true := (wanted_iff g1).2 (hGV.1 hg)
                  obtain ⟨hqq, hpk⟩ := qstep_sound D hT hFa (hGV.1 hg) hqs hps hI'.sat
                  refine WT.op ho hwt (hqq w hI'.sat).1 hI'.sat fun w' hS' => ih _ _ m' _ _ K _ _ w' hu' (hI'.now D hW him hq ho g2 ((hI'.fr.put g2 g3 (fun _ => ⟨rfl, hpk⟩) fun hn => absurd hg hn).fixMark o L') hS' (KExt.refl K) (.inl rfl)) ht
                · have hwf : Region.wanted o (yielded ops a.tmps) = false := by
                    cases hw : Region.wanted o (yielded ops a.tmps) with
                    | false => rfl
                    | true => exact absurd (hGV.2 ((wanted_iff g1).1 hw)) hg
                  exact WT.op_skip ho hwf (ih _ _ m' _ _ K _ _ w hu' (hI'.now D hW him hq ho g2 ((hI'.fr.put g2 g3 (fun hg' => absurd hg' hg) fun _ => rfl).fixMark o L') hI'.sat (KExt.refl K) (.inl rfl)) ht)
              · exact absurd hE (hst _ _ _)
            · -- what writes, or calls
              rename_i heb
              have hea : effAt ops i = true := by unfold effAt; rw [ho]; exact heb
              -- a step of the machine's, at this list of entries
              have stp : ∀ (L1 : List Ent) (tr : Tree σ), Fr n L1 K s' → Region.wanted o (yielded ops a.tmps) = true → estep P T ext (keepR (rdM ops o) L1) K o (fun v pr K' => wide P T ext n ops nx st kont m' (rmv i Q') (unmark o (addEnt o.dst none v pr L1)) K') = some tr → tr.holds R' S' →
                  WT P f R (.inRegion ops (i :: Region.linearise.go .any ops fuel (t / (Region.ready .any ops listed).length) (listed.setIfInBounds i true) []) :: td) a w := fun L1 tr hF1 hwt he htr => by
                refine estep_sound D hT hext ho hwt g2 (keepR_fr hF1 hA hI'.ad hI'.asz) hI'.sat he htr fun v pr K' hK' hx hck a' w' ⟨u, ha'⟩ hF' hS' => ?_
                subst ha'
                refine ih _ _ m' _ _ K' _ _ w' hu' (hI'.now D hW him hq ho g2 (L' := unmark o (addEnt o.dst none v pr L1)) (u := u) (Fr.unmark ?_ o) hS' hx (.inr ⟨hea, fun hns hn => hck ⟨fun t' x' y' hop => (by unfold storeAt at hns; rw [ho] at hns; simp only [hop] at hns; cases hns), hnx hn⟩⟩)) hK'
                have hk' : KOk K' := hF'.kok
                cases hdst : o.dst with
                | none =>
                  exact hF1.ext hx hk'
                | some d =>
                  rw [hdst] at hF'
                  have he' := hF'.ents ⟨d, none, v, pr⟩ (by simp [addEnt]) trivial
                  simp only at he'
                  rw [put_eq rfl (by rw [hI'.asz]; exact g2 d hdst)] at he'
                  exact (hF1.ext hx hk').put (fun d' hd' => by injection hd' with hd'; subst hd'; exact g2 d hdst) (fun _ _ _ _ e => by cases e) fun _ => he'
              split at hE
              · split at hE
                · rename_i tr he
                  exact stp L' tr hI'.fr ((wanted_iff g1).2 trivial) he hE
                · exact absurd hE (hst _ _ _)
              · rename_i c b
                split at hE
                · rename_i s0 t0 pe hl
                  cases hnb : Nat.ble n 1000000 with
                  | false => rw [hnb] at hE; exact absurd hE (hst _ _ _)
                  | true =>
                    rw [hnb] at hE
                    simp only [cond_true] at hE
                    have hnn := Nat.le_of_ble_eq_true hnb
                    obtain ⟨hAy, hSk⟩ := guardTree_holds hE
                    obtain ⟨hm, hs⟩ := look_mem hl
                    have ht := (hI'.fr.ents _ hm trivial).1
                    simp only at hs
                    subst hs
                    simp only at ht
                    by_cases htb : t0 = b
                    · subst htb
                      have hAy := hAy rfl
                      split at hAy
                      · rename_i A he
                        exact stp _ A (hI'.fr.known hnn ht) ((wanted_iff g1).2 (hGV.1 ht)) he hAy
                      · exact absurd hAy (hst _ _ _)
                    · have htn : t0 = !b := by cases t0 <;> cases b <;> simp at htb ⊢
                      have hng : ¬ GV s'.tmps (some (s0, b)) := fun hg => by
                        simp only [GV] at hg
                        rw [ht] at hg
                        injection hg with hg
                        exact htb hg
                      have hwf : Region.wanted o (yielded ops a.tmps) = false := by
                        cases hw : Region.wanted o (yielded ops a.tmps) with
                        | false => rfl
                        | true => exact absurd (hGV.2 ((wanted_iff g1).1 hw)) hng
                      rw [htn] at ht
                      exact WT.op_skip ho hwf (ih _ _ m' _ _ K _ _ w hu' (hI'.now D hW him hq ho g2 ((hI'.fr.known hnn ht).put g2 (fun _ _ _ _ e => by cases e) fun _ => ⟨rfl, pOk_no⟩) hI'.sat (KExt.refl K) (.inl rfl)) (hSk htn))
                · exact absurd hE (hst _ _ _)
      · obtain ⟨u, hu2, hnext⟩ := hI'.late D hT hW him hq ho
        rcases hu2 with ⟨hwt, hqa⟩ | ⟨hwf, rfl⟩
        · exact WT.op ho hwt hqa hI'.sat fun w' hS' => ih _ _ (m' + 1) Q' L' K s' _ w' hu' (hnext w' hS') hh
        · exact WT.op_skip ho hwf (ih _ _ (m' + 1) Q' L' K s' _ w hu' (hnext w hI'.sat) hh)
end
end
end Go.Sl

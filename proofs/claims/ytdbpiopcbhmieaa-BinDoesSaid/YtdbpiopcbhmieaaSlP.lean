/-
  DERIVED. An object is opened, in the midst of a function: its chunks stand in its place. No program is named.
-/
import Derived.Test.YtdbpiopcbhmieaaSlO
namespace Go.Sl
open Go.RowKit

theorem Sat.openAt {E : World} {G : Hp} {w : World} {As : List Asn} {k : Nat} {α : Type} {p : α → Prop} {A0 : α → Asn} {Bs : α → List Asn} (h : Sat E G w As) (hk : As[k]? = some (fun h => ∃ x, p x ∧ Sl.star (A0 x :: Bs x) h)) :
    ∃ x, p x ∧ Sat E G w (As.set k (A0 x) ++ Bs x) := by
  obtain ⟨h1, h2, o, h3, h4⟩ := h
  obtain ⟨x, hp, o2, h5⟩ := h4 k _ hk
  have hkl : k < As.length := lt_of_get hk
  let o' : Nat → Option Nat := fun b => match o b with
    | some i => if i = k then (match o2 b with | some 0 => some k | some (j + 1) => some (As.length + j) | none => none) else if i < As.length then some i else none
    | none => none
  refine ⟨x, hp, h1, h2, o', fun b i hb => ?_, fun i A hi => ?_⟩
  · simp only [o'] at hb
    cases ho : o b with
    | none => simp [ho] at hb
    | some j => exact h3 b j ho
  · rcases Nat.lt_or_ge i As.length with hl | hl
    · rw [List.getElem?_append_left (by simpa using hl)] at hi
      by_cases hik : k = i
      · subst hik
        rw [List.getElem?_set_self hkl] at hi
        injection hi with hi; subst hi
        have := h5 0 _ rfl
        have e : part w o' k = fun b => if o2 b = some 0 then part w o k b else none := by
          funext b
          unfold part
          by_cases ho : o b = some k
          · by_cases h0 : o2 b = some 0
            · simp [o', ho, h0]
            · have hne : o' b ≠ some k := by
                simp only [o', ho, if_true]
                cases hq : o2 b with
                | none => simp
                | some j =>
                  cases j with
                  | zero => exact absurd hq h0
                  | succ j => simp; omega
              rw [if_neg hne, if_neg h0]
          · have hne : o' b ≠ some k := by
              simp only [o']
              cases hq : o b with
              | none => simp
              | some j =>
                have hjk : j ≠ k := fun e => ho (by rw [hq, e])
                simp only [hjk, if_false]
                split <;> simp [hjk]
            rw [if_neg hne]; simp [ho]
        rw [e]; exact this
      · rw [List.getElem?_set_ne hik] at hi
        have := h4 i A hi
        rw [part_congr (w' := w) (o' := o') (j := i)] at this
        · exact this
        · refine fun b => ⟨⟨fun hb => ?_, fun hb => ?_⟩, fun _ => rfl⟩
          · have : ¬ i = k := fun e => hik e.symm
            simp only [o', hb, this, if_false, hl, if_true]
          · simp only [o'] at hb
            cases ho : o b with
            | none => simp [ho] at hb
            | some j =>
              rw [ho] at hb
              dsimp only at hb
              split at hb
              · cases hq : o2 b with
                | none => rw [hq] at hb; cases hb
                | some m =>
                  rw [hq] at hb
                  cases m with
                  | zero => injection hb with hb; exact absurd hb hik
                  | succ m => injection hb with hb; omega
              · split at hb
                · exact hb
                · cases hb
    · rw [List.getElem?_append_right (by simpa using hl)] at hi
      simp only [List.length_set] at hi
      have := h5 (i - As.length + 1) A (by simpa using hi)
      have e : part w o' i = fun b => if o2 b = some (i - As.length + 1) then part w o k b else none := by
        funext b
        unfold part
        by_cases ho : o b = some k
        · by_cases h0 : o2 b = some (i - As.length + 1)
          · have : o' b = some i := by
              simp only [o', ho, h0, if_true]; congr 1; omega
            rw [if_pos this, if_pos h0, if_pos ho]
          · have hne : o' b ≠ some i := by
              simp only [o', ho, if_true]
              cases hq : o2 b with
              | none => simp
              | some j =>
                cases j with
                | zero => simp; omega
                | succ j =>
                  simp only [ne_eq, Option.some.injEq]
                  intro e2
                  exact h0 (by rw [hq]; congr 1; omega)
            rw [if_neg hne, if_neg h0]
        · have hne : o' b ≠ some i := by
            simp only [o']
            cases hq : o b with
            | none => simp
            | some j =>
              have hjk : j ≠ k := fun e => ho (by rw [hq, e])
              simp only [hjk, if_false]
              split
              · simp; omega
              · simp
          rw [if_neg hne]; simp [ho]
      rw [e]; exact this

mutual
def opP (k : Nat) : Pr → Pr
  | .no => .no
  | .pt j pk => match pk with
    | .obj => bif Nat.beq j k then .pt j (.cell 0) else .pt j .obj
    | pk => .pt j pk
  | .many ps => .many (opPs k ps)
  | .box p => .box (opP k p)
def opPs (k : Nat) : List Pr → List Pr
  | [] => []
  | p :: ps => opP k p :: opPs k ps
end
def opCs (k : Nat) : List (Value × Pr) → List (Value × Pr)
  | [] => []
  | x :: r => (x.1, opP k x.2) :: opCs k r
variable {σ : Type} (D : Addr → σ → Asn)
def opC (k : Nat) : Chunk σ → Chunk σ
  | .cells b t cs => .cells b t (opCs k cs)
  | c => c
def opK (k : Nat) : List (Chunk σ) → List (Chunk σ)
  | [] => []
  | c :: r => opC k c :: opK k r
def opL (k : Nat) : List Ent → List Ent
  | [] => []
  | e :: r => ⟨e.s, e.g, e.v, opP k e.p⟩ :: opL k r
theorem opCs_fst (k : Nat) : ∀ cs : List (Value × Pr), (opCs k cs).map (·.1) = cs.map (·.1)
  | [] => rfl
  | x :: r => by simp [opCs, opCs_fst k r]
theorem opC_den {G : Hp} (k : Nat) (c : Chunk σ) : den D G (opC k c) = den D G c := by
  cases c <;> simp [opC, den, opCs_fst]
theorem opC_cOk {k : Nat} {c : Chunk σ} {v : Value} {pk : PK} (h : cOk c v pk) : cOk (opC k c) v pk := by
  cases c <;> first | exact h | (cases pk <;> first | exact h | exact h.elim)
theorem opK_get (k : Nat) : ∀ (K : List (Chunk σ)) (j : Nat), (opK k K)[j]? = (K[j]?).map (opC k)
  | [], j => by simp [opK]
  | c :: r, 0 => by simp [opK]
  | c :: r, j + 1 => by simp [opK, opK_get k r j]
theorem opK_len (k : Nat) : ∀ K : List (Chunk σ), (opK k K).length = K.length
  | [] => rfl
  | c :: r => by simp [opK, opK_len k r]
theorem opK_map {G : Hp} (k : Nat) (K : List (Chunk σ)) : (opK k K).map (den D G) = K.map (den D G) := by
  apply List.ext_getElem?
  intro j
  rw [List.getElem?_map, opK_get, List.getElem?_map]
  cases K[j]? with
  | none => rfl
  | some c => simp [opC_den]
section
variable {K K' : List (Chunk σ)} {k b : Nat} {s : σ}
mutual
theorem opP_ok (hk : K[k]? = some (.obj ⟨b, 0, none⟩ s)) (h0 : ∃ t cs, K'[k]? = some (.cells b t cs)) (h1 : ∀ (j : Nat) (c : Chunk σ), j ≠ k → K[j]? = some c → ∃ c', K'[j]? = some c' ∧ ∀ v pk, cOk c v pk → cOk c' v pk) : ∀ (v : Value) (p : Pr), pOk K v p → pOk K' v (opP k p)
  | _, .no, _ => by simp [pOk, opP]
  | v, .pt j pk, h => by
    rw [pOk_pt] at h
    obtain ⟨c, e1, e2⟩ := h
    by_cases hj : j = k
    · subst hj
      rw [hk] at e1; injection e1 with e1; subst e1
      cases pk <;> simp only [cOk] at e2
      obtain ⟨t, cs, h0⟩ := h0
      have hb : Nat.beq j j = true := Nat.beq_refl j
      simp only [opP, hb, cond_true]
      rw [pOk_pt]
      exact ⟨_, h0, e2⟩
    · obtain ⟨c', e3, e4⟩ := h1 j c hj e1
      have : opP k (.pt j pk) = .pt j pk := by
        cases pk <;> simp only [opP]
        have : Nat.beq j k = false := by
          cases hb : Nat.beq j k with
          | false => rfl
          | true => exact absurd (Nat.eq_of_beq_eq_true hb) hj
        rw [this]; rfl
      rw [this, pOk_pt]
      exact ⟨c', e3, e4 v pk e2⟩
  | v, .many ps, h => by
    cases v <;> simp only [pOk, opP] at h ⊢
    all_goals exact opPs_ok hk h0 h1 _ ps h
  | v, .box p, h => by
    cases v <;> simp only [pOk, opP] at h ⊢
    exact opP_ok hk h0 h1 _ p h
theorem opPs_ok (hk : K[k]? = some (.obj ⟨b, 0, none⟩ s)) (h0 : ∃ t cs, K'[k]? = some (.cells b t cs)) (h1 : ∀ (j : Nat) (c : Chunk σ), j ≠ k → K[j]? = some c → ∃ c', K'[j]? = some c' ∧ ∀ v pk, cOk c v pk → cOk c' v pk) : ∀ (vs : List Value) (ps : List Pr), psOk K vs ps → psOk K' vs (opPs k ps)
  | [], [], _ => by simp [psOk, opPs]
  | [], _ :: _, h => by simp [psOk] at h
  | _ :: _, [], h => by simp [psOk] at h
  | v :: vs, p :: ps, h => by
    simp only [psOk, opPs] at h ⊢
    exact ⟨opP_ok hk h0 h1 v p h.1, opPs_ok hk h0 h1 vs ps h.2⟩
end
theorem opCs_mem {k : Nat} : ∀ {cs : List (Value × Pr)} {x : Value × Pr}, x ∈ opCs k cs → ∃ y ∈ cs, x = (y.1, opP k y.2)
  | [], x, h => by simp [opCs] at h
  | y :: r, x, h => by
    simp only [opCs, List.mem_cons] at h
    rcases h with rfl | h
    · exact ⟨y, by simp, rfl⟩
    · obtain ⟨z, h1, h2⟩ := opCs_mem h
      exact ⟨z, by simp [h1], h2⟩
theorem opL_mem {k : Nat} : ∀ {L : List Ent} {e : Ent}, e ∈ opL k L → ∃ y ∈ L, e = ⟨y.s, y.g, y.v, opP k y.p⟩
  | [], x, h => by simp [opL] at h
  | y :: r, x, h => by
    simp only [opL, List.mem_cons] at h
    rcases h with rfl | h
    · exact ⟨y, by simp, rfl⟩
    · obtain ⟨z, h1, h2⟩ := opL_mem h
      exact ⟨z, by simp [h1], h2⟩
end
/-- **The object k is opened.** -/
theorem SW.open {P : Program} {f : FuncId} {R : Ending → World → Prop} {B : Code} {n : Nat} {E : World} {G : Hp} {td : List Ab} {L : List Ent} {K : List (Chunk σ)} (k : Nat) {p0 : Addr} {s : σ} (hk : K[k]? = some (.obj p0 s))
    {α : Type} {q : α → Prop} (bf : α → Nat) (tf : α → TypeId) (cf : α → List (Value × Pr)) (rf : α → List (Chunk σ)) (hD : D p0 s = fun h => ∃ x, q x ∧ Sl.star ((Chunk.cells (bf x) (tf x) (cf x) :: rf x).map (den D G)) h)
    (hp : ∀ x, q x → p0 = ⟨bf x, 0, none⟩) (hr : ∀ x b t cs, Chunk.cells b t cs ∈ rf x → cs = [])
    (hc : ∀ x, q x → ∀ y ∈ cf x, pOk ((opK k K).set k (.cells (bf x) (tf x) (cf x)) ++ rf x) y.1 y.2)
    (h : ∀ x, q x → SW D P f R B n E G td (opL k L) ((opK k K).set k (.cells (bf x) (tf x) (cf x)) ++ rf x)) : SW D P f R B n E G td L K := by
  intro a w hF hS
  have hkl := lt_of_get hk
  have hS1 : Sat E G w (K.map (den D G)) := hS
  obtain ⟨x, hx, hS2⟩ := Sat.openAt (p := q) (A0 := fun x => den D G (.cells (bf x) (tf x) (cf x))) (Bs := fun x => (rf x).map (den D G)) (k := k) hS1 (by rw [map_den_get D hk]; simp only [den, hD]; rfl)
  have hp0 := hp x hx
  rw [hp0] at hk
  let K' : List (Chunk σ) := (opK k K).set k (.cells (bf x) (tf x) (cf x)) ++ rf x
  have hK'k : K'[k]? = some (.cells (bf x) (tf x) (cf x)) := by
    show ((opK k K).set k _ ++ rf x)[k]? = _
    rw [List.getElem?_append_left (by simp [opK_len, hkl]), List.getElem?_set_self (by rw [opK_len]; exact hkl)]
  have hK'j : ∀ (j : Nat) (c : Chunk σ), j ≠ k → K[j]? = some c → ∃ c', K'[j]? = some c' ∧ ∀ v pk, cOk c v pk → cOk c' v pk := fun j c hj hjc => by
    refine ⟨opC k c, ?_, fun v pk h => opC_cOk h⟩
    show ((opK k K).set k _ ++ rf x)[j]? = _
    rw [List.getElem?_append_left (by simp [opK_len, lt_of_get hjc]), List.getElem?_set_ne (fun e => hj e.symm), opK_get, hjc]; rfl
  have hop := fun v p hv => opP_ok (K := K) (K' := K') hk ⟨_, _, hK'k⟩ hK'j v p hv
  refine h x hx a w ⟨fun j b t cs hj y hy => ?_, hF.defers, hF.size, fun e he hg => ?_, fun e he hg => ?_⟩ ?_
  · by_cases hjk : j = k
    · subst hjk
      have := hK'k.symm.trans hj
      injection this with this; injection this with _ _ this; subst this
      exact hc x hx y hy
    · rcases Nat.lt_or_ge j K.length with hl | hl
      · have hj' : ((opK k K).set k (Chunk.cells (bf x) (tf x) (cf x)) ++ rf x)[j]? = some (.cells b t cs) := hj
        rw [List.getElem?_append_left (by simp [opK_len, hl]), List.getElem?_set_ne (fun e => hjk e.symm), opK_get] at hj'
        cases hq : K[j]? with
        | none => rw [hq] at hj'; cases hj'
        | some c =>
          rw [hq] at hj'
          cases c <;> simp only [Option.map_some, opC, Option.some.injEq] at hj' <;> try cases hj'
          obtain ⟨z, hz, rfl⟩ := opCs_mem hy
          exact hop _ _ (hF.kok _ _ _ _ hq z hz)
      · have hj' : ((opK k K).set k (Chunk.cells (bf x) (tf x) (cf x)) ++ rf x)[j]? = some (.cells b t cs) := hj
        rw [List.getElem?_append_right (by simpa [opK_len] using hl)] at hj'
        have := hr x b t cs (List.mem_of_getElem? hj')
        subst this; cases hy
  · obtain ⟨y, hy, rfl⟩ := opL_mem he
    obtain ⟨e1, e2⟩ := hF.ents y hy hg
    exact ⟨e1, hop _ _ e2⟩
  · obtain ⟨y, hy, rfl⟩ := opL_mem he
    exact hF.skipd y hy hg
  · show Sat E G w _
    rw [List.map_append, List.map_set, opK_map]
    exact hS2

/-! ### And closed again -/
def setAll {α : Type} (xs : List α) (v : α) : List Nat → List α
  | [] => xs
  | i :: is => setAll (xs.set i v) v is
theorem setAll_get {α : Type} {v : α} : ∀ (is : List Nat) (xs : List α) (j : Nat) (x : α), (setAll xs v is)[j]? = some x → (j ∈ is ∧ x = v) ∨ (j ∉ is ∧ xs[j]? = some x)
  | [], xs, j, x, h => .inr ⟨by simp, h⟩
  | i :: is, xs, j, x, h => by
    rcases setAll_get is (xs.set i v) j x h with ⟨h1, h2⟩ | ⟨h1, h2⟩
    · exact .inl ⟨by simp [h1], h2⟩
    · by_cases hij : i = j
      · subst hij
        rcases Nat.lt_or_ge i xs.length with hl | hl
        · rw [List.getElem?_set_self hl] at h2
          injection h2 with h2
          exact .inl ⟨by simp, h2.symm⟩
        · rw [List.getElem?_eq_none (by simpa using hl)] at h2; cases h2
      · rw [List.getElem?_set_ne hij] at h2
        exact .inr ⟨by simp [h1]; exact fun e => hij e.symm, h2⟩
theorem setAll_map {α β : Type} (f : α → β) (v : α) : ∀ (is : List Nat) (xs : List α), (setAll xs v is).map f = setAll (xs.map f) (f v) is
  | [], xs => rfl
  | i :: is, xs => by rw [setAll, setAll_map f v is, List.map_set]; rfl
theorem setAll_len {α : Type} (v : α) : ∀ (is : List Nat) (xs : List α), (setAll xs v is).length = xs.length
  | [], xs => rfl
  | i :: is, xs => by rw [setAll, setAll_len v is]; simp
theorem setAll_not {α : Type} {v : α} : ∀ {is : List Nat} {xs : List α} {j : Nat}, j ∉ is → (setAll xs v is)[j]? = xs[j]?
  | [], xs, j, _ => rfl
  | i :: is, xs, j, h => by
    simp only [List.mem_cons, not_or] at h
    rw [setAll, setAll_not h.2, List.getElem?_set_ne (fun e => h.1 e.symm)]

theorem Sat.closeAt {E : World} {G : Hp} {w : World} {As Bs : List Asn} {k : Nat} {ks : List Nat} (h : Sat E G w As) (hn : (k :: ks).Nodup) (hB : ∀ (i : Nat) (B : Asn), Bs[i]? = some B → ∃ j, (k :: ks)[i]? = some j ∧ As[j]? = some B) :
    Sat E G w ((setAll As (fun _ => True) ks).set k (Sl.star Bs)) := by
  obtain ⟨h1, h2, o, h3, h4⟩ := h
  have hkn : k ∉ ks := (List.nodup_cons.1 hn).1
  let o' : Nat → Option Nat := fun b => match o b with
    | some i => if i ∈ k :: ks then some k else some i
    | none => none
  have hin : ∀ b, o' b = some k → ∃ i, o b = some i ∧ i ∈ k :: ks := fun b hb => by
    simp only [o'] at hb
    cases ho : o b with
    | none => simp [ho] at hb
    | some i =>
      rw [ho] at hb
      dsimp only at hb
      by_cases hi : i ∈ k :: ks
      · exact ⟨i, rfl, hi⟩
      · rw [if_neg hi] at hb
        injection hb with hb
        exact absurd (by rw [hb]; simp) hi
  refine ⟨h1, h2, o', fun b i hb => ?_, fun i A hi => ?_⟩
  · simp only [o'] at hb
    cases ho : o b with
    | none => simp [ho] at hb
    | some j => exact h3 b j ho
  · by_cases hik : k = i
    · subst hik
      have hl := lt_of_get hi
      rw [List.getElem?_set_self (by simpa using hl)] at hi
      injection hi with hi; subst hi
      refine ⟨fun b => match o b with | some i => (k :: ks).idxOf? i | none => none, fun i B hBi => ?_⟩
      obtain ⟨j, e1, e2⟩ := hB i B hBi
      have := h4 j B e2
      have e : (fun b => if (match o b with | some i => (k :: ks).idxOf? i | none => none) = some i then part w o' k b else none) = part w o j := by
        funext b
        unfold part
        cases ho : o b with
        | none => simp
        | some m =>
          dsimp only
          by_cases hm : (k :: ks).idxOf? m = some i
          · have hmj : m = j := by
              have := (idx_of hn).1 hm
              rw [e1] at this; injection this with this; exact this.symm
            subst hmj
            have : o' b = some k := by
              simp only [o', ho]
              rw [if_pos (List.mem_of_getElem? e1)]
            rw [if_pos hm, if_pos this]; simp
          · rw [if_neg hm, if_neg]
            intro e3
            injection e3 with e3
            subst e3
            exact hm ((idx_of hn).2 e1)
      rw [e]; exact this
    · rw [List.getElem?_set_ne hik] at hi
      rcases setAll_get ks As i A hi with ⟨_, rfl⟩ | ⟨hni, hA⟩
      · trivial
      · have := h4 i A hA
        rw [part_congr (w' := w) (o' := o') (j := i)] at this
        · exact this
        · have hnk : ¬ i ∈ k :: ks := by
            simp only [List.mem_cons, not_or]
            exact ⟨fun e => hik e.symm, hni⟩
          refine fun b => ⟨⟨fun hb => ?_, fun hb => ?_⟩, fun _ => rfl⟩
          · simp only [o', hb]; rw [if_neg hnk]
          · simp only [o'] at hb
            cases ho : o b with
            | none => simp [ho] at hb
            | some j =>
              rw [ho] at hb
              dsimp only at hb
              split at hb
              · injection hb with hb; exact absurd hb hik
              · exact hb
mutual
def clP (k : Nat) (ks : List Nat) : Pr → Pr
  | .no => .no
  | .pt j pk => bif Nat.beq j k then (match pk with | .cell 0 => .pt k .obj | _ => .no) else bif ks.any (Nat.beq j) then .no else .pt j pk
  | .many ps => .many (clPs k ks ps)
  | .box p => .box (clP k ks p)
def clPs (k : Nat) (ks : List Nat) : List Pr → List Pr
  | [] => []
  | p :: ps => clP k ks p :: clPs k ks ps
end
def clL (k : Nat) (ks : List Nat) : List Ent → List Ent
  | [] => []
  | e :: r => ⟨e.s, e.g, e.v, clP k ks e.p⟩ :: clL k ks r
theorem clL_mem {k : Nat} {ks : List Nat} : ∀ {L : List Ent} {e : Ent}, e ∈ clL k ks L → ∃ y ∈ L, e = ⟨y.s, y.g, y.v, clP k ks y.p⟩
  | [], x, h => by simp [clL] at h
  | y :: r, x, h => by
    simp only [clL, List.mem_cons] at h
    rcases h with rfl | h
    · exact ⟨y, by simp, rfl⟩
    · obtain ⟨z, h1, h2⟩ := clL_mem h
      exact ⟨z, by simp [h1], h2⟩
section
variable {K K' : List (Chunk σ)} {k b : Nat} {ks : List Nat} {s : σ}
mutual
theorem clP_ok {t : TypeId} {cs : List (Value × Pr)} (hk : K[k]? = some (.cells b t cs)) (h0 : K'[k]? = some (.obj ⟨b, 0, none⟩ s)) (h1 : ∀ j : Nat, j ≠ k → j ∉ ks → K'[j]? = K[j]?) : ∀ (v : Value) (p : Pr), pOk K v p → pOk K' v (clP k ks p)
  | _, .no, _ => by simp [pOk, clP]
  | v, .pt j pk, h => by
    rw [pOk_pt] at h
    obtain ⟨c, e1, e2⟩ := h
    simp only [clP]
    cases hj : Nat.beq j k with
    | true =>
      have := Nat.eq_of_beq_eq_true hj
      subst this
      simp only [cond_true]
      rw [hk] at e1; injection e1 with e1; subst e1
      split
      · rw [pOk_pt]; exact ⟨_, h0, e2⟩
      · exact pOk_no
    | false =>
      simp only [cond_false]
      cases hm : ks.any (Nat.beq j) with
      | true => exact pOk_no
      | false =>
        have hjk : j ≠ k := fun e => by rw [e, Nat.beq_refl] at hj; cases hj
        have hjn : j ∉ ks := fun hmem => by
          rw [List.any_eq_false] at hm
          exact hm j hmem (Nat.beq_refl j)
        simp only [cond_false]
        rw [pOk_pt]
        exact ⟨c, by rw [h1 j hjk hjn]; exact e1, e2⟩
  | v, .many ps, h => by
    cases v <;> simp only [pOk, clP] at h ⊢
    all_goals exact clPs_ok hk h0 h1 _ ps h
  | v, .box p, h => by
    cases v <;> simp only [pOk, clP] at h ⊢
    exact clP_ok hk h0 h1 _ p h
theorem clPs_ok {t : TypeId} {cs : List (Value × Pr)} (hk : K[k]? = some (.cells b t cs)) (h0 : K'[k]? = some (.obj ⟨b, 0, none⟩ s)) (h1 : ∀ j : Nat, j ≠ k → j ∉ ks → K'[j]? = K[j]?) : ∀ (vs : List Value) (ps : List Pr), psOk K vs ps → psOk K' vs (clPs k ks ps)
  | [], [], _ => by simp [psOk, clPs]
  | [], _ :: _, h => by simp [psOk] at h
  | _ :: _, [], h => by simp [psOk] at h
  | v :: vs, p :: ps, h => by
    simp only [psOk, clPs] at h ⊢
    exact ⟨clP_ok hk h0 h1 v p h.1, clPs_ok hk h0 h1 vs ps h.2⟩
end
end
/-- **Chunks are closed to an object**, where no other block of cells is at hand. -/
theorem SW.close {P : Program} {f : FuncId} {R : Ending → World → Prop} {B : Code} {n : Nat} {E : World} {G : Hp} {td : List Ab} {L : List Ent} {K : List (Chunk σ)} (k : Nat) (ks : List Nat) {b : Nat} {t : TypeId} {cs : List (Value × Pr)} {rs : List (Chunk σ)} {s : σ} (hn : (k :: ks).Nodup)
    (hk : K[k]? = some (.cells b t cs)) (hr : ∀ (i : Nat) c, rs[i]? = some c → ∃ j, ks[i]? = some j ∧ K[j]? = some c) (hno : ∀ (j : Nat) b t cs, j ≠ k → K[j]? ≠ some (.cells b t cs))
    (hD : ∀ h, Sl.star ((Chunk.cells b t cs :: rs).map (den D G)) h → D ⟨b, 0, none⟩ s h)
    (h : SW D P f R B n E G td (clL k ks L) ((setAll K .dead ks).set k (.obj ⟨b, 0, none⟩ s))) : SW D P f R B n E G td L K := by
  intro a w hF hS
  have hkl := lt_of_get hk
  have hkn : k ∉ ks := (List.nodup_cons.1 hn).1
  have hS1 : Sat E G w (K.map (den D G)) := hS
  have hS2 := Sat.closeAt (Bs := (Chunk.cells b t cs :: rs).map (den D G)) hS1 hn fun i B hi => by
    rw [List.getElem?_map] at hi
    cases i with
    | zero =>
      simp only [List.getElem?_cons_zero, Option.map_some, Option.some.injEq] at hi
      exact ⟨k, rfl, by rw [map_den_get D hk, hi]⟩
    | succ i =>
      simp only [List.getElem?_cons_succ] at hi
      cases hc : rs[i]? with
      | none => rw [hc] at hi; cases hi
      | some c =>
        rw [hc] at hi; injection hi with hi
        obtain ⟨j, e1, e2⟩ := hr i c hc
        exact ⟨j, by simpa using e1, by rw [map_den_get D e2, hi]⟩
  let K' : List (Chunk σ) := (setAll K .dead ks).set k (.obj ⟨b, 0, none⟩ s)
  have h0 : K'[k]? = some (.obj ⟨b, 0, none⟩ s) := List.getElem?_set_self (by rw [setAll_len]; exact hkl)
  have h1 : ∀ j : Nat, j ≠ k → j ∉ ks → K'[j]? = K[j]? := fun j hj hjn => by
    show ((setAll K .dead ks).set k _)[j]? = _
    rw [List.getElem?_set_ne (fun e => hj e.symm), setAll_not hjn]
  have hcl := fun v p hv => clP_ok (K := K) (K' := K') (ks := ks) hk h0 h1 v p hv
  refine h a w ⟨fun j b' t' cs' hj y hy => ?_, hF.defers, hF.size, fun e he hg => ?_, fun e he hg => ?_⟩ ?_
  · exfalso
    have hj' : ((setAll K .dead ks).set k (Chunk.obj ⟨b, 0, none⟩ s))[j]? = some (.cells b' t' cs') := hj
    by_cases hjk : k = j
    · subst hjk
      have := h0.symm.trans hj
      injection this with this; cases this
    · rw [List.getElem?_set_ne hjk] at hj'
      rcases setAll_get ks K j _ hj' with ⟨_, e⟩ | ⟨_, e⟩
      · cases e
      · exact hno j b' t' cs' (fun e => hjk e.symm) e
  · obtain ⟨y, hy, rfl⟩ := clL_mem he
    obtain ⟨e1, e2⟩ := hF.ents y hy hg
    exact ⟨e1, hcl _ _ e2⟩
  · obtain ⟨y, hy, rfl⟩ := clL_mem he
    exact hF.skipd y hy hg
  · show Sat E G w _
    rw [List.map_set, setAll_map]
    refine hS2.imp fun i B hB => ?_
    by_cases hik : k = i
    · subst hik
      have hl := lt_of_get hB
      rw [List.getElem?_set_self (by simpa using hl)] at hB
      injection hB with hB; subst hB
      exact ⟨_, List.getElem?_set_self (by simpa [setAll_len] using hkl), hD⟩
    · rw [List.getElem?_set_ne hik] at hB
      exact ⟨B, by rw [List.getElem?_set_ne hik]; exact hB, fun _ h => h⟩
end Go.Sl

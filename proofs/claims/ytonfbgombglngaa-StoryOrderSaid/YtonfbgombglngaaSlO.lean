/-
  DERIVED. Assertions that are made of several: packed into one, and unpacked. Slices that are nil, at a loop's head. No program is named.
-/
import Derived.Test.YtonfbgombglngaaSlN
namespace Go.Sl
open Go.RowKit

/-- Several assertions, each of blocks of its own. -/
def star (As : List Asn) : Asn := fun h => ∃ o : Nat → Option Nat, ∀ (i : Nat) (A : Asn), As[i]? = some A → A (fun b => if o b = some i then h b else none)

theorem Sat.unstar {E : World} {G : Hp} {w : World} {As : List Asn} (h : Sat E G w [star As]) : Sat E G w As := by
  obtain ⟨h1, h2, o, h3, h4⟩ := h
  obtain ⟨o2, h5⟩ := h4 0 (star As) rfl
  refine ⟨h1, h2, fun b => if o b = some 0 then o2 b else none, fun b i hb => ?_, fun i A hi => ?_⟩
  · dsimp only at hb
    split at hb
    · rename_i ho; exact h3 b 0 ho
    · cases hb
  · have := h5 i A hi
    have e : part w (fun b => if o b = some 0 then o2 b else none) i = fun b => if o2 b = some i then part w o 0 b else none := by
      funext b
      unfold part
      by_cases ho : o b = some 0
      · simp [ho]
      · simp [ho]
    rw [e]; exact this
theorem Sat.star {E : World} {G : Hp} {w : World} {As : List Asn} (h : Sat E G w As) : Sat E G w [Sl.star As] := by
  obtain ⟨h1, h2, o, h3, h4⟩ := h
  refine ⟨h1, h2, fun b => match o b with | some _ => some 0 | none => none, fun b i hb => ?_, fun i A hi => ?_⟩
  · dsimp only at hb
    cases ho : o b with
    | none => simp [ho] at hb
    | some j => exact h3 b j ho
  · have hi0 : i = 0 := by
      rcases Nat.eq_zero_or_pos i with h0 | h0
      · exact h0
      · rw [List.getElem?_eq_none (by simp; omega)] at hi; cases hi
    subst hi0
    simp only [List.getElem?_cons_zero, Option.some.injEq] at hi
    subst hi
    refine ⟨o, fun i A hA => ?_⟩
    have := h4 i A hA
    have e : (fun b => if o b = some i then part w (fun b => match o b with | some _ => some 0 | none => none) 0 b else none) = part w o i := by
      funext b
      unfold part
      cases ho : o b with
      | none => simp
      | some j => by_cases hj : j = i <;> simp [hj, ho]
    rw [e]; exact this
theorem Sat.star_append {E : World} {G : Hp} {w : World} {As Bs : List Asn} (h : Sat E G w (As ++ Bs)) : Sat E G w (Sl.star As :: Bs) := by
  obtain ⟨h1, h2, o, h3, h4⟩ := h
  let o' : Nat → Option Nat := fun b => match o b with | some i => if i < As.length then some 0 else some (i - As.length + 1) | none => none
  refine ⟨h1, h2, o', fun b i hb => ?_, fun i A hi => ?_⟩
  · simp only [o'] at hb
    cases ho : o b with
    | none => simp [ho] at hb
    | some j => exact h3 b j ho
  · cases i with
    | zero =>
      simp only [List.getElem?_cons_zero, Option.some.injEq] at hi
      subst hi
      refine ⟨o, fun i A hA => ?_⟩
      have hil : i < As.length := by
        rcases Nat.lt_or_ge i As.length with h' | h'
        · exact h'
        · rw [List.getElem?_eq_none h'] at hA; cases hA
      have := h4 i A (by rw [List.getElem?_append_left hil]; exact hA)
      have e : (fun b => if o b = some i then part w o' 0 b else none) = part w o i := by
        funext b
        unfold part
        by_cases ho : o b = some i
        · simp [o', ho, hil]
        · simp [ho]
      rw [e]; exact this
    | succ i =>
      simp only [List.getElem?_cons_succ] at hi
      have := h4 (As.length + i) A (by rw [List.getElem?_append_right (by omega)]; simpa using hi)
      rw [part_congr (w' := w) (o' := o') (j := i + 1)] at this
      · exact this
      · intro b
        refine ⟨⟨fun hb => ?_, fun hb => ?_⟩, fun _ => rfl⟩
        · have : ¬ (As.length + i < As.length) := by omega
          simp only [o', hb, this, if_false]
          congr 1; omega
        · simp only [o'] at hb
          cases ho : o b with
          | none => simp [ho] at hb
          | some j =>
            rw [ho] at hb
            dsimp only at hb
            split at hb
            · cases hb
            · injection hb with hb; congr 1; omega
theorem Sat.to_exists_cons {E : World} {G : Hp} {w : World} {α : Type} {p : α → Prop} {A : α → Asn} {Bs : List Asn} (x : α) (hp : p x) (h : Sat E G w (A x :: Bs)) : Sat E G w ((fun k => ∃ x, p x ∧ A x k) :: Bs) := by
  refine h.imp fun i B hB => ?_
  cases i with
  | zero =>
    simp only [List.getElem?_cons_zero, Option.some.injEq] at hB
    subst hB
    exact ⟨A x, rfl, fun k hk => ⟨x, hp, hk⟩⟩
  | succ i => exact ⟨B, by simpa using hB, fun _ h => h⟩
/-- One assertion of a list, for one that is a choice of many. -/
theorem Sat.of_exists {E : World} {G : Hp} {w : World} {α : Type} {p : α → Prop} {A : α → Asn} (h : Sat E G w [fun k => ∃ x, p x ∧ A x k]) : ∃ x, p x ∧ Sat E G w [A x] := by
  obtain ⟨h1, h2, o, h3, h4⟩ := h
  obtain ⟨x, hp, hx⟩ := h4 0 _ rfl
  refine ⟨x, hp, h1, h2, o, h3, fun i B hi => ?_⟩
  have hi0 : i = 0 := by
    rcases Nat.eq_zero_or_pos i with h0 | h0
    · exact h0
    · rw [List.getElem?_eq_none (by simp; omega)] at hi; cases hi
  subst hi0
  simp only [List.getElem?_cons_zero, Option.some.injEq] at hi
  subst hi
  exact hx
theorem Sat.to_exists {E : World} {G : Hp} {w : World} {α : Type} {p : α → Prop} {A : α → Asn} (x : α) (hp : p x) (h : Sat E G w [A x]) : Sat E G w [fun k => ∃ x, p x ∧ A x k] := by
  refine h.imp fun i B hB => ?_
  have hi0 : i = 0 := by
    rcases Nat.eq_zero_or_pos i with h0 | h0
    · exact h0
    · rw [List.getElem?_eq_none (by simp; omega)] at hB; cases hB
  subst hi0
  simp only [List.getElem?_cons_zero, Option.some.injEq] at hB
  subst hB
  exact ⟨A x, rfl, fun k hk => ⟨x, hp, hk⟩⟩

variable {σ : Type} (D : Addr → σ → Asn)

/-- A slot that is a nil slice points into a row of nothing. -/
def setNil (s k : Nat) : List Ent → List Ent
  | [] => []
  | e :: r => bif Nat.beq e.s s then (match e.v with
    | .slice none 0 0 => ⟨e.s, e.g, e.v, .pt k .slice⟩ :: setNil s k r
    | _ => e :: setNil s k r) else e :: setNil s k r
theorem setNil_ok {K : List (Chunk σ)} {t : TypeId} {cols : List Col} {tm : Array Value} {s : Nat} : ∀ {L : List Ent}, (∀ e ∈ L, e.ok K tm) → ∀ e ∈ setNil s K.length L, e.ok (K ++ [.row none t 0 0 cols]) tm
  | [], _, e, he => by simp [setNil] at he
  | x :: r, hL, e, he => by
    have ih := setNil_ok (t := t) (cols := cols) (s := s) (L := r) (fun e he => hL e (by simp [he]))
    have hx : x.ok (K ++ [.row none t 0 0 cols]) tm := fun hg => let ⟨h1, h2⟩ := hL x (by simp) hg; ⟨h1, h2.ext (KExt.append K _)⟩
    simp only [setNil] at he
    cases hb : Nat.beq x.s s with
    | false =>
      rw [hb] at he
      simp only [cond_false, List.mem_cons] at he
      rcases he with rfl | he
      · exact hx
      · exact ih e he
    | true =>
      rw [hb] at he
      simp only [cond_true] at he
      split at he
      · rename_i hv
        simp only [List.mem_cons] at he
        rcases he with rfl | he
        · intro hg
          refine ⟨(hx hg).1, ?_⟩
          simp only [hv]
          exact pOk_pt.2 ⟨_, List.getElem?_concat_length, rfl⟩
        · exact ih e he
      · simp only [List.mem_cons] at he
        rcases he with rfl | he
        · exact hx
        · exact ih e he
theorem setNil_skip {k s : Nat} {tm : Array Value} : ∀ {L : List Ent}, (∀ e ∈ L, ¬ GV tm e.g → tm.getD e.s undef = undef) → ∀ e ∈ setNil s k L, ¬ GV tm e.g → tm.getD e.s undef = undef
  | [], _, e, he => by simp [setNil] at he
  | x :: r, hL, e, he => by
    have ih := setNil_skip (k := k) (s := s) (L := r) (fun e he => hL e (by simp [he]))
    have hx := hL x (by simp)
    simp only [setNil] at he
    cases hb : Nat.beq x.s s with
    | false =>
      rw [hb] at he
      simp only [cond_false, List.mem_cons] at he
      rcases he with rfl | he
      · exact hx
      · exact ih e he
    | true =>
      rw [hb] at he
      simp only [cond_true] at he
      split at he
      · simp only [List.mem_cons] at he
        rcases he with rfl | he
        · exact hx
        · exact ih e he
      · simp only [List.mem_cons] at he
        rcases he with rfl | he
        · exact hx
        · exact ih e he
theorem SW.nil {P : Program} {f : FuncId} {R : Ending → World → Prop} {B : Code} {n : Nat} {E : World} {G : Hp} {td : List Ab} {L : List Ent} {K : List (Chunk σ)} (s : Nat) (t : TypeId) (cols : List Col) (hc : nilRow (Chunk.row (σ := σ) none t 0 0 cols) = true)
    (h : SW D P f R B n E G td (setNil s K.length L) (K ++ [.row none t 0 0 cols])) : SW D P f R B n E G td L K := by
  intro a w hF hS
  refine h a w ⟨hF.kok.row, hF.defers, hF.size, setNil_ok hF.ents, setNil_skip hF.skipd⟩ ?_
  refine Sat.pick hS (List.range K.length) List.nodup_range fun i B hi => ?_
  rw [List.getElem?_map] at hi
  cases hq : (K ++ [Chunk.row (σ := σ) none t 0 0 cols])[i]? with
  | none => rw [hq] at hi; cases hi
  | some c =>
    rw [hq] at hi; injection hi with hi; subst hi
    rcases Nat.lt_or_ge i K.length with hl | hl
    · rw [List.getElem?_append_left hl] at hq
      exact .inl ⟨i, by simp [hl], by rw [List.getElem?_map, hq]; rfl⟩
    · rw [List.getElem?_append_right hl] at hq
      have : c = .row none t 0 0 cols := by
        have := List.mem_of_getElem? hq
        simpa using this
      subst this
      exact .inr (nilRow_den D hc)

/-- A cell that is a nil slice points into a row of nothing. -/
def setNilC (K : List (Chunk σ)) (k off : Nat) : List (Chunk σ) :=
  match K[k]? with
  | some (.cells b t cs) => match cs[off]? with
    | some (.slice none 0 0, _) => K.set k (.cells b t (cs.set off (.slice none 0 0, .pt K.length .slice)))
    | _ => K
  | _ => K
theorem SW.nilc {P : Program} {f : FuncId} {R : Ending → World → Prop} {B : Code} {n : Nat} {E : World} {G : Hp} {td : List Ab} {L : List Ent} {K : List (Chunk σ)} (k off : Nat) (t : TypeId) (cols : List Col) (hc : nilRow (Chunk.row (σ := σ) none t 0 0 cols) = true)
    (h : SW D P f R B n E G td L (setNilC K k off ++ [.row none t 0 0 cols])) : SW D P f R B n E G td L K := by
  -- the row of nothing first
  have h1 : SW D P f R B n E G td L (K ++ [.row none t 0 0 cols]) := by
    unfold setNilC at h
    split at h
    · rename_i b t0 cs hk
      split at h
      · rename_i p0 ho
        intro a w hF hS
        have hkl := lt_of_get hk
        have hk' : (K ++ [Chunk.row (σ := σ) none t 0 0 cols])[k]? = some (.cells b t0 cs) := by rw [List.getElem?_append_left hkl]; exact hk
        have hset : K.set k (.cells b t0 (cs.set off (.slice none 0 0, .pt K.length .slice))) ++ [Chunk.row (σ := σ) none t 0 0 cols] = (K ++ [Chunk.row (σ := σ) none t 0 0 cols]).set k (.cells b t0 (cs.set off (.slice none 0 0, .pt K.length .slice))) := by
          rw [List.set_append_left _ _ hkl]
        rw [hset] at h
        have hcmp : ∀ v pk, cOk (Chunk.cells (σ := σ) b t0 cs) v pk → cOk (Chunk.cells (σ := σ) b t0 (cs.set off (.slice none 0 0, .pt K.length .slice))) v pk := fun v pk hv => by cases pk <;> exact hv
        refine h a w (hF.ext (KExt.set hk' hcmp) (hF.kok.set hk' hcmp fun b' t' cs' e x hx => ?_)) ?_
        · injection e with _ _ e; subst e
          rcases List.mem_or_eq_of_mem_set hx with hx | hx
          · exact hF.kok _ _ _ _ hk' x hx
          · subst hx
            exact pOk_pt.2 ⟨_, List.getElem?_concat_length, rfl⟩
        · unfold SatK at hS ⊢
          have e : (cs.set off (.slice none 0 0, Pr.pt K.length .slice)).map (·.1) = cs.map (·.1) := by
            apply List.ext_getElem?
            intro j
            simp only [List.getElem?_map, List.getElem?_set]
            by_cases hj : off = j
            · subst hj
              rw [ho]
              simp [lt_of_get ho]
            · simp [hj]
          have : ((K ++ [Chunk.row (σ := σ) none t 0 0 cols]).set k (.cells b t0 (cs.set off (.slice none 0 0, .pt K.length .slice)))).map (den D G) = (K ++ [Chunk.row (σ := σ) none t 0 0 cols]).map (den D G) := by
            apply List.ext_getElem?
            intro j
            simp only [List.getElem?_map, List.getElem?_set]
            by_cases hj : k = j
            · subst hj
              rw [hk']
              simp [den, e]
              omega
            · simp [hj]
          rw [this]; exact hS
      · exact h
    · exact h
  intro a w hF hS
  refine h1 a w (hF.ext (KExt.append K _) hF.kok.row) ?_
  refine Sat.pick hS (List.range K.length) List.nodup_range fun i B hi => ?_
  rw [List.getElem?_map] at hi
  cases hq : (K ++ [Chunk.row (σ := σ) none t 0 0 cols])[i]? with
  | none => rw [hq] at hi; cases hi
  | some c =>
    rw [hq] at hi; injection hi with hi; subst hi
    rcases Nat.lt_or_ge i K.length with hl | hl
    · rw [List.getElem?_append_left hl] at hq
      exact .inl ⟨i, by simp [hl], by rw [List.getElem?_map, hq]; rfl⟩
    · rw [List.getElem?_append_right hl] at hq
      have : c = .row none t 0 0 cols := by
        have := List.mem_of_getElem? hq
        simpa using this
      subst this
      exact .inr (nilRow_den D hc)

def cellsAll (K : List (Chunk σ)) : List (Chunk σ) → Prop
  | [] => True
  | .cells _ _ cs :: r => psOk K (cs.map (·.1)) (cs.map (·.2)) ∧ cellsAll K r
  | _ :: r => cellsAll K r
theorem psOk_pairs {K : List (Chunk σ)} : ∀ {cs : List (Value × Pr)}, psOk K (cs.map (·.1)) (cs.map (·.2)) → ∀ x ∈ cs, pOk K x.1 x.2
  | [], _, x, hx => by simp at hx
  | y :: r, h, x, hx => by
    simp only [List.map_cons, psOk] at h
    simp only [List.mem_cons] at hx
    rcases hx with rfl | hx
    · exact h.1
    · exact psOk_pairs h.2 x hx
theorem KOk_all {K : List (Chunk σ)} (h : cellsAll K K) : KOk K := by
  intro k b t cs hk
  have key : ∀ (l : List (Chunk σ)), cellsAll K l → Chunk.cells b t cs ∈ l → psOk K (cs.map (·.1)) (cs.map (·.2)) := by
    intro l
    induction l with
    | nil => intro _ hm; simp at hm
    | cons c r ih =>
      intro hl hm
      simp only [List.mem_cons] at hm
      rcases hm with rfl | hm
      · exact hl.1
      · refine ih ?_ hm
        cases c <;> first | exact hl.2 | exact hl
  exact psOk_pairs (key K h (List.mem_of_getElem? hk))
/-- A call on an object that is open. -/
theorem calls_obj {P : Program} {T : List (Nat × Entry σ)} (hT : TableOk D P T) {I : List Nat} {f : FuncId} {fn : Func} {B : Code} {E : World} {G : Hp} {w : World} (hfn : P.funcs[f]? = some fn) (hmix : P.follows .mixedOrders = true)
    (hB : fn.body = some B) (vs : List Value) (ps : List Pr) (hlen : Nat.ble vs.length fn.ntmps = true) {K ros : List (Chunk σ)} (hp : psOk (K ++ ros) vs ps) (hk : cellsAll (K ++ ros) (K ++ ros)) (hr : rosOk G ros) (hS : SatK D E G w K)
    {R' : Value → Pr → List (Chunk σ) → Prop} {R : Ending → World → Prop} (hR : ∀ v p K w, R' v p K → SatK D E G w K → R (.returned v) w) (fuel : Nat) {t : Tree σ}
    (hrun : run P T I fuel B fn.results.toList fn.ntmps [.code []] (argEnts 0 (List.zip vs ps)) (K ++ ros) = t)
    (ht : t.holds R' (SW D P f R B fn.ntmps E G)) : Calls P f vs.toArray w R := by
  have hl := psOk_len hp
  have := calls_run D hT hfn hmix hB rfl (List.zip vs ps) (by simpa [hl] using hlen) (K := K ++ ros) (psOk_get hp) (KOk_all hk) (hS.ros D hr) (R' := R') hR fuel hrun ht
  simpa [List.map_fst_zip, hl] using this

/-- The end of a function that has an object open: the object's chunks, with what they hold then; what it hands back. -/
def ObjRet {α β : Type} (Kf : α → List (Chunk σ)) (out : β → List Value → Value) (rows : β → List (Mk σ)) (ok : α → β → Prop) (v : Value) (p : Pr) (K : List (Chunk σ)) : Prop :=
  ∃ (x : α) (r : β), ok x r ∧ RetOk (out r) (Kf x) (rows r) v p K
end Go.Sl

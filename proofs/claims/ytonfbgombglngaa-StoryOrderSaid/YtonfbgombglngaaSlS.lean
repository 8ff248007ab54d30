/-
  DERIVED. Arguments that are made of integers and bools alone, opened: structs and arrays by value, slices of such. No program is named.
-/
import Derived.Test.YtonfbgombglngaaSlL
import Derived.Deep.Slices
import Derived.OpenShut
namespace Go.Sl
open Go.RowKit Go.ChangeShapes Go.WideShapes Go.ChangeAt

inductive Shp where
  | int (k : IntKind)
  | bool
def vIs : Shp → Value → Prop
  | .int k, v => ∃ x, v = .int k x ∧ (Lit.int k x).wf = true
  | .bool, v => ∃ b, v = .bool b
def cellsIs : List Shp → List Value → Prop
  | [], vs => vs = []
  | s :: r, vs => ∃ v vs', vs = v :: vs' ∧ vIs s v ∧ cellsIs r vs'
def colIs (n : Nat) : Shp → Col → Prop
  | .int k, c => ∃ xs, c = .ints k xs ∧ xs.length = n ∧ ∀ x ∈ xs, (Lit.int k x).wf = true
  | .bool, c => ∃ xs, c = .bools xs ∧ xs.length = n
def colsIs (n : Nat) : List Shp → List Col → Prop
  | [], cs => cs = []
  | s :: r, cs => ∃ c cs', cs = c :: cs' ∧ colIs n s c ∧ colsIs n r cs'

theorem cellsIs_len : ∀ {sh : List Shp} {vs : List Value}, cellsIs sh vs → vs.length = sh.length
  | [], _, h => by rw [h]; rfl
  | _ :: r, _, ⟨v, vs', e, _, h⟩ => by rw [e, List.length_cons, List.length_cons, cellsIs_len h]
theorem cellsIs_append : ∀ {a b : List Shp} {u v : List Value}, cellsIs a u → cellsIs b v → cellsIs (a ++ b) (u ++ v)
  | [], b, u, v, h, h' => by rw [h]; exact h'
  | s :: r, b, u, v, ⟨x, u', e, hx, h⟩, h' => ⟨x, u' ++ v, by rw [e]; rfl, hx, cellsIs_append h h'⟩
theorem cellsIs_get : ∀ {sh : List Shp} {vs : List Value}, cellsIs sh vs → ∀ (j : Nat) s, sh[j]? = some s → ∃ v, vs[j]? = some v ∧ vIs s v
  | [], _, _, j, s, hs => by simp at hs
  | s0 :: r, _, ⟨x, u', e, hx, h⟩, j, s, hs => by
    subst e
    cases j with
    | zero => simp at hs; subst hs; exact ⟨x, rfl, hx⟩
    | succ j => exact cellsIs_get h j s (by simpa using hs)

/-! ### The shape of a type -/
section
variable (P : Program)
def shpFs (f : TypeId → Option (List Shp)) : Nat → List Field → Option (List Shp)
  | _, [] => some []
  | o, fd :: fs => bif Nat.beq fd.offset o then match f fd.type, shpFs f (o + P.cellsOf fd.type) fs with
      | some a, some b => bif Nat.beq a.length (P.cellsOf fd.type) then some (a ++ b) else none
      | _, _ => none
    else none
def reps (s : List Shp) : Nat → List Shp
  | 0 => []
  | n + 1 => s ++ reps s n
def shpT : Nat → TypeId → Option (List Shp)
  | 0, _ => none
  | d + 1, t => match P.underlying t with
    | some (.int k) => some [.int k]
    | some .bool => some [.bool]
    | some (.struct fs) => match shpFs P (shpT d) 0 fs.toList with
      | some s => bif Nat.beq s.length (P.cellsOf t) then some s else none
      | none => none
    | some (.array n e) => match shpT d e with
      | some s => bif Nat.beq s.length (P.cellsOf e) && Nat.beq (n * P.cellsOf e) (P.cellsOf t) then some (reps s n) else none
      | none => none
    | _ => none
end

section
variable {H : Type} {enc : TypeId × Value → H} {P : Program} {w : World} {base : Nat} {sp : Nat → Bool} {held : Bool}

theorem shpFs_ok {f : TypeId → Option (List Shp)} {n : Nat} (hf : ∀ t sh cs x, f t = some sh → DataW.trod enc P w base sp held n t cs = some x → cellsIs sh cs) {cs : List Value} :
    ∀ (fs : List Field) (o : Nat) (s : List Shp), shpFs P f o fs = some s → (∀ fd ∈ fs, ∃ y, DataW.trod enc P w base sp held n fd.type ((cs.drop fd.offset).take (P.cellsOf fd.type)) = some y) → cellsIs s ((cs.drop o).take s.length)
  | [], o, s, h, _ => by simp only [shpFs, Option.some.injEq] at h; subst h; simp [cellsIs]
  | fd :: fs, o, s, h, hall => by
    simp only [shpFs] at h
    cases ho : Nat.beq fd.offset o with
    | false => rw [ho] at h; cases h
    | true =>
      rw [ho] at h
      have ho := Nat.eq_of_beq_eq_true ho
      simp only [cond_true] at h
      split at h
      · rename_i a b ha hb
        cases hl : Nat.beq a.length (P.cellsOf fd.type) with
        | false => rw [hl] at h; cases h
        | true =>
          rw [hl] at h
          have hl := Nat.eq_of_beq_eq_true hl
          simp only [cond_true, Option.some.injEq] at h
          subst h
          obtain ⟨y, hy⟩ := hall fd (by simp)
          have h1 := hf _ _ _ _ ha hy
          have h2 := shpFs_ok hf fs _ _ hb fun fd' hfd => hall fd' (by simp [hfd])
          have e : (cs.drop o).take (a ++ b).length = (cs.drop fd.offset).take (P.cellsOf fd.type) ++ (cs.drop (o + P.cellsOf fd.type)).take b.length := by
            rw [List.length_append, List.take_add, List.drop_drop, ho, hl]
          rw [e]
          exact cellsIs_append h1 h2
      · cases h

theorem shpT_ok : ∀ (d : Nat) (t : TypeId) (sh : List Shp) (n : Nat) (cs : List Value) (x : DataW H × List MemPlace), shpT P d t = some sh → DataW.trod enc P w base sp held n t cs = some x → cellsIs sh cs
  | 0, t, sh, n, cs, x, h, _ => by simp [shpT] at h
  | d + 1, t, sh, n, cs, x, h, hx => by
    simp only [shpT] at h
    split at h
    · rename_i k hk
      injection h with h; subst h
      obtain ⟨m, rfl, _, hw⟩ := DataW.trod_int hk hx
      exact ⟨_, _, rfl, ⟨m, rfl, hw⟩, rfl⟩
    · rename_i hk
      injection h with h; subst h
      obtain ⟨b, rfl, _⟩ := DataW.trod_bool hk hx
      exact ⟨_, _, rfl, ⟨b, rfl⟩, rfl⟩
    · rename_i fs hk
      split at h
      · rename_i s hs
        cases hl : Nat.beq s.length (P.cellsOf t) with
        | false => rw [hl] at h; cases h
        | true =>
          rw [hl] at h
          have hl := Nat.eq_of_beq_eq_true hl
          simp only [cond_true, Option.some.injEq] at h
          subst h
          obtain ⟨xs, m, _, _, hlen, hxl, hf⟩ := DataW.trod_struct hk hx
          have := shpFs_ok (n := m) (cs := cs) (fun t' sh' cs' x' h1 h2 => shpT_ok d t' sh' m cs' x' h1 h2) fs.toList 0 s hs fun fd hfd => by
            obtain ⟨i, hi⟩ := List.getElem?_of_mem hfd
            have hi' : fs[i]? = some fd := by simpa using hi
            have h1 := hf i fd hi'
            have hlt : i < xs.length := by
              rw [hxl]
              rcases Nat.lt_or_ge i fs.size with h' | h'
              · exact h'
              · rw [Array.getElem?_eq_none h'] at hi'; cases hi'
            rw [List.getElem?_eq_getElem hlt] at h1
            exact ⟨_, h1⟩
          rw [List.drop_zero, hl, ← hlen, List.take_length] at this
          exact this
      · cases h
    · rename_i m e hk
      split at h
      · rename_i s hs
        cases hl : (Nat.beq s.length (P.cellsOf e) && Nat.beq (m * P.cellsOf e) (P.cellsOf t)) with
        | false => rw [hl] at h; cases h
        | true =>
          rw [hl] at h
          simp only [Bool.and_eq_true] at hl
          have hl1 := Nat.eq_of_beq_eq_true hl.1
          have hl2 := Nat.eq_of_beq_eq_true hl.2
          simp only [cond_true, Option.some.injEq] at h
          subst h
          obtain ⟨xs, q, _, _, hlen, hxl, hf⟩ := DataW.trod_array hk hx
          have key : ∀ (j i : Nat), i + j = m → cellsIs (reps s j) ((cs.drop (i * P.cellsOf e)).take (j * P.cellsOf e)) := by
            intro j
            induction j with
            | zero => intro i _; simp [reps, cellsIs]
            | succ j ih =>
              intro i hij
              have h1 := hf i (by omega)
              rw [List.getElem?_eq_getElem (by omega)] at h1
              have h2 := shpT_ok d e s q _ _ hs h1
              have h3 := ih (i + 1) (by omega)
              have e1 : (cs.drop (i * P.cellsOf e)).take ((j + 1) * P.cellsOf e) = (cs.drop (i * P.cellsOf e)).take (P.cellsOf e) ++ (cs.drop ((i + 1) * P.cellsOf e)).take (j * P.cellsOf e) := by
                rw [show (j + 1) * P.cellsOf e = P.cellsOf e + j * P.cellsOf e by rw [Nat.succ_mul]; omega, List.take_add, List.drop_drop, show i * P.cellsOf e + P.cellsOf e = (i + 1) * P.cellsOf e by rw [Nat.succ_mul]]
              rw [e1]
              exact cellsIs_append h2 h3
          have := key m 0 (by omega)
          rw [Nat.zero_mul, List.drop_zero, hl2, ← hlen, List.take_length] at this
          exact this
      · cases h
    · cases h

/-- A struct, or an array, by value. -/
theorem open_flat {r : Reach} {b0 : Nat} {t : TypeId} {v : Value} {dt : DataW H} {ps : List MemPlace} (d : Nat) (hs : (P.underlying t).any (fun | .struct _ => true | .array _ _ => true | _ => false) = true) {sh : List Shp} (hsh : shpT P d t = some sh)
    (hv : Value.okWide P w r b0 t v) (h : DataW.Trod enc P w base sp held t v dt ps) : ∃ vs : List Value, v = .agg vs.toArray ∧ cellsIs sh vs := by
  obtain ⟨fuel, hf⟩ := h
  have hc := shpT_ok d t sh fuel _ _ hsh hf
  unfold Value.okWide at hv
  cases hu : P.underlying t with
  | none => rw [hu] at hs; simp at hs
  | some ty =>
    rw [hu] at hs hv
    cases ty <;> simp at hs <;> (obtain ⟨cs, rfl, _, _⟩ := hv; exact ⟨cs.toList, by simp, hc⟩)

/-! ### Slices -/
def colOf : Shp → (Nat → Value) → Nat → Col
  | .int k, V, n => .ints k ((List.range n).map fun i => match V i with | .int _ x => x | _ => 0)
  | .bool, V, n => .bools ((List.range n).map fun i => match V i with | .bool b => b | _ => false)
theorem colOf_ok {s : Shp} {V : Nat → Value} {n : Nat} (h : ∀ i, i < n → vIs s (V i)) : colIs n s (colOf s V n) ∧ (colOf s V n).len = n ∧ ∀ i, i < n → (colOf s V n).at i = V i := by
  cases s with
  | int k =>
    refine ⟨⟨_, rfl, by simp, fun x hx => ?_⟩, by simp [colOf, Col.len], fun i hi => ?_⟩
    · obtain ⟨i, hi, rfl⟩ := List.mem_map.1 hx
      obtain ⟨y, hy, hw⟩ := h i (List.mem_range.1 hi)
      rw [hy]; exact hw
    · obtain ⟨y, hy, hw⟩ := h i hi
      simp [colOf, Col.at, hi, hy]
  | bool =>
    refine ⟨⟨_, rfl, by simp⟩, by simp [colOf, Col.len], fun i hi => ?_⟩
    obtain ⟨y, hy⟩ := h i hi
    simp [colOf, Col.at, hi, hy]
def colsSh : List Shp → Nat → (Nat → List Value) → Nat → List Col
  | [], _, _, _ => []
  | s :: r, j, cs, n => colOf s (fun i => (cs i).getD j undef) n :: colsSh r (j + 1) cs n
theorem colsSh_len : ∀ (sh : List Shp) (j : Nat) (cs : Nat → List Value) (n : Nat), (colsSh sh j cs n).length = sh.length
  | [], _, _, _ => rfl
  | _ :: r, j, cs, n => by simp only [colsSh, List.length_cons, colsSh_len r]
theorem colsSh_ok {cs : Nat → List Value} {n : Nat} : ∀ (sh : List Shp) (j : Nat), (∀ i, i < n → ∀ (m : Nat) s, sh[m]? = some s → vIs s ((cs i).getD (j + m) undef)) →
    colsIs n sh (colsSh sh j cs n) ∧ ∀ (m : Nat) c, (colsSh sh j cs n)[m]? = some c → c.len = n ∧ ∀ i, i < n → c.at i = (cs i).getD (j + m) undef
  | [], j, _ => ⟨rfl, fun m c h => by simp [colsSh] at h⟩
  | s :: r, j, h => by
    have h0 := colOf_ok (s := s) (V := fun i => (cs i).getD j undef) (n := n) fun i hi => h i hi 0 s rfl
    obtain ⟨h1, h2⟩ := colsSh_ok (cs := cs) (n := n) r (j + 1) fun i hi m s' hm => by
      have := h i hi (m + 1) s' (by simpa using hm)
      rwa [show j + (m + 1) = j + 1 + m by omega] at this
    refine ⟨⟨_, _, rfl, h0.1, h1⟩, fun m c hm => ?_⟩
    cases m with
    | zero => simp only [colsSh, List.getElem?_cons_zero, Option.some.injEq] at hm; subst hm; exact ⟨h0.2.1, h0.2.2⟩
    | succ m =>
      have := h2 m c (by simpa [colsSh] using hm)
      rwa [show j + 1 + m = j + (m + 1) by omega] at this

theorem cellOf_world (W : World) (a : Addr) : cellOf (fun b => W.heap[b]?) a = W.cell? a := rfl

theorem open_rows {r : Reach} {b0 : Nat} {t e : TypeId} {v : Value} {dt : DataW H} {ps : List MemPlace} (d : Nat) (ht : P.underlying t = some (.slice e)) {sh : List Shp} (hsh : shpT P d e = some sh) (hce : P.cellsOf e = sh.length)
    (hv : Value.okWide P w r b0 t v) (h : DataW.Trod enc P w base sp held t v dt ps) :
    ∃ (a : Option Addr) (len cap : Nat) (cols : List Col), v = .slice a len cap ∧ colsIs len sh cols ∧ (RowAt (fun b => w.heap[b]?) a len cols ∧ len ≤ cap) := by
  obtain ⟨a0, len0, cap0, rfl⟩ := okWide_slice ht hv
  obtain ⟨fuel, hf⟩ := h
  rcases Go.Deep.open_slice ht hf with ⟨hcs, _⟩ | ⟨a, len, cap, m, n, Dt, Pl, hcs, hb, hl, hm, hmm, _, hx⟩
  · simp only [Value.cells, List.cons.injEq, and_true] at hcs
    injection hcs with e1 e2 e3
    subst e1; subst e2; subst e3
    obtain ⟨h1, h2⟩ := colsSh_ok (cs := fun _ => []) (n := 0) sh 0 fun i hi => absurd hi (Nat.not_lt_zero _)
    refine ⟨none, 0, 0, _, rfl, h1, ⟨fun c hc => ?_, fun i hi => absurd hi (Nat.not_lt_zero _), Nat.zero_le _⟩, Nat.le_refl _⟩
    obtain ⟨k, hk⟩ := List.getElem?_of_mem hc
    exact (h2 k c hk).1
  · simp only [Value.cells, List.cons.injEq, and_true] at hcs
    injection hcs with e1 e2 e3
    subst e1; subst e2; subst e3
    have hml : len0 ≤ m := by rw [hmm]; split <;> omega
    obtain ⟨cs, hcs⟩ := Go.Deep.choose_lt (α := List Value) (p := fun i cs' => w.cells? base (a.add (i * P.cellsOf e)) (P.cellsOf e) = some cs' ∧ DataW.trod enc P w base sp held n e cs' = some (Dt i, Pl i)) (n := len0) fun i hi => hx i (by omega)
    have hcells : ∀ i, i < len0 → cellsIs sh (cs i) := fun i hi => shpT_ok d e sh n _ _ hsh (hcs i hi).2
    obtain ⟨h1, h2⟩ := colsSh_ok (cs := cs) (n := len0) sh 0 fun i hi k s hk => by
      obtain ⟨x, hx1, hx2⟩ := cellsIs_get (hcells i hi) k s hk
      rw [Nat.zero_add, List.getD_eq_getElem?_getD, hx1]
      exact hx2
    refine ⟨some a, len0, cap0, _, rfl, h1, ⟨fun c hc => ?_, fun i hi => ⟨a, rfl, fun j c hj => ?_⟩, by omega⟩, by omega⟩
    · obtain ⟨k, hk⟩ := List.getElem?_of_mem hc
      exact (h2 k c hk).1
    · obtain ⟨_, hlen, hget⟩ := World.cells?_some (hcs i hi).1
      have hj' : j < sh.length := by
        have := lt_of_get hj
        rwa [colsSh_len] at this
      rw [cellOf_world, colsSh_len, ← hce, ← Go.Deep.add_add, hget j (by omega), (h2 j c hj).2 i hi, Nat.zero_add, List.getD_eq_getElem?_getD]
      rw [List.getElem?_eq_getElem (by omega)]
      rfl
end
end Go.Sl

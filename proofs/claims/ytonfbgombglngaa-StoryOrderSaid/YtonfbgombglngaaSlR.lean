/-
  DERIVED. Regions whose order is drawn, and whose last operation, behind all others, makes or writes memory. No program is named.
-/
import Derived.Test.YtonfbgombglngaaSlF
namespace Go.Sl
open Go.RowKit

section
variable {ops : Array Oper} {m : Nat}
theorem nopAt_ne {i : Nat} (h : i ≠ m) : (nopAt ops m)[i]? = ops[i]? := by
  unfold nopAt
  split
  · rw [Array.getElem?_setIfInBounds]; simp [Ne.symm h]
  · rfl
theorem nopAt_size : (nopAt ops m).size = ops.size := by
  unfold nopAt
  split <;> simp
theorem nopAt_self {o : Oper} (h : ops[m]? = some o) : (nopAt ops m)[m]? = some (nopOf o) := by
  unfold nopAt
  rw [h]
  have hl : m < ops.size := by
    rcases Nat.lt_or_ge m ops.size with h' | h'
    · exact h'
    · rw [Array.getElem?_eq_none h'] at h; cases h
  simp [hl]
theorem ready_nop (listed : Array Bool) : Region.ready .any (nopAt ops m) listed = Region.ready .any ops listed := by
  unfold Region.ready
  rw [nopAt_size]
  apply List.filter_congr
  intro i _
  by_cases h : i = m
  · subst h
    cases ho : ops[i]? with
    | none =>
      have : nopAt ops i = ops := by unfold nopAt; rw [ho]
      rw [this, ho]
    | some o => rw [nopAt_self ho]; rfl
  · rw [nopAt_ne h]
theorem ready_mem {md : Region.Mode} {listed : Array Bool} {i : Nat} : i ∈ Region.ready md ops listed ↔ i < ops.size ∧ listed.getD i true = false ∧ ((ops[i]?).map (·.after.all fun e => !Region.binds md e || listed.getD e.on false)).getD false = true := by
  unfold Region.ready
  simp [List.mem_filter]
theorem getD_both {l : Array Bool} {i : Nat} (h : i < l.size) (x y : Bool) : l.getD i x = l.getD i y := by
  simp [Array.getD, h]
/-- Where nothing is ready, all are listed. -/
theorem ready_nil {listed : Array Bool} (hdep : (List.range ops.size).all (fun i => ((ops[i]?).map (·.after.all fun e => !Region.binds .any e || Nat.blt e.on i)).getD false) = true) (hs : listed.size = ops.size) (h : Region.ready .any ops listed = []) :
    ∀ i, i < ops.size → listed.getD i true = true := by
  intro i
  induction i using Nat.strongRecOn with
  | _ i ih =>
    intro hi
    cases hl : listed.getD i true with
    | true => rfl
    | false =>
      exfalso
      have hd := (List.all_eq_true.1 hdep) i (List.mem_range.2 hi)
      have ho : ops[i]? = some ops[i] := Array.getElem?_eq_getElem hi
      rw [ho] at hd
      simp only [Option.map_some, Option.getD_some] at hd
      have : i ∈ Region.ready .any ops listed := by
        rw [ready_mem]
        refine ⟨hi, hl, ?_⟩
        rw [ho]
        simp only [Option.map_some, Option.getD_some]
        rw [Array.all_eq_true_iff_forall_mem] at hd ⊢
        intro e he
        have := hd e he
        cases hb : Region.binds .any e with
        | false => simp
        | true =>
          rw [hb] at this
          simp only [Bool.not_true, Bool.false_or] at this ⊢
          have hlt : e.on < i := Nat.lt_of_lt_of_eq (Nat.le_of_ble_eq_true this) rfl
          rw [getD_both (by omega) false true]
          exact ih e.on hlt (by omega)
      rw [h] at this
      cases this
theorem go_nil {md : Region.Mode} {listed : Array Bool} (h : Region.ready md ops listed = []) : ∀ fuel t, Region.linearise.go md ops fuel t listed [] = []
  | 0, t => rfl
  | fuel + 1, t => by
    simp only [Region.linearise.go]
    change (match (Region.ready md ops listed)[t % (Region.ready md ops listed).length]? with
      | some i => Region.linearise.go md ops fuel (t / (Region.ready md ops listed).length) (listed.setIfInBounds i true) [i]
      | none => [].reverse) = _
    rw [h]; rfl
theorem wanted_nop {o : Oper} {tm : Array Value} (hg : ∀ j b, o.guard = some (j, b) → j ≠ m) : Region.wanted o (yielded (nopAt ops m) tm) = Region.wanted o (yielded ops tm) := by
  unfold Region.wanted
  split
  · rfl
  · rename_i j b hj
    have := hg j b hj
    simp only [yielded, nopAt_ne this]

theorem go_last {P : Program} {f : FuncId} {R : Ending → World → Prop} {k : List Item} {C : World → Prop} {Q0 : Act → Prop} (hB : lastB ops m = true) (Hlast : ∀ a w, Q0 a → C w → WT P f R (.inRegion ops [m] :: k) a w) :
    ∀ (fuel t : Nat) (listed : Array Bool) (a : Act) (w : World), listed.size = ops.size → listed.getD m true = false → C w → wpAnyQ P .any (nopAt ops m) C Q0 fuel listed a →
      WT P f R (.inRegion ops (Region.linearise.go .any ops fuel t listed []) :: k) a w := by
  unfold lastB at hB
  split at hB
  · rename_i om hom
    simp only [Bool.and_eq_true] at hB
    obtain ⟨⟨⟨⟨⟨b1, b2⟩, b3⟩, b4⟩, b5⟩, b6⟩ := hB
    have hsz := Nat.eq_of_beq_eq_true b1
    have hng : om.guard = none := by simpa using b2
    have hgd : ∀ (i : Nat) (o : Oper), ops[i]? = some o → ∀ j b, o.guard = some (j, b) → j ≠ m := fun i o ho j b hj e => by
      rw [Array.all_eq_true_iff_forall_mem] at b4
      have := b4 o (Array.mem_of_getElem? ho)
      rw [hj, e] at this
      simp at this
    have never : ∀ listed : Array Bool, listed.size = ops.size → listed.getD m true = false → Region.ready .any ops listed ≠ [] := fun listed hs hm h => by
      have := ready_nil b5 hs h m (by omega)
      rw [this] at hm; cases hm
    intro fuel
    induction fuel with
    | zero =>
      intro t listed a w hs hm hC h
      have := h.1
      rw [ready_nop] at this
      exact absurd this (never listed hs hm)
    | succ fuel ih =>
      intro t listed a w hs hm hC h
      obtain ⟨_, h1⟩ := h
      rw [ready_nop] at h1
      simp only [Region.linearise.go]
      change WT P f R (.inRegion ops (match (Region.ready .any ops listed)[t % (Region.ready .any ops listed).length]? with
        | some i => Region.linearise.go .any ops fuel (t / (Region.ready .any ops listed).length) (listed.setIfInBounds i true) [i]
        | none => [].reverse) :: k) a w
      cases hi : (Region.ready .any ops listed)[t % (Region.ready .any ops listed).length]? with
      | none =>
        exfalso
        cases hr : Region.ready .any ops listed with
        | nil => exact never listed hs hm hr
        | cons x xs =>
          rw [hr] at hi
          have hlt : t % (x :: xs).length < (x :: xs).length := Nat.mod_lt _ (by simp)
          rw [List.getElem?_eq_getElem hlt] at hi; cases hi
      | some i =>
        have him := List.mem_of_getElem? hi
        dsimp only
        rw [linearise_go_acc, List.reverse_singleton, List.singleton_append]
        have hq := h1 i him
        obtain ⟨r1, r2, r3⟩ := ready_mem.1 him
        by_cases hk : i = m
        · subst hk
          -- all others are listed
          have hall : ∀ j, j < i → listed.getD j true = true := fun j hj => by
            have hj3 := (List.all_eq_true.1 b3) j (List.mem_range.2 hj)
            rw [Array.any_eq_true] at hj3
            obtain ⟨q, hq', hej⟩ := hj3
            have he : om.after[q] ∈ om.after := Array.getElem_mem hq'
            generalize om.after[q] = e at he hej
            simp only [Bool.and_eq_true] at hej
            rw [hom] at r3
            simp only [Option.map_some, Option.getD_some] at r3
            rw [Array.all_eq_true_iff_forall_mem] at r3
            have := r3 e he
            rw [hej.1, Nat.eq_of_beq_eq_true hej.2] at this
            simp only [Bool.not_true, Bool.false_or] at this
            rw [getD_both (by omega) true false]; exact this
          have hnil : Region.ready .any ops (listed.setIfInBounds i true) = [] := by
            cases hr : Region.ready .any ops (listed.setIfInBounds i true) with
            | nil => rfl
            | cons x xs =>
              have hx : x ∈ Region.ready .any ops (listed.setIfInBounds i true) := by rw [hr]; simp
              obtain ⟨q1, q2, _⟩ := ready_mem.1 hx
              exfalso
              have hxi : x < (listed.setIfInBounds i true).size := by simp; omega
              by_cases hxe : x = i
              · subst hxe
                simp [Array.getD, show x < listed.size by omega] at q2
              · have := hall x (by omega)
                rw [Array.getD_eq_getD_getElem?] at q2 this
                rw [Array.getElem?_setIfInBounds] at q2
                simp only [Ne.symm hxe, if_false] at q2
                rw [this] at q2; cases q2
          rw [go_nil hnil]
          unfold qOp at hq
          rw [nopAt_self hom] at hq
          simp only at hq
          have hw : Region.wanted (nopOf om) (yielded (nopAt ops i) a.tmps) = true := by
            unfold Region.wanted nopOf
            simp only [hng]
          rw [hw] at hq
          simp only [if_true] at hq
          obtain ⟨v, _, hq⟩ := hq
          have hput : a.put (nopOf om).dst v = a := rfl
          rw [hput] at hq
          refine Hlast a w ?_ hC
          cases fuel with
          | zero => exact hq.2
          | succ fuel => exact hq.1 (by rw [ready_nop]; exact hnil)
        · have ho : ops[i]? = some ops[i] := Array.getElem?_eq_getElem r1
          generalize ops[i] = o at ho
          have hs' : (listed.setIfInBounds i true).size = ops.size := by simpa using hs
          have hm' : (listed.setIfInBounds i true).getD m true = false := by
            rw [Array.getD_eq_getD_getElem?, Array.getElem?_setIfInBounds] 
            simp only [hk, if_false]
            rw [← Array.getD_eq_getD_getElem?]; exact hm
          unfold qOp at hq
          rw [nopAt_ne hk, ho] at hq
          simp only at hq
          rw [wanted_nop (hgd i o ho)] at hq
          cases hw : Region.wanted o (yielded ops a.tmps) with
          | true =>
            rw [hw] at hq
            simp only [if_true] at hq
            obtain ⟨v, hv, hq⟩ := hq
            exact WT.op ho hw (hv w hC) hC fun w' hC' => ih _ _ _ w' hs' hm' hC' hq
          | false =>
            rw [hw] at hq
            simp only [Bool.false_eq_true, if_false] at hq
            exact WT.op_skip ho hw (ih _ _ _ w hs' hm' hC hq)
  · cases hB
end

/-- A region whose order is drawn: all but the last are quiet. -/
theorem WT.region_last {P : Program} {f : FuncId} {R : Ending → World → Prop} {k : List Item} {C : World → Prop} {Q0 : Act → Prop} {ops : Array Oper} {m id : Nat} {a : Act} {w : World} (hm : P.follows .mixedOrders = true) (hB : lastB ops m = true) (hC : C { w with drawn := w.drawn + 1 })
    (Hlast : ∀ a w, Q0 a → C w → WT P f R (.inRegion ops [m] :: k) a w) (h : wpQuiet P (nopAt ops m) C Q0 (nopAt ops m).toList a) : WT P f R (.code (.region id ops true) :: k) a w := by
  refine WT.step (fun cs => step_region_draw) ?_
  simp only [Region.schedule, hm, Bool.true_or, if_true]
  have hB2 := hB
  unfold lastB at hB2
  split at hB2
  · simp only [Bool.and_eq_true] at hB2
    have hlex := hB2.2
    have hsz := Nat.eq_of_beq_eq_true hB2.1.1.1.1.1
    simp only [Region.lexB, Bool.and_eq_true] at hlex
    have h2 := wpAnyQ_lex (C := C) (md := .any) hlex.1 (nopAt ops m).toList 0 (Array.replicate (nopAt ops m).size false) a (by simp) (by simpa using hlex.2) h
    simp only [Array.length_toList, nopAt_size] at h2
    exact go_last hB Hlast ops.size _ _ a _ (by simp) (by simp [Array.getD, hsz]) hC h2
  · cases hB2

/-! ### Regions that end in a chain -/
section
variable {ops : Array Oper} {m u : Nat}
theorem nopFrom_size : (nopFrom ops m).size = ops.size := by simp [nopFrom]
theorem nopFrom_get (i : Nat) : (nopFrom ops m)[i]? = (ops[i]?).map fun o => bif Nat.ble m i then nopOf o else o := by
  unfold nopFrom
  rw [Array.getElem?_mapIdx]
theorem ready_nopFrom (listed : Array Bool) : Region.ready .any (nopFrom ops m) listed = Region.ready .any ops listed := by
  unfold Region.ready
  rw [nopFrom_size]
  apply List.filter_congr
  intro i _
  rw [nopFrom_get]
  cases ops[i]? with
  | none => rfl
  | some o =>
    simp only [Option.map_some]
    cases Nat.ble m i <;> rfl
theorem depsOf_mem {i j : Nat} {o : Oper} (ho : ops[i]? = some o) : j ∈ depsOf ops i ↔ ∃ e ∈ o.after, Region.binds .any e = true ∧ e.on = j := by
  unfold depsOf
  rw [ho]
  simp [List.mem_map, List.mem_filter, and_assoc]
/-- What an operation that is ready waits for is listed. -/
theorem ready_deps {listed : Array Bool} {i j : Nat} (h : i ∈ Region.ready .any ops listed) (hj : j ∈ depsOf ops i) : listed.getD j false = true := by
  obtain ⟨h1, _, h3⟩ := ready_mem.1 h
  have ho : ops[i]? = some ops[i] := Array.getElem?_eq_getElem h1
  rw [ho] at h3
  simp only [Option.map_some, Option.getD_some] at h3
  obtain ⟨e, he, hb, rfl⟩ := (depsOf_mem ho).1 hj
  rw [Array.all_eq_true_iff_forall_mem] at h3
  have := h3 e he
  rw [hb] at this
  simpa using this
def Closed (ops : Array Oper) (listed : Array Bool) : Prop := ∀ i, listed.getD i false = true → ∀ j ∈ depsOf ops i, listed.getD j false = true
theorem sweep_listed {listed : Array Bool} (hc : Closed ops listed) : ∀ (j : Nat) (S : List Nat), (∀ s ∈ S, listed.getD s false = true) → ∀ s ∈ sweep ops j S, listed.getD s false = true
  | 0, S, h, s, hs => h s hs
  | j + 1, S, h, s, hs => by
    simp only [sweep] at hs
    refine sweep_listed hc j _ ?_ s hs
    intro x hx
    cases hb : S.any (Nat.beq j) with
    | false => rw [hb] at hx; exact h x hx
    | true =>
      rw [hb] at hx
      simp only [cond_true, List.mem_append] at hx
      rcases hx with hx | hx
      · rw [List.any_eq_true] at hb
        obtain ⟨y, hy, e⟩ := hb
        have := Nat.eq_of_beq_eq_true e
        subst this
        exact hc j (h _ hy) x hx
      · exact h x hx
theorem set_listed {listed : Array Bool} {i j : Nat} (hi : i < listed.size) (d : Bool) : (listed.setIfInBounds i true).getD j d = if j = i then true else listed.getD j d := by
  rw [Array.getD_eq_getD_getElem?, Array.getElem?_setIfInBounds]
  by_cases h : j = i
  · subst h; simp [hi]
  · rw [if_neg h, if_neg (Ne.symm h), Array.getD_eq_getD_getElem?]
theorem Closed.set {listed : Array Bool} (hc : Closed ops listed) {i : Nat} (hi : i ∈ Region.ready .any ops listed) (hs : listed.size = ops.size) : Closed ops (listed.setIfInBounds i true) := by
  have hlt : i < listed.size := by rw [hs]; exact (ready_mem.1 hi).1
  intro x hx j hj
  rw [set_listed hlt] at hx ⊢
  by_cases hji : j = i
  · rw [if_pos hji]
  · rw [if_neg hji]
    by_cases hxi : x = i
    · subst hxi; exact ready_deps hi hj
    · rw [if_neg hxi] at hx; exact hc x hx j hj
/-- Only operations are left that do nothing. -/
theorem nops_end {P : Program} {C : World → Prop} {Q0 : Act → Prop} {W : World} {ops : Array Oper} : ∀ (fuel : Nat) (listed : Array Bool) (a : Act), listed.size = ops.size →
    (∀ i, i < ops.size → listed.getD i true = false → ∃ o, ops[i]? = some (nopOf o) ∧ o.guard = none) → wpAnyQ P .any ops C Q0 fuel listed a → Q0 a
  | 0, listed, a, _, _, h => h.2
  | fuel + 1, listed, a, hs, hn, h => by
    cases hr : Region.ready .any ops listed with
    | nil => exact h.1 hr
    | cons i r =>
      have him : i ∈ Region.ready .any ops listed := by rw [hr]; simp
      obtain ⟨h1, h2, _⟩ := ready_mem.1 him
      obtain ⟨o, ho, hg⟩ := hn i h1 h2
      have hq := h.2 i him
      unfold qOp at hq
      rw [ho] at hq
      simp only at hq
      have hw : Region.wanted (nopOf o) (yielded ops a.tmps) = true := by
        unfold Region.wanted nopOf
        simp only [hg]
      rw [hw] at hq
      simp only [if_true] at hq
      obtain ⟨v, _, hq⟩ := hq
      have hput : a.put (nopOf o).dst v = a := rfl
      rw [hput] at hq
      refine nops_end (W := W) fuel _ a (by simpa using hs) (fun j hj hl => ?_) hq
      rw [set_listed (by omega)] at hl
      by_cases hji : j = i
      · rw [if_pos hji] at hl; cases hl
      · rw [if_neg hji] at hl; exact hn j hj hl

structure TailOk (ops : Array Oper) (u m : Nat) : Prop where
  ms : m < ops.size
  cover : ∀ i, i < m → i = u ∨ i ∈ reached ops m
  chain : ∀ i, m < i → i < ops.size → i - 1 ∈ depsOf ops i
  late : u = ops.size ∨ (u ∈ depsOf ops (m + 1) ∧ u < m)
  gd : ∀ (i : Nat) (o : Oper), ops[i]? = some o → ∀ j b, o.guard = some (j, b) → j < m
  ng : ∀ (i : Nat) (o : Oper), ops[i]? = some o → m ≤ i ∨ i = u → o.guard = none
  dep : (List.range ops.size).all (fun i => ((ops[i]?).map (·.after.all fun e => !Region.binds .any e || Nat.blt e.on i)).getD false) = true
  lex : Region.lexB .any (nopFrom ops m) = true
theorem tail_ok (h : tailOk ops u m = true) : TailOk ops u m := by
  unfold tailOk at h
  simp only [Bool.and_eq_true] at h
  obtain ⟨h1, h2, h3, h4, h5, h6, h7, h8⟩ := h
  refine ⟨Nat.le_of_ble_eq_true h1, fun i hi => ?_, fun i hi hs => ?_, ?_, fun i o ho j b hj => ?_, fun i o ho hi => ?_, h7, h8⟩
  · have := (List.all_eq_true.1 h2) i (List.mem_range.2 hi)
    simp only [Bool.or_eq_true] at this
    rcases this with e | e
    · exact .inl (Nat.eq_of_beq_eq_true e)
    · rw [List.any_eq_true] at e
      obtain ⟨y, hy, e⟩ := e
      rw [Nat.eq_of_beq_eq_true e]
      exact .inr hy
  · have := (List.all_eq_true.1 h3) i (List.mem_range.2 hs)
    simp only [Bool.or_eq_true] at this
    rcases this with e | e
    · have := Nat.le_of_ble_eq_true e; omega
    · rw [List.any_eq_true] at e
      obtain ⟨y, hy, e⟩ := e
      rw [Nat.eq_of_beq_eq_true e]
      exact hy
  · simp only [Bool.or_eq_true, Bool.and_eq_true] at h4
    rcases h4 with e | ⟨e, e2⟩
    · exact .inl (Nat.eq_of_beq_eq_true e)
    · rw [List.any_eq_true] at e
      obtain ⟨y, hy, e⟩ := e
      have := Nat.eq_of_beq_eq_true e
      subst this
      exact .inr ⟨hy, Nat.le_of_ble_eq_true e2⟩
  · rw [Array.all_eq_true_iff_forall_mem] at h5
    have := h5 o (Array.mem_of_getElem? ho)
    rw [hj] at this
    exact Nat.le_of_ble_eq_true this
  · have hlt : i < ops.size := by
      rcases Nat.lt_or_ge i ops.size with h' | h'
      · exact h'
      · rw [Array.getElem?_eq_none h'] at ho; cases ho
    have := (List.all_eq_true.1 h6) i (List.mem_range.2 hlt)
    simp only [Bool.or_eq_true, Bool.and_eq_true] at this
    rcases this with ⟨e1, e2⟩ | e
    · exfalso
      have e1 : i < m := Nat.le_of_ble_eq_true e1
      rcases hi with hi | hi
      · omega
      · subst hi
        simp at e2
    · rw [ho] at e
      simpa using e
theorem depsOf_lt (hdep : (List.range ops.size).all (fun i => ((ops[i]?).map (·.after.all fun e => !Region.binds .any e || Nat.blt e.on i)).getD false) = true) {i j : Nat} (hj : j ∈ depsOf ops i) : j < i ∧ i < ops.size := by
  have hi : i < ops.size := by
    rcases Nat.lt_or_ge i ops.size with h' | h'
    · exact h'
    · unfold depsOf at hj; rw [Array.getElem?_eq_none h'] at hj; cases hj
  have ho : ops[i]? = some ops[i] := Array.getElem?_eq_getElem hi
  have hd := (List.all_eq_true.1 hdep) i (List.mem_range.2 hi)
  rw [ho] at hd
  simp only [Option.map_some, Option.getD_some] at hd
  obtain ⟨e, he, hb, rfl⟩ := (depsOf_mem ho).1 hj
  rw [Array.all_eq_true_iff_forall_mem] at hd
  have := hd e he
  rw [hb] at this
  simp only [Bool.not_true, Bool.false_or] at this
  exact ⟨Nat.le_of_ble_eq_true this, hi⟩
theorem ready_of {listed : Array Bool} {i : Nat} (hi : i < ops.size) (h : listed.getD i true = false) (hd : ∀ j ∈ depsOf ops i, listed.getD j false = true) : i ∈ Region.ready .any ops listed := by
  have ho : ops[i]? = some ops[i] := Array.getElem?_eq_getElem hi
  rw [ready_mem]
  refine ⟨hi, h, ?_⟩
  rw [ho]
  simp only [Option.map_some, Option.getD_some]
  rw [Array.all_eq_true_iff_forall_mem]
  intro e he
  cases hb : Region.binds .any e with
  | false => simp
  | true =>
    simp only [Bool.not_true, Bool.false_or]
    exact hd _ ((depsOf_mem ho).2 ⟨e, he, hb, rfl⟩)
/-- Just one operation is ready. -/
theorem ready_one {listed : Array Bool} {i : Nat} (h : i ∈ Region.ready .any ops listed) (h1 : ∀ j ∈ Region.ready .any ops listed, j = i) : Region.ready .any ops listed = [i] := by
  have hn : (Region.ready .any ops listed).Nodup := List.Nodup.sublist List.filter_sublist List.nodup_range
  cases hr : Region.ready .any ops listed with
  | nil => rw [hr] at h; cases h
  | cons x xs =>
    have hx : x = i := h1 x (by rw [hr]; simp)
    subst hx
    cases xs with
    | nil => rfl
    | cons y ys =>
      have hy : y = x := h1 y (by rw [hr]; simp)
      subst hy
      rw [hr] at hn
      simp at hn
theorem go_one {listed : Array Bool} {i : Nat} (h : Region.ready .any ops listed = [i]) (fuel t : Nat) : Region.linearise.go .any ops (fuel + 1) t listed [] = i :: Region.linearise.go .any ops fuel t (listed.setIfInBounds i true) [] := by
  simp only [Region.linearise.go]
  change (match (Region.ready .any ops listed)[t % (Region.ready .any ops listed).length]? with
    | some i => Region.linearise.go .any ops fuel (t / (Region.ready .any ops listed).length) (listed.setIfInBounds i true) [i]
    | none => [].reverse) = _
  rw [h]
  simp only [List.length_singleton, Nat.mod_one, Nat.div_one, List.getElem?_cons_zero]
  rw [linearise_go_acc, List.reverse_singleton, List.singleton_append]
/-- The chain goes in its order. -/
theorem go_chain {P : Program} {C : World → Prop} {Q0 : Act → Prop} (hT : TailOk ops u m) {a : Act} : ∀ (fuel t j : Nat) (listed : Array Bool), listed.size = ops.size → m < j → (∀ i, i < ops.size → listed.getD i true = decide (i < j)) →
    wpAnyQ P .any (nopFrom ops m) C Q0 fuel listed a → Region.linearise.go .any ops fuel t listed [] = List.range' j (ops.size - j) := by
  intro fuel
  induction fuel with
  | zero =>
    intro t j listed hs hj hl h
    have hr := h.1
    rw [ready_nopFrom] at hr
    have : ops.size ≤ j := by
      rcases Nat.lt_or_ge j ops.size with h' | h'
      · have := ready_nil hT.dep hs hr j h'
        rw [hl j h'] at this
        simp at this
      · exact h'
    rw [show ops.size - j = 0 by omega]
    rfl
  | succ fuel ih =>
    intro t j listed hs hj hl h
    rcases Nat.lt_or_ge j ops.size with hjs | hjs
    · have hfl : ∀ i, i < ops.size → listed.getD i false = decide (i < j) := fun i hi => by rw [getD_both (by omega) false true]; exact hl i hi
      have hjr : j ∈ Region.ready .any ops listed := ready_of hjs (by rw [hl j hjs]; simp) fun d hd => by
        obtain ⟨d1, d2⟩ := depsOf_lt hT.dep hd
        rw [hfl d (by omega)]
        simpa using d1
      have hone := ready_one hjr fun i hi => by
        obtain ⟨q1, q2, _⟩ := ready_mem.1 hi
        rw [hl i q1] at q2
        have hge : j ≤ i := by simpa using q2
        rcases Nat.lt_or_ge j i with hlt | hge'
        · exfalso
          have := ready_deps hi (hT.chain i (by omega) q1)
          rw [hfl (i - 1) (by omega)] at this
          simp at this
          omega
        · omega
      rw [go_one hone, range'_drop hjs]
      congr 1
      have hq := h.2 j (by rw [ready_nopFrom]; exact hjr)
      unfold qOp at hq
      have ho : ops[j]? = some ops[j] := Array.getElem?_eq_getElem hjs
      rw [nopFrom_get, ho] at hq
      have hb : Nat.ble m j = true := Nat.ble_eq_true_of_le (by omega)
      simp only [Option.map_some, hb, cond_true] at hq
      have hng := hT.ng j _ ho (.inl (by omega))
      have hw : Region.wanted (nopOf ops[j]) (yielded (nopFrom ops m) a.tmps) = true := by
        unfold Region.wanted nopOf
        simp only [hng]
      rw [hw] at hq
      simp only [if_true] at hq
      obtain ⟨v, _, hq⟩ := hq
      have hput : a.put (nopOf ops[j]).dst v = a := rfl
      rw [hput] at hq
      refine ih t (j + 1) _ (by simpa using hs) (by omega) (fun i hi => ?_) hq
      rw [set_listed (by omega), hl i hi]
      by_cases hij : i = j
      · subst hij; simp
      · rw [if_neg hij]
        apply Bool.eq_iff_iff.2
        simp only [decide_eq_true_eq]
        omega
    · have hnil : Region.ready .any ops listed = [] := by
        cases hr : Region.ready .any ops listed with
        | nil => rfl
        | cons x xs =>
          have hx : x ∈ Region.ready .any ops listed := by rw [hr]; simp
          obtain ⟨q1, q2, _⟩ := ready_mem.1 hx
          rw [hl x q1] at q2
          simp at q2
          omega
      rw [go_nil hnil, show ops.size - j = 0 by omega]
      rfl
theorem wanted_nopFrom {o : Oper} {tm : Array Value} (hg : ∀ j b, o.guard = some (j, b) → j < m) : Region.wanted o (yielded (nopFrom ops m) tm) = Region.wanted o (yielded ops tm) := by
  unfold Region.wanted
  split
  · rfl
  · rename_i j b hj
    have := hg j b hj
    have hb : Nat.ble m j = false := by
      cases hb : Nat.ble m j with
      | false => rfl
      | true => have := Nat.le_of_ble_eq_true hb; omega
    have e : (nopFrom ops m)[j]? = ops[j]? := by
      rw [nopFrom_get, hb]
      cases ops[j]? <;> rfl
    simp only [yielded, e]
theorem go_tail {P : Program} {f : FuncId} {R : Ending → World → Prop} {k : List Item} {C : World → Prop} {Q0 : Act → Prop} (hT : TailOk ops u m) (HA : ∀ a w, Q0 a → C w → WT P f R (.inRegion ops (List.range' m (ops.size - m)) :: k) a w)
    (HB : ∀ o, ops[u]? = some o → ∀ a w v, Q0 (a.put o.dst v) → C w → WT P f R (.inRegion ops (m :: u :: List.range' (m + 1) (ops.size - (m + 1))) :: k) a w) :
    ∀ (fuel t : Nat) (listed : Array Bool) (a : Act) (w : World), listed.size = ops.size → (∀ i, m ≤ i → i < ops.size → listed.getD i true = false) → Closed ops listed → C w → wpAnyQ P .any (nopFrom ops m) C Q0 fuel listed a →
      WT P f R (.inRegion ops (Region.linearise.go .any ops fuel t listed []) :: k) a w := by
  have hms := hT.ms
  have never : ∀ listed : Array Bool, listed.size = ops.size → (∀ i, m ≤ i → i < ops.size → listed.getD i true = false) → Region.ready .any ops listed ≠ [] := fun listed hs hm h => by
    have := ready_nil hT.dep hs h m hms
    rw [hm m (Nat.le_refl _) hms] at this; cases this
  intro fuel
  induction fuel with
  | zero =>
    intro t listed a w hs hm hcl hC h
    have := h.1
    rw [ready_nopFrom] at this
    exact absurd this (never listed hs hm)
  | succ fuel ih =>
    intro t listed a w hs hm hcl hC h
    have h0 := h
    obtain ⟨_, h1⟩ := h
    rw [ready_nopFrom] at h1
    simp only [Region.linearise.go]
    change WT P f R (.inRegion ops (match (Region.ready .any ops listed)[t % (Region.ready .any ops listed).length]? with
      | some i => Region.linearise.go .any ops fuel (t / (Region.ready .any ops listed).length) (listed.setIfInBounds i true) [i]
      | none => [].reverse) :: k) a w
    cases hi : (Region.ready .any ops listed)[t % (Region.ready .any ops listed).length]? with
    | none =>
      exfalso
      cases hr : Region.ready .any ops listed with
      | nil => exact never listed hs hm hr
      | cons x xs =>
        rw [hr] at hi
        have hlt : t % (x :: xs).length < (x :: xs).length := Nat.mod_lt _ (by simp)
        rw [List.getElem?_eq_getElem hlt] at hi; cases hi
    | some i =>
      have him := List.mem_of_getElem? hi
      dsimp only
      rw [linearise_go_acc, List.reverse_singleton, List.singleton_append]
      have hq := h1 i him
      obtain ⟨r1, r2, r3⟩ := ready_mem.1 him
      have ho : ops[i]? = some ops[i] := Array.getElem?_eq_getElem r1
      have hs' : (listed.setIfInBounds i true).size = ops.size := by simpa using hs
      rcases Nat.lt_or_ge i m with hlm | hge
      · -- one ahead of the chain
        generalize ops[i] = o at ho
        have hm' : ∀ x, m ≤ x → x < ops.size → (listed.setIfInBounds i true).getD x true = false := fun x hx hxs => by
          rw [set_listed (by omega), if_neg (by omega)]; exact hm x hx hxs
        have hb : Nat.ble m i = false := by
          cases hb : Nat.ble m i with
          | false => rfl
          | true => have := Nat.le_of_ble_eq_true hb; omega
        unfold qOp at hq
        rw [nopFrom_get, ho] at hq
        simp only [Option.map_some, hb, cond_false] at hq
        rw [wanted_nopFrom (hT.gd i o ho)] at hq
        cases hw : Region.wanted o (yielded ops a.tmps) with
        | true =>
          rw [hw] at hq
          simp only [if_true] at hq
          obtain ⟨v, hv, hq⟩ := hq
          exact WT.op ho hw (hv w hC) hC fun w' hC' => ih _ _ _ w' hs' hm' (hcl.set him hs) hC' hq
        | false =>
          rw [hw] at hq
          simp only [Bool.false_eq_true, if_false] at hq
          exact WT.op_skip ho hw (ih _ _ _ w hs' hm' (hcl.set him hs) hC hq)
      · have him2 : i = m := by
          rcases Nat.lt_or_ge m i with hlt | _
          · exfalso
            have := ready_deps him (hT.chain i hlt r1)
            rw [getD_both (by omega) false true, hm (i - 1) (by omega) (by omega)] at this
            cases this
          · omega
        subst him2
        -- all others but the late one are listed
        have hall : ∀ j, j < i → j ≠ u → listed.getD j true = true := fun j hj hju => by
          rcases hT.cover j hj with e | e
          · exact absurd e hju
          · have := sweep_listed hcl i (depsOf ops i) (fun s hs => ready_deps him hs) j e
            rw [getD_both (by omega) true false]; exact this
        -- the chain's first one does nothing there
        have hnop : ∀ j, i ≤ j → j < ops.size → ∃ o, (nopFrom ops i)[j]? = some (nopOf o) ∧ o.guard = none := fun j hj hjs => by
          have hoj : ops[j]? = some ops[j] := Array.getElem?_eq_getElem hjs
          refine ⟨ops[j], ?_, hT.ng j _ hoj (.inl hj)⟩
          have hb : Nat.ble i j = true := Nat.ble_eq_true_of_le hj
          rw [nopFrom_get, hoj, Option.map_some, hb, cond_true]
        have hq' : wpAnyQ P .any (nopFrom ops i) C Q0 fuel (listed.setIfInBounds i true) a := by
          obtain ⟨o, e, hg⟩ := hnop i (Nat.le_refl _) r1
          unfold qOp at hq
          rw [e] at hq
          simp only at hq
          have hw : Region.wanted (nopOf o) (yielded (nopFrom ops i) a.tmps) = true := by
            unfold Region.wanted nopOf
            simp only [hg]
          rw [hw] at hq
          simp only [if_true] at hq
          obtain ⟨v, _, hq⟩ := hq
          have hput : a.put (nopOf o).dst v = a := rfl
          rw [hput] at hq
          exact hq
        have hlate : (u < i ∧ u ∈ depsOf ops (i + 1) ∧ listed.getD u true = false) ∨ (∀ j, j < i → listed.getD j true = true) := by
          rcases hT.late with e | ⟨e1, e2⟩
          · exact .inr fun j hj => hall j hj (by omega)
          · cases hl : listed.getD u true with
            | false => exact .inl ⟨e2, e1, rfl⟩
            | true =>
              refine .inr fun j hj => ?_
              by_cases hju : j = u
              · rw [hju]; exact hl
              · exact hall j hj hju
        rcases hlate with ⟨hu1, hu2, hu3⟩ | hall2
        · -- the late one is not listed yet
          have hus : u < ops.size := by omega
          have hou : ops[u]? = some ops[u] := Array.getElem?_eq_getElem hus
          have hnu := hT.ng u _ hou (.inr rfl)
          have hur : u ∈ Region.ready .any ops (listed.setIfInBounds i true) := ready_of hus (by rw [set_listed (by omega), if_neg (by omega)]; exact hu3) fun d hd => by
            obtain ⟨d1, d2⟩ := depsOf_lt hT.dep hd
            rw [set_listed (by omega), if_neg (by omega), getD_both (by omega) false true]
            exact hall d (by omega) (by omega)
          have hone := ready_one hur fun j hj => by
            obtain ⟨q1, q2, _⟩ := ready_mem.1 hj
            rw [set_listed (by omega)] at q2
            by_cases hji : j = i
            · rw [if_pos hji] at q2; cases q2
            · rw [if_neg hji] at q2
              rcases Nat.lt_or_ge j i with hlt | hge
              · by_cases hju : j = u
                · exact hju
                · rw [hall j hlt hju] at q2; cases q2
              · exfalso
                have hjd := ready_deps hj (hT.chain j (by omega) q1)
                by_cases hj1 : j = i + 1
                · subst hj1
                  have := ready_deps hj hu2
                  rw [set_listed (by omega), if_neg (by omega), getD_both (by omega) false true, hu3] at this
                  cases this
                · rw [set_listed (by omega), if_neg (by omega), getD_both (by omega) false true, hm (j - 1) (by omega) (by omega)] at hjd
                  cases hjd
          cases fuel with
          | zero =>
            have := hq'.1
            rw [ready_nopFrom, hone] at this
            cases this
          | succ fuel =>
            rw [go_one hone]
            have hqu := hq'.2 u (by rw [ready_nopFrom]; exact hur)
            unfold qOp at hqu
            have hb : Nat.ble i u = false := by
              cases hb : Nat.ble i u with
              | false => rfl
              | true => have := Nat.le_of_ble_eq_true hb; omega
            rw [nopFrom_get, hou] at hqu
            simp only [Option.map_some, hb, cond_false] at hqu
            have hw : Region.wanted ops[u] (yielded (nopFrom ops i) a.tmps) = true := by
              unfold Region.wanted
              simp only [hnu]
            rw [hw] at hqu
            simp only [if_true] at hqu
            obtain ⟨v, _, hqu⟩ := hqu
            have hsz2 : ((listed.setIfInBounds i true).setIfInBounds u true).size = ops.size := by simpa using hs
            have hl2 : ∀ j, j < ops.size → ((listed.setIfInBounds i true).setIfInBounds u true).getD j true = decide (j < i + 1) := fun j hj => by
              rw [set_listed (by simpa using by omega), set_listed (by omega)]
              by_cases hju : j = u
              · subst hju; simp; omega
              · rw [if_neg hju]
                by_cases hji : j = i
                · subst hji; simp
                · rw [if_neg hji]
                  rcases Nat.lt_or_ge j i with hlt | hge
                  · rw [hall j hlt hju]; simp; omega
                  · rw [hm j hge hj]; simp; omega
            have hQ := nops_end (W := w) fuel _ _ (by rw [nopFrom_size]; exact hsz2) (fun j hj hl => by
              rw [nopFrom_size] at hj
              rw [hl2 j hj] at hl
              have : ¬ j < i + 1 := by simpa using hl
              exact hnop j (by omega) hj) hqu
            have hch : Region.linearise.go .any ops fuel (t / (Region.ready .any ops listed).length) ((listed.setIfInBounds i true).setIfInBounds u true) [] = List.range' (i + 1) (ops.size - (i + 1)) :=
              go_chain hT fuel _ (i + 1) _ hsz2 (by omega) hl2 hqu
            rw [hch]
            exact HB _ hou a w v hQ hC
        · have hl2 : ∀ j, j < ops.size → (listed.setIfInBounds i true).getD j true = decide (j < i + 1) := fun j hj => by
            rw [set_listed (by omega)]
            by_cases hji : j = i
            · subst hji; simp
            · rw [if_neg hji]
              rcases Nat.lt_or_ge j i with hlt | hge
              · rw [hall2 j hlt]; simp; omega
              · rw [hm j hge hj]; simp; omega
          have hQ := nops_end (W := w) fuel _ _ (by rw [nopFrom_size]; exact hs') (fun j hj hl => by
            rw [nopFrom_size] at hj
            rw [hl2 j hj] at hl
            have : ¬ j < i + 1 := by simpa using hl
            exact hnop j (by omega) hj) hq'
          have hch := go_chain hT fuel (t / (Region.ready .any ops listed).length) (i + 1) _ hs' (by omega) hl2 hq'
          rw [hch, ← range'_drop r1]
          exact HA a w hQ hC
end

/-- A region whose order is drawn, and that ends in a chain. -/
theorem WT.region_tail {P : Program} {f : FuncId} {R : Ending → World → Prop} {k : List Item} {C : World → Prop} {Q0 : Act → Prop} {ops : Array Oper} {u m id : Nat} {a : Act} {w : World} (hmx : P.follows .mixedOrders = true) (hT : TailOk ops u m) (hC : C { w with drawn := w.drawn + 1 })
    (HA : ∀ a w, Q0 a → C w → WT P f R (.inRegion ops (List.range' m (ops.size - m)) :: k) a w)
    (HB : ∀ o, ops[u]? = some o → ∀ a w v, Q0 (a.put o.dst v) → C w → WT P f R (.inRegion ops (m :: u :: List.range' (m + 1) (ops.size - (m + 1))) :: k) a w)
    (h : wpQuiet P (nopFrom ops m) C Q0 (nopFrom ops m).toList a) : WT P f R (.code (.region id ops true) :: k) a w := by
  refine WT.step (fun cs => step_region_draw) ?_
  simp only [Region.schedule, hmx, Bool.true_or, if_true]
  have hlex := hT.lex
  simp only [Region.lexB, Bool.and_eq_true] at hlex
  have h2 := wpAnyQ_lex (C := C) (md := .any) hlex.1 (nopFrom ops m).toList 0 (Array.replicate (nopFrom ops m).size false) a (by simp) (by simpa using hlex.2) h
  simp only [Array.length_toList, nopFrom_size] at h2
  refine go_tail hT HA HB ops.size _ _ a _ (by simp) (fun i _ hi => by simp [Array.getD, hi]) (fun i hi => ?_) hC h2
  exfalso
  rw [Array.getD_eq_getD_getElem?] at hi
  rcases Nat.lt_or_ge i ops.size with h' | h'
  · simp [h'] at hi
  · rw [Array.getElem?_eq_none (by simpa using h')] at hi; cases hi

theorem Fr.unput {σ : Type} {n d : Nat} {L : List Ent} {K : List (Chunk σ)} {a : Act} {v : Value} (h : Fr n L K (a.put (some d) v)) : Fr n (del d L) K a := by
  have hne : ∀ s, s ≠ d → (a.put (some d) v).tmps.getD s undef = a.tmps.getD s undef := fun s hs => by
    show (a.tmps.setIfInBounds d v).getD s undef = _
    rw [Array.getD_eq_getD_getElem?, Array.getElem?_setIfInBounds, if_neg (Ne.symm hs), Array.getD_eq_getD_getElem?]
  have hgv : ∀ g : Option (Nat × Bool), (∀ c b, g = some (c, b) → c ≠ d) → (GV (a.put (some d) v).tmps g ↔ GV a.tmps g) := fun g hg => by
    cases g with
    | none => rfl
    | some x =>
      obtain ⟨c, b⟩ := x
      simp only [GV]
      rw [hne c (hg c b rfl)]
  refine ⟨h.kok, h.defers, ?_, fun e he hg => ?_, fun e he hg => ?_⟩
  · have := h.size
    have e : (a.put (some d) v).tmps.size = a.tmps.size := by show (a.tmps.setIfInBounds d v).size = _; simp
    omega
  · obtain ⟨h1, h2, h3⟩ := del_mem he
    obtain ⟨q1, q2⟩ := h.ents e h1 ((hgv _ h3).2 hg)
    exact ⟨by rw [← hne e.s h2]; exact q1, q2⟩
  · obtain ⟨h1, h2, h3⟩ := del_mem he
    have := h.skipd e h1 (fun q => hg ((hgv _ h3).1 q))
    rw [hne e.s h2] at this
    exact this
end Go.Sl

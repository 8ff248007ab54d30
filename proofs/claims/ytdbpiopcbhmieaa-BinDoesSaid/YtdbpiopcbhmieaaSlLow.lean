/-
  DERIVED. What functions of the program compute, read off their bodies by the machine of SlB, and that it is so. Printed by a program of this claim's own (wip/gen/gen2.py).
-/
import Derived.Test.YtdbpiopcbhmieaaPlRef5
import Derived.Test.YtdbpiopcbhmieaaPlHeap
namespace Go.Proofs.Ytdbpiopcbhmieaa
open Go.Sl
set_option linter.unusedSimpArgs false
set_option linter.unusedVariables false
def SlLow_bytes0 : ByteArray := ⟨⟨[0, 1, 2, 2, 3, 3, 3, 3, 4, 4, 4, 4, 4, 4, 4, 4, 5, 5, 5, 5, 5, 5, 5, 5, 5, 5, 5, 5, 5, 5, 5, 5, 6, 6, 6, 6, 6, 6, 6, 6, 6, 6, 6, 6, 6, 6, 6, 6, 6, 6, 6, 6, 6, 6, 6, 6, 6, 6, 6, 6, 6, 6, 6, 6, 7, 7, 7, 7, 7, 7, 7, 7, 7, 7, 7, 7, 7, 7, 7, 7, 7, 7, 7, 7, 7, 7, 7, 7, 7, 7, 7, 7, 7, 7, 7, 7, 7, 7, 7, 7, 7, 7, 7, 7, 7, 7, 7, 7, 7, 7, 7, 7, 7, 7, 7, 7, 7, 7, 7, 7, 7, 7, 7, 7, 7, 7, 7, 7, 8, 8, 8, 8, 8, 8, 8, 8, 8, 8, 8, 8, 8, 8, 8, 8, 8, 8, 8, 8, 8, 8, 8, 8, 8, 8, 8, 8, 8, 8, 8, 8, 8, 8, 8, 8, 8, 8, 8, 8, 8, 8, 8, 8, 8, 8, 8, 8, 8, 8, 8, 8, 8, 8, 8, 8, 8, 8, 8, 8, 8, 8, 8, 8, 8, 8, 8, 8, 8, 8, 8, 8, 8, 8, 8, 8, 8, 8, 8, 8, 8, 8, 8, 8, 8, 8, 8, 8, 8, 8, 8, 8, 8, 8, 8, 8, 8, 8, 8, 8, 8, 8, 8, 8, 8, 8, 8, 8, 8, 8, 8, 8, 8, 8, 8, 8, 8, 8, 8, 8, 8, 8, 8, 8, 8, 8, 8, 8]⟩⟩

/- half.field -/
def half_field (x : Int) (y : Int) : Bool := decide (x ≥ (0 : Int)) && decide (y ≥ (1 : Int)) && decide (y ≤ (64 : Int)) && decide (x ≤ IntKind.wrap IntKind.i64 ((64 : Int) - y))
def half_field_out (r_ : Bool) : List Value → Value := fun ss => .bool (r_)
def half_field_nw (r_ : Bool) : List (Chunk Sg) := []
def half_field_rows (r_ : Bool) : List (Mk Sg) := []
section
variable (x : Int) (y : Int)
theorem half_field_calls {E_ : World} {G_ : Hp} {w_ : World} (hS : Sat E_ G_ w_ []) : Calls Try.prog 134 #[(.int .i64 x), (.int .i64 y)] w_ (Post Dg E_ G_ (half_field_out (half_field x y)) (half_field_nw (half_field x y)) (half_field_rows (half_field x y))) :=
  calls_post Dg T_same_ok (I := []) Try.func134 mix (B := bodyOf Try.f134) (by kernel_rfl) [(.int .i64 x), (.int .i64 y)] [.no, .no] (by kernel_rfl) (objs := []) (ros := []) (psOk_cons pOk_no (psOk_cons pOk_no (psOk_nil))) (by kernel_rfl) (trivial) hS 400
    (t := Tree.ret (Value.bool (decide (x ≥ (0 : Int)) && decide (y ≥ (1 : Int)) && decide (y ≤ (64 : Int)) && decide (x ≤ IntKind.wrap IntKind.i64 ((64 : Int) - y)))) pn_ [])
    (by kernel_rfl)
    (RetOk.at (outf := half_field_out) (nwf := half_field_nw) (rowsf := half_field_rows) (r := decide (x ≥ (0 : Int)) && decide (y ≥ (1 : Int)) && decide (y ≤ (64 : Int)) && decide (x ≤ IntKind.wrap IntKind.i64 ((64 : Int) - y))) (by first | exact Eq.symm rfl | (simp only [half_field, cond_true, cond_false]; done) | (exfalso; simp_all; done) | decide) ⟨[], [], (by decide), rfl, rfl, trivial⟩)
end
def half_field_e : Entry Sg := fun
  | [(.int .i64 x, _), (.int .i64 y, _)] => some ⟨(half_field x y), fun (r_ : Bool) => ⟨[], none, [], fun ss => .bool (r_), fun k_ => .no⟩⟩
  | _ => none
theorem half_field_ok : EntryOk Dg Try.prog 134 half_field_e := by
  intro args c r h hr_
  unfold half_field_e at h
  split at h
  · injection h with h; subst h; subst hr_
    refine ⟨fun K acs _ => pOk_no, fun hpre E G w hi hS => ?_⟩
    exact entry_post Dg (by exact rfl) (half_field_calls _ _  hS)
  · cases h
def T_half_field : List (Nat × Entry Sg) := (134, half_field_e) :: T_same
theorem T_half_field_ok : TableOk Dg Try.prog T_half_field := TableOk.cons Dg half_field_ok T_same_ok

/- half.mask -/
def half_mask (x : Int) : Int := Int.fdiv (18446744073709551615 : Int) ((2 : Int) ^ min (Int.toNat (IntKind.wrap IntKind.i64 ((64 : Int) - x))) 64)
def half_mask_out (r_ : Int) : List Value → Value := fun ss => .int .u64 (r_)
def half_mask_nw (r_ : Int) : List (Chunk Sg) := []
def half_mask_rows (r_ : Int) : List (Mk Sg) := []
section
variable (x : Int)
theorem half_mask_calls {E_ : World} {G_ : Hp} {w_ : World} (hp0 : 0 ≤ IntKind.wrap IntKind.i64 (64 - x)) (hS : Sat E_ G_ w_ []) : Calls Try.prog 135 #[(.int .i64 x)] w_ (Post Dg E_ G_ (half_mask_out (half_mask x)) (half_mask_nw (half_mask x)) (half_mask_rows (half_mask x))) :=
  calls_post Dg T_half_field_ok (I := []) Try.func135 mix (B := bodyOf Try.f135) (by kernel_rfl) [(.int .i64 x)] [.no] (by kernel_rfl) (objs := []) (ros := []) (psOk_cons pOk_no (psOk_nil)) (by kernel_rfl) (trivial) hS 400
    (t := Tree.need ((0 : Int) ≤ IntKind.wrap IntKind.i64 ((64 : Int) - x)) (Tree.ret (Value.int IntKind.u64 (Int.fdiv (18446744073709551615 : Int) ((2 : Int) ^ min (Int.toNat (IntKind.wrap IntKind.i64 ((64 : Int) - x))) 64))) pn_ []))
    (by kernel_rfl)
    (⟨by exact hp0, fun y0 => RetOk.at (outf := half_mask_out) (nwf := half_mask_nw) (rowsf := half_mask_rows) (r := Int.fdiv (18446744073709551615 : Int) ((2 : Int) ^ min (Int.toNat (IntKind.wrap IntKind.i64 ((64 : Int) - x))) 64)) (by first | exact Eq.symm rfl | (simp only [half_mask, cond_true, cond_false]; done) | (exfalso; simp_all; done) | decide) ⟨[], [], (by decide), rfl, rfl, trivial⟩⟩)
end
def half_mask_e : Entry Sg := fun
  | [(.int .i64 x, _)] => some ⟨(half_mask x), fun (r_ : Int) => ⟨[(0 ≤ IntKind.wrap IntKind.i64 (64 - x) : Prop)], none, [], fun ss => .int .u64 (r_), fun k_ => .no⟩⟩
  | _ => none
theorem half_mask_ok : EntryOk Dg Try.prog 135 half_mask_e := by
  intro args c r h hr_
  unfold half_mask_e at h
  split at h
  · injection h with h; subst h; subst hr_
    refine ⟨fun K acs _ => pOk_no, fun hpre E G w hi hS => ?_⟩
    exact entry_post Dg (by exact rfl) (half_mask_calls _ (hpre _ (by simp)) hS)
  · cases h
def T_half_mask : List (Nat × Entry Sg) := (135, half_mask_e) :: T_half_field
theorem T_half_mask_ok : TableOk Dg Try.prog T_half_mask := TableOk.cons Dg half_mask_ok T_half_field_ok
theorem half_field_iff {x y : Int} : half_field x y = true ↔ 0 ≤ x ∧ 1 ≤ y ∧ y ≤ 64 ∧ x ≤ 64 - y := by
  simp only [half_field, Bool.and_eq_true, decide_eq_true_eq, IntKind.wrap_i64]
  omega
theorem half_need1 {x y : Int} (h : (!half_field x y) = false) : 0 ≤ IntKind.wrap IntKind.i64 (64 - y) := by
  have := half_field_iff.1 (by simpa using h)
  rw [IntKind.wrap_i64]; omega
theorem half_need2 {x y : Int} {b : Bool} (h : (!half_field x y || b) = false) : 0 ≤ IntKind.wrap IntKind.i64 (64 - y) := half_need1 (Bool.or_eq_false_iff.1 h).1
theorem half_need3 {x y : Int} {b : Bool} (h : (!half_field x y || b) = false) : 0 ≤ x := (half_field_iff.1 (by simpa using (Bool.or_eq_false_iff.1 h).1)).1
theorem half_need4 {x y : Int} (h : (!half_field x y) = false) : 0 ≤ x := (half_field_iff.1 (by simpa using h)).1


/- half.Put -/
def half_Put (w : Int) (x : Int) (y : Int) (v : Int) : Int × Bool := (bif !half_field x y || decide (v > half_mask y) then ((0 : Int), false) else (IntKind.wrap IntKind.u64 (↑(BitVec.toNat (BitVec.ofInt 64 (IntKind.wrap IntKind.u64 (↑(BitVec.toNat (BitVec.ofInt 64 w &&& ~~~BitVec.ofInt 64 (IntKind.wrap IntKind.u64 (half_mask y * (2 : Int) ^ min (Int.toNat x) 64)))) : Int)) ||| BitVec.ofInt 64 (IntKind.wrap IntKind.u64 (v * (2 : Int) ^ min (Int.toNat x) 64)))) : Int), true))
def half_Put_out (r_ : Int × Bool) : List Value → Value := fun ss => .tuple #[.int .u64 (r_.1), .bool (r_.2)]
def half_Put_nw (r_ : Int × Bool) : List (Chunk Sg) := []
def half_Put_rows (r_ : Int × Bool) : List (Mk Sg) := []
section
variable (w : Int) (x : Int) (y : Int) (v : Int)
theorem half_Put_calls {E_ : World} {G_ : Hp} {w_ : World} (hS : Sat E_ G_ w_ []) : Calls Try.prog 113 #[(.int .u64 w), (.int .i64 x), (.int .i64 y), (.int .u64 v)] w_ (Post Dg E_ G_ (half_Put_out (half_Put w x y v)) (half_Put_nw (half_Put w x y v)) (half_Put_rows (half_Put w x y v))) :=
  calls_post Dg T_half_mask_ok (I := []) Try.func113 mix (B := bodyOf Try.f113) (by kernel_rfl) [(.int .u64 w), (.int .i64 x), (.int .i64 y), (.int .u64 v)] [.no, .no, .no, .no] (by kernel_rfl) (objs := []) (ros := []) (psOk_cons pOk_no (psOk_cons pOk_no (psOk_cons pOk_no (psOk_cons pOk_no (psOk_nil))))) (by kernel_rfl) (trivial) hS 400
    (t := Tree.need ((!half_field x y) = false → (0 : Int) ≤ IntKind.wrap IntKind.i64 ((64 : Int) - y)) (Tree.br (!half_field x y || decide (v > half_mask y)) (Tree.ret (Value.tuple { toList := [Value.int IntKind.u64 (0 : Int), Value.bool false] }) pn_ []) (Tree.need ((0 : Int) ≤ IntKind.wrap IntKind.i64 ((64 : Int) - y)) (Tree.need ((0 : Int) ≤ x) (Tree.need ((0 : Int) ≤ x) (Tree.ret (Value.tuple { toList := [Value.int IntKind.u64 (IntKind.wrap IntKind.u64 (↑(BitVec.toNat (BitVec.ofInt 64 (IntKind.wrap IntKind.u64 (↑(BitVec.toNat (BitVec.ofInt 64 w &&& ~~~BitVec.ofInt 64 (IntKind.wrap IntKind.u64 (half_mask y * (2 : Int) ^ min (Int.toNat x) 64)))) : Int)) ||| BitVec.ofInt 64 (IntKind.wrap IntKind.u64 (v * (2 : Int) ^ min (Int.toNat x) 64)))) : Int)), Value.bool true] }) pn_ []))))))
    (by kernel_rfl)
    (⟨by first | exact half_need1 (by assumption) | exact half_need2 (by assumption) | exact half_need3 (by assumption) | (intro h_; first | exact half_need1 h_ | exact half_need2 h_ | exact half_need3 h_), fun y0 => ⟨fun z1 => RetOk.at (outf := half_Put_out) (nwf := half_Put_nw) (rowsf := half_Put_rows) (r := ((0 : Int), false)) (by first | exact Eq.symm ((cT z1).trans rfl) | (simp only [half_Put, z1, cond_true, cond_false]; done) | (exfalso; simp_all; done) | decide) ⟨[], [], (by decide), rfl, rfl, trivial⟩, fun z1 => ⟨by first | exact half_need1 (by assumption) | exact half_need2 (by assumption) | exact half_need3 (by assumption) | (intro h_; first | exact half_need1 h_ | exact half_need2 h_ | exact half_need3 h_), fun y2 => ⟨by first | exact half_need1 (by assumption) | exact half_need2 (by assumption) | exact half_need3 (by assumption) | (intro h_; first | exact half_need1 h_ | exact half_need2 h_ | exact half_need3 h_), fun y3 => ⟨by first | exact half_need1 (by assumption) | exact half_need2 (by assumption) | exact half_need3 (by assumption) | (intro h_; first | exact half_need1 h_ | exact half_need2 h_ | exact half_need3 h_), fun y4 => RetOk.at (outf := half_Put_out) (nwf := half_Put_nw) (rowsf := half_Put_rows) (r := (IntKind.wrap IntKind.u64 (↑(BitVec.toNat (BitVec.ofInt 64 (IntKind.wrap IntKind.u64 (↑(BitVec.toNat (BitVec.ofInt 64 w &&& ~~~BitVec.ofInt 64 (IntKind.wrap IntKind.u64 (half_mask y * (2 : Int) ^ min (Int.toNat x) 64)))) : Int)) ||| BitVec.ofInt 64 (IntKind.wrap IntKind.u64 (v * (2 : Int) ^ min (Int.toNat x) 64)))) : Int), true)) (by first | exact Eq.symm ((cF z1).trans rfl) | (simp only [half_Put, z1, cond_true, cond_false]; done) | (exfalso; simp_all; done) | decide) ⟨[], [], (by decide), rfl, rfl, trivial⟩⟩⟩⟩⟩⟩)
end
def half_Put_e : Entry Sg := fun
  | [(.int .u64 w, _), (.int .i64 x, _), (.int .i64 y, _), (.int .u64 v, _)] => some ⟨(half_Put w x y v), fun (r_ : Int × Bool) => ⟨[], none, [], fun ss => .tuple #[.int .u64 (r_.1), .bool (r_.2)], fun k_ => .no⟩⟩
  | _ => none
theorem half_Put_ok : EntryOk Dg Try.prog 113 half_Put_e := by
  intro args c r h hr_
  unfold half_Put_e at h
  split at h
  · injection h with h; subst h; subst hr_
    refine ⟨fun K acs _ => pOk_no, fun hpre E G w hi hS => ?_⟩
    exact entry_post Dg (by exact rfl) (half_Put_calls _ _ _ _  hS)
  · cases h
def T_half_Put : List (Nat × Entry Sg) := (113, half_Put_e) :: T_half_mask
theorem T_half_Put_ok : TableOk Dg Try.prog T_half_Put := TableOk.cons Dg half_Put_ok T_half_mask_ok

/- half.Get -/
def half_Get (w : Int) (x : Int) (y : Int) : Int := (bif !half_field x y then (0 : Int) else IntKind.wrap IntKind.u64 (↑(BitVec.toNat (BitVec.ofInt 64 (Int.fdiv w ((2 : Int) ^ min (Int.toNat x) 64)) &&& BitVec.ofInt 64 (half_mask y))) : Int))
def half_Get_out (r_ : Int) : List Value → Value := fun ss => .int .u64 (r_)
def half_Get_nw (r_ : Int) : List (Chunk Sg) := []
def half_Get_rows (r_ : Int) : List (Mk Sg) := []
section
variable (w : Int) (x : Int) (y : Int)
theorem half_Get_calls {E_ : World} {G_ : Hp} {w_ : World} (hS : Sat E_ G_ w_ []) : Calls Try.prog 132 #[(.int .u64 w), (.int .i64 x), (.int .i64 y)] w_ (Post Dg E_ G_ (half_Get_out (half_Get w x y)) (half_Get_nw (half_Get w x y)) (half_Get_rows (half_Get w x y))) :=
  calls_post Dg T_half_Put_ok (I := []) Try.func132 mix (B := bodyOf Try.f132) (by kernel_rfl) [(.int .u64 w), (.int .i64 x), (.int .i64 y)] [.no, .no, .no] (by kernel_rfl) (objs := []) (ros := []) (psOk_cons pOk_no (psOk_cons pOk_no (psOk_cons pOk_no (psOk_nil)))) (by kernel_rfl) (trivial) hS 400
    (t := Tree.br (!half_field x y) (Tree.ret (Value.int IntKind.u64 (0 : Int)) pn_ []) (Tree.need ((0 : Int) ≤ x) (Tree.need ((0 : Int) ≤ IntKind.wrap IntKind.i64 ((64 : Int) - y)) (Tree.ret (Value.int IntKind.u64 (IntKind.wrap IntKind.u64 (↑(BitVec.toNat (BitVec.ofInt 64 (Int.fdiv w ((2 : Int) ^ min (Int.toNat x) 64)) &&& BitVec.ofInt 64 (half_mask y))) : Int))) pn_ []))))
    (by kernel_rfl)
    (⟨fun z0 => RetOk.at (outf := half_Get_out) (nwf := half_Get_nw) (rowsf := half_Get_rows) (r := (0 : Int)) (by first | exact Eq.symm ((cT z0).trans rfl) | (simp only [half_Get, z0, cond_true, cond_false]; done) | (exfalso; simp_all; done) | decide) ⟨[], [], (by decide), rfl, rfl, trivial⟩, fun z0 => ⟨by first | exact half_need1 (by assumption) | exact half_need4 (by assumption), fun y1 => ⟨by first | exact half_need1 (by assumption) | exact half_need4 (by assumption), fun y2 => RetOk.at (outf := half_Get_out) (nwf := half_Get_nw) (rowsf := half_Get_rows) (r := IntKind.wrap IntKind.u64 (↑(BitVec.toNat (BitVec.ofInt 64 (Int.fdiv w ((2 : Int) ^ min (Int.toNat x) 64)) &&& BitVec.ofInt 64 (half_mask y))) : Int)) (by first | exact Eq.symm ((cF z0).trans rfl) | (simp only [half_Get, z0, cond_true, cond_false]; done) | (exfalso; simp_all; done) | decide) ⟨[], [], (by decide), rfl, rfl, trivial⟩⟩⟩⟩)
end
def half_Get_e : Entry Sg := fun
  | [(.int .u64 w, _), (.int .i64 x, _), (.int .i64 y, _)] => some ⟨(half_Get w x y), fun (r_ : Int) => ⟨[], none, [], fun ss => .int .u64 (r_), fun k_ => .no⟩⟩
  | _ => none
theorem half_Get_ok : EntryOk Dg Try.prog 132 half_Get_e := by
  intro args c r h hr_
  unfold half_Get_e at h
  split at h
  · injection h with h; subst h; subst hr_
    refine ⟨fun K acs _ => pOk_no, fun hpre E G w hi hS => ?_⟩
    exact entry_post Dg (by exact rfl) (half_Get_calls _ _ _  hS)
  · cases h
def T_half_Get : List (Nat × Entry Sg) := (132, half_Get_e) :: T_half_Put
theorem T_half_Get_ok : TableOk Dg Try.prog T_half_Get := TableOk.cons Dg half_Get_ok T_half_Put_ok

/- half.Lo -/
def half_Lo (w : Int) : Int := IntKind.wrap IntKind.u32 w
def half_Lo_out (r_ : Int) : List Value → Value := fun ss => .int .u32 (r_)
def half_Lo_nw (r_ : Int) : List (Chunk Sg) := []
def half_Lo_rows (r_ : Int) : List (Mk Sg) := []
section
variable (w : Int)
theorem half_Lo_calls {E_ : World} {G_ : Hp} {w_ : World} (hS : Sat E_ G_ w_ []) : Calls Try.prog 114 #[(.int .u64 w)] w_ (Post Dg E_ G_ (half_Lo_out (half_Lo w)) (half_Lo_nw (half_Lo w)) (half_Lo_rows (half_Lo w))) :=
  calls_post Dg T_half_Get_ok (I := []) Try.func114 mix (B := bodyOf Try.f114) (by kernel_rfl) [(.int .u64 w)] [.no] (by kernel_rfl) (objs := []) (ros := []) (psOk_cons pOk_no (psOk_nil)) (by kernel_rfl) (trivial) hS 400
    (t := Tree.ret (vu_ (IntKind.wrap IntKind.u32 w)) pn_ [])
    (by kernel_rfl)
    (RetOk.at (outf := half_Lo_out) (nwf := half_Lo_nw) (rowsf := half_Lo_rows) (r := IntKind.wrap IntKind.u32 w) (by first | exact Eq.symm rfl | (simp only [half_Lo, cond_true, cond_false]; done) | (exfalso; simp_all; done) | decide) ⟨[], [], (by decide), rfl, rfl, trivial⟩)
end
def half_Lo_e : Entry Sg := fun
  | [(.int .u64 w, _)] => some ⟨(half_Lo w), fun (r_ : Int) => ⟨[], none, [], fun ss => .int .u32 (r_), fun k_ => .no⟩⟩
  | _ => none
theorem half_Lo_ok : EntryOk Dg Try.prog 114 half_Lo_e := by
  intro args c r h hr_
  unfold half_Lo_e at h
  split at h
  · injection h with h; subst h; subst hr_
    refine ⟨fun K acs _ => pOk_no, fun hpre E G w hi hS => ?_⟩
    exact entry_post Dg (by exact rfl) (half_Lo_calls _  hS)
  · cases h
def T_half_Lo : List (Nat × Entry Sg) := (114, half_Lo_e) :: T_half_Get
theorem T_half_Lo_ok : TableOk Dg Try.prog T_half_Lo := TableOk.cons Dg half_Lo_ok T_half_Get_ok

/- info.right -/
def info_right (k : Int) (l : Int) (c : Int) : Bool := (bif k == (0 : Int) then k == (0 : Int) && (l == (0 : Int) && (c == (0 : Int) && true)) else (bif k == (3 : Int) then (bif decide (c < (0 : Int)) || decide (c ≥ (9 : Int)) then false else decide (l ≥ (1 : Int)) && decide (l ≤ (1 : Int)) && true) else (bif k == (1 : Int) then (bif k == (1 : Int) then decide (l ≥ (1 : Int)) && decide (l ≤ (1024 : Int)) && c == (0 : Int) else false) else (bif k == (2 : Int) then decide (l ≥ (1 : Int)) && decide (l ≤ (1024 : Int)) && c == (0 : Int) else false))))
def info_right_out (r_ : Bool) : List Value → Value := fun ss => .bool (r_)
def info_right_nw (r_ : Bool) : List (Chunk Sg) := []
def info_right_rows (r_ : Bool) : List (Mk Sg) := []
section
variable (k : Int) (l : Int) (c : Int)
theorem info_right_calls {E_ : World} {G_ : Hp} {w_ : World} (hS : Sat E_ G_ w_ []) : Calls Try.prog 112 #[(.agg #[.int .i64 k, .int .i64 l, .int .i64 c])] w_ (Post Dg E_ G_ (info_right_out (info_right k l c)) (info_right_nw (info_right k l c)) (info_right_rows (info_right k l c))) :=
  calls_post Dg T_half_Lo_ok (I := []) Try.func112 mix (B := bodyOf Try.f112) (by kernel_rfl) [(.agg #[.int .i64 k, .int .i64 l, .int .i64 c])] [.no] (by kernel_rfl) (objs := []) (ros := []) (psOk_cons pOk_no (psOk_nil)) (by kernel_rfl) (trivial) hS 400
    (t := Tree.fresh fun b => Tree.br (k == (0 : Int)) (Tree.ret (Value.bool (k == (0 : Int) && (l == (0 : Int) && (c == (0 : Int) && true)))) pn_ [kc_ b 86 [(vi_ k, pn_), (vi_ l, pn_), (vi_ c, pn_)]]) (Tree.br (k == (3 : Int)) (Tree.br (decide (c < (0 : Int)) || decide (c ≥ (9 : Int))) (Tree.ret (Value.bool false) pn_ [kc_ b 86 [(vi_ k, pn_), (vi_ l, pn_), (vi_ c, pn_)]]) (Tree.ret (Value.bool (decide (l ≥ (1 : Int)) && decide (l ≤ (1 : Int)) && true)) pn_ [kc_ b 86 [(vi_ k, pn_), (vi_ l, pn_), (vi_ (0 : Int), pn_)]])) (Tree.br (k == (1 : Int)) (Tree.br (k == (1 : Int)) (Tree.ret (Value.bool (decide (l ≥ (1 : Int)) && decide (l ≤ (1024 : Int)) && c == (0 : Int))) pn_ [kc_ b 86 [(vi_ k, pn_), (vi_ l, pn_), (vi_ c, pn_)]]) (Tree.ret (Value.bool false) pn_ [kc_ b 86 [(vi_ k, pn_), (vi_ l, pn_), (vi_ c, pn_)]])) (Tree.br (k == (2 : Int)) (Tree.ret (Value.bool (decide (l ≥ (1 : Int)) && decide (l ≤ (1024 : Int)) && c == (0 : Int))) pn_ [kc_ b 86 [(vi_ k, pn_), (vi_ l, pn_), (vi_ c, pn_)]]) (Tree.ret (Value.bool false) pn_ [kc_ b 86 [(vi_ k, pn_), (vi_ l, pn_), (vi_ c, pn_)]])))))
    (by kernel_rfl)
    (fun b0_0 => ⟨fun z1 => RetOk.at (outf := info_right_out) (nwf := info_right_nw) (rowsf := info_right_rows) (r := k == (0 : Int) && (l == (0 : Int) && (c == (0 : Int) && true))) (by first | exact Eq.symm ((cT z1).trans rfl) | (simp only [info_right, z1, cond_true, cond_false]; done) | (exfalso; simp_all; done) | decide) ⟨[], [], (by decide), rfl, rfl, trivial⟩, fun z1 => ⟨fun z2 => ⟨fun z3 => RetOk.at (outf := info_right_out) (nwf := info_right_nw) (rowsf := info_right_rows) (r := false) (by first | exact Eq.symm ((cF z1).trans ((cT z2).trans ((cT z3).trans rfl))) | (simp only [info_right, z1, z2, z3, cond_true, cond_false]; done) | (exfalso; simp_all; done) | decide) ⟨[], [], (by decide), rfl, rfl, trivial⟩, fun z3 => RetOk.at (outf := info_right_out) (nwf := info_right_nw) (rowsf := info_right_rows) (r := decide (l ≥ (1 : Int)) && decide (l ≤ (1 : Int)) && true) (by first | exact Eq.symm ((cF z1).trans ((cT z2).trans ((cF z3).trans rfl))) | (simp only [info_right, z1, z2, z3, cond_true, cond_false]; done) | (exfalso; simp_all; done) | decide) ⟨[], [], (by decide), rfl, rfl, trivial⟩⟩, fun z2 => ⟨fun z3 => ⟨fun z4 => RetOk.at (outf := info_right_out) (nwf := info_right_nw) (rowsf := info_right_rows) (r := decide (l ≥ (1 : Int)) && decide (l ≤ (1024 : Int)) && c == (0 : Int)) (by first | exact Eq.symm ((cF z1).trans ((cF z2).trans ((cT z3).trans ((cT z4).trans rfl)))) | (simp only [info_right, z1, z2, z3, z4, cond_true, cond_false]; done) | (exfalso; simp_all; done) | decide) ⟨[], [], (by decide), rfl, rfl, trivial⟩, fun z4 => RetOk.at (outf := info_right_out) (nwf := info_right_nw) (rowsf := info_right_rows) (r := false) (by first | exact Eq.symm ((cF z1).trans ((cF z2).trans ((cT z3).trans ((cF z4).trans rfl)))) | (simp only [info_right, z1, z2, z3, z4, cond_true, cond_false]; done) | (exfalso; simp_all; done) | decide) ⟨[], [], (by decide), rfl, rfl, trivial⟩⟩, fun z3 => ⟨fun z4 => RetOk.at (outf := info_right_out) (nwf := info_right_nw) (rowsf := info_right_rows) (r := decide (l ≥ (1 : Int)) && decide (l ≤ (1024 : Int)) && c == (0 : Int)) (by first | exact Eq.symm ((cF z1).trans ((cF z2).trans ((cF z3).trans ((cT z4).trans rfl)))) | (simp only [info_right, z1, z2, z3, z4, cond_true, cond_false]; done) | (exfalso; simp_all; done) | decide) ⟨[], [], (by decide), rfl, rfl, trivial⟩, fun z4 => RetOk.at (outf := info_right_out) (nwf := info_right_nw) (rowsf := info_right_rows) (r := false) (by first | exact Eq.symm ((cF z1).trans ((cF z2).trans ((cF z3).trans ((cF z4).trans rfl)))) | (simp only [info_right, z1, z2, z3, z4, cond_true, cond_false]; done) | (exfalso; simp_all; done) | decide) ⟨[], [], (by decide), rfl, rfl, trivial⟩⟩⟩⟩⟩)
end
def info_right_e : Entry Sg := fun
  | [(.agg ⟨[.int .i64 k, .int .i64 l, .int .i64 c]⟩, .none)] => some ⟨(info_right k l c), fun (r_ : Bool) => ⟨[], none, [], fun ss => .bool (r_), fun k_ => .no⟩⟩
  | _ => none
theorem info_right_ok : EntryOk Dg Try.prog 112 info_right_e := by
  intro args c r h hr_
  unfold info_right_e at h
  split at h
  · injection h with h; subst h; subst hr_
    refine ⟨fun K acs _ => pOk_no, fun hpre E G w hi hS => ?_⟩
    exact entry_post Dg (by exact rfl) (info_right_calls _ _ _  hS)
  · cases h
def T_info_right : List (Nat × Entry Sg) := (112, info_right_e) :: T_half_Lo
theorem T_info_right_ok : TableOk Dg Try.prog T_info_right := TableOk.cons Dg info_right_ok T_half_Lo_ok

/- info.Put -/
def info_Put (k : Int) (l : Int) (c : Int) : Int × Bool := (bif !info_right k l c then ((0 : Int), false) else (half_Lo (Prod.fst (half_Put (Prod.fst (half_Put (IntKind.wrap IntKind.u64 k) (4 : Int) (12 : Int) (IntKind.wrap IntKind.u64 l))) (16 : Int) (4 : Int) (IntKind.wrap IntKind.u64 c))), true))
def info_Put_out (r_ : Int × Bool) : List Value → Value := fun ss => .tuple #[.int .u32 (r_.1), .bool (r_.2)]
def info_Put_nw (r_ : Int × Bool) : List (Chunk Sg) := []
def info_Put_rows (r_ : Int × Bool) : List (Mk Sg) := []
section
variable (k : Int) (l : Int) (c : Int)
theorem info_Put_calls {E_ : World} {G_ : Hp} {w_ : World} (hS : Sat E_ G_ w_ []) : Calls Try.prog 80 #[(.agg #[.int .i64 k, .int .i64 l, .int .i64 c])] w_ (Post Dg E_ G_ (info_Put_out (info_Put k l c)) (info_Put_nw (info_Put k l c)) (info_Put_rows (info_Put k l c))) :=
  calls_post Dg T_info_right_ok (I := []) Try.func80 mix (B := bodyOf Try.f80) (by kernel_rfl) [(.agg #[.int .i64 k, .int .i64 l, .int .i64 c])] [.no] (by kernel_rfl) (objs := []) (ros := []) (psOk_cons pOk_no (psOk_nil)) (by kernel_rfl) (trivial) hS 400
    (t := Tree.fresh fun b => Tree.br (!info_right k l c) (Tree.ret (Value.tuple { toList := [vu_ (0 : Int), Value.bool false] }) pn_ [kc_ b 86 [(vi_ k, pn_), (vi_ l, pn_), (vi_ c, pn_)]]) (Tree.ret (Value.tuple { toList := [vu_ (half_Lo (Prod.fst (half_Put (Prod.fst (half_Put (IntKind.wrap IntKind.u64 k) (4 : Int) (12 : Int) (IntKind.wrap IntKind.u64 l))) (16 : Int) (4 : Int) (IntKind.wrap IntKind.u64 c)))), Value.bool true] }) pn_ [kc_ b 86 [(vi_ k, pn_), (vi_ l, pn_), (vi_ c, pn_)]]))
    (by kernel_rfl)
    (fun b0_0 => ⟨fun z1 => RetOk.at (outf := info_Put_out) (nwf := info_Put_nw) (rowsf := info_Put_rows) (r := ((0 : Int), false)) (by first | exact Eq.symm ((cT z1).trans rfl) | (simp only [info_Put, z1, cond_true, cond_false]; done) | (exfalso; simp_all; done) | decide) ⟨[], [], (by decide), rfl, rfl, trivial⟩, fun z1 => RetOk.at (outf := info_Put_out) (nwf := info_Put_nw) (rowsf := info_Put_rows) (r := (half_Lo (Prod.fst (half_Put (Prod.fst (half_Put (IntKind.wrap IntKind.u64 k) (4 : Int) (12 : Int) (IntKind.wrap IntKind.u64 l))) (16 : Int) (4 : Int) (IntKind.wrap IntKind.u64 c))), true)) (by first | exact Eq.symm ((cF z1).trans rfl) | (simp only [info_Put, z1, cond_true, cond_false]; done) | (exfalso; simp_all; done) | decide) ⟨[], [], (by decide), rfl, rfl, trivial⟩⟩)
end
def info_Put_e : Entry Sg := fun
  | [(.agg ⟨[.int .i64 k, .int .i64 l, .int .i64 c]⟩, .none)] => some ⟨(info_Put k l c), fun (r_ : Int × Bool) => ⟨[], none, [], fun ss => .tuple #[.int .u32 (r_.1), .bool (r_.2)], fun k_ => .no⟩⟩
  | _ => none
theorem info_Put_ok : EntryOk Dg Try.prog 80 info_Put_e := by
  intro args c r h hr_
  unfold info_Put_e at h
  split at h
  · injection h with h; subst h; subst hr_
    refine ⟨fun K acs _ => pOk_no, fun hpre E G w hi hS => ?_⟩
    exact entry_post Dg (by exact rfl) (info_Put_calls _ _ _  hS)
  · cases h
def T_info_Put : List (Nat × Entry Sg) := (80, info_Put_e) :: T_info_right
theorem T_info_Put_ok : TableOk Dg Try.prog T_info_Put := TableOk.cons Dg info_Put_ok T_info_right_ok

/- info.Get -/
def info_Get (v : Int) : Int × Int × Int × Bool := (bif half_Get (IntKind.wrap IntKind.u64 v) (20 : Int) (44 : Int) != (0 : Int) || !info_right (IntKind.wrap IntKind.i64 (half_Get (IntKind.wrap IntKind.u64 v) (0 : Int) (4 : Int))) (IntKind.wrap IntKind.i64 (half_Get (IntKind.wrap IntKind.u64 v) (4 : Int) (12 : Int))) (IntKind.wrap IntKind.i64 (half_Get (IntKind.wrap IntKind.u64 v) (16 : Int) (4 : Int))) then ((0 : Int), (0 : Int), (0 : Int), false) else (IntKind.wrap IntKind.i64 (half_Get (IntKind.wrap IntKind.u64 v) (0 : Int) (4 : Int)), IntKind.wrap IntKind.i64 (half_Get (IntKind.wrap IntKind.u64 v) (4 : Int) (12 : Int)), IntKind.wrap IntKind.i64 (half_Get (IntKind.wrap IntKind.u64 v) (16 : Int) (4 : Int)), true))
def info_Get_out (r_ : Int × Int × Int × Bool) : List Value → Value := fun ss => .tuple #[.agg #[.int .i64 (r_.1), .int .i64 (r_.2.1), .int .i64 (r_.2.2.1)], .bool (r_.2.2.2)]
def info_Get_nw (r_ : Int × Int × Int × Bool) : List (Chunk Sg) := []
def info_Get_rows (r_ : Int × Int × Int × Bool) : List (Mk Sg) := []
section
variable (v : Int)
theorem info_Get_calls {E_ : World} {G_ : Hp} {w_ : World} (hS : Sat E_ G_ w_ []) : Calls Try.prog 106 #[(.int .u32 v)] w_ (Post Dg E_ G_ (info_Get_out (info_Get v)) (info_Get_nw (info_Get v)) (info_Get_rows (info_Get v))) :=
  calls_post Dg T_info_Put_ok (I := []) Try.func106 mix (B := bodyOf Try.f106) (by kernel_rfl) [(.int .u32 v)] [.no] (by kernel_rfl) (objs := []) (ros := []) (psOk_cons pOk_no (psOk_nil)) (by kernel_rfl) (trivial) hS 400
    (t := Tree.fresh fun b => Tree.fresh fun b_1 => Tree.br (half_Get (IntKind.wrap IntKind.u64 v) (20 : Int) (44 : Int) != (0 : Int) || !info_right (IntKind.wrap IntKind.i64 (half_Get (IntKind.wrap IntKind.u64 v) (0 : Int) (4 : Int))) (IntKind.wrap IntKind.i64 (half_Get (IntKind.wrap IntKind.u64 v) (4 : Int) (12 : Int))) (IntKind.wrap IntKind.i64 (half_Get (IntKind.wrap IntKind.u64 v) (16 : Int) (4 : Int)))) (Tree.ret (Value.tuple { toList := [Value.agg { toList := [vi_ (0 : Int), vi_ (0 : Int), vi_ (0 : Int)] }, Value.bool false] }) pn_ [kc_ b 86 [(vi_ (0 : Int), pn_), (vi_ (0 : Int), pn_), (vi_ (0 : Int), pn_)], kc_ b_1 86 [(vi_ (IntKind.wrap IntKind.i64 (half_Get (IntKind.wrap IntKind.u64 v) (0 : Int) (4 : Int))), pn_), (vi_ (IntKind.wrap IntKind.i64 (half_Get (IntKind.wrap IntKind.u64 v) (4 : Int) (12 : Int))), pn_), (vi_ (IntKind.wrap IntKind.i64 (half_Get (IntKind.wrap IntKind.u64 v) (16 : Int) (4 : Int))), pn_)]]) (Tree.ret (Value.tuple { toList := [Value.agg { toList := [vi_ (IntKind.wrap IntKind.i64 (half_Get (IntKind.wrap IntKind.u64 v) (0 : Int) (4 : Int))), vi_ (IntKind.wrap IntKind.i64 (half_Get (IntKind.wrap IntKind.u64 v) (4 : Int) (12 : Int))), vi_ (IntKind.wrap IntKind.i64 (half_Get (IntKind.wrap IntKind.u64 v) (16 : Int) (4 : Int)))] }, Value.bool true] }) pn_ [kc_ b 86 [(vi_ (IntKind.wrap IntKind.i64 (half_Get (IntKind.wrap IntKind.u64 v) (0 : Int) (4 : Int))), pn_), (vi_ (IntKind.wrap IntKind.i64 (half_Get (IntKind.wrap IntKind.u64 v) (4 : Int) (12 : Int))), pn_), (vi_ (IntKind.wrap IntKind.i64 (half_Get (IntKind.wrap IntKind.u64 v) (16 : Int) (4 : Int))), pn_)], kc_ b_1 86 [(vi_ (IntKind.wrap IntKind.i64 (half_Get (IntKind.wrap IntKind.u64 v) (0 : Int) (4 : Int))), pn_), (vi_ (IntKind.wrap IntKind.i64 (half_Get (IntKind.wrap IntKind.u64 v) (4 : Int) (12 : Int))), pn_), (vi_ (IntKind.wrap IntKind.i64 (half_Get (IntKind.wrap IntKind.u64 v) (16 : Int) (4 : Int))), pn_)]]))
    (by kernel_rfl)
    (fun b0_0 => fun b1_0 => ⟨fun z2 => RetOk.at (outf := info_Get_out) (nwf := info_Get_nw) (rowsf := info_Get_rows) (r := ((0 : Int), (0 : Int), (0 : Int), false)) (by first | exact Eq.symm ((cT z2).trans rfl) | (simp only [info_Get, z2, cond_true, cond_false]; done) | (exfalso; simp_all; done) | decide) ⟨[], [], (by decide), rfl, rfl, trivial⟩, fun z2 => RetOk.at (outf := info_Get_out) (nwf := info_Get_nw) (rowsf := info_Get_rows) (r := (IntKind.wrap IntKind.i64 (half_Get (IntKind.wrap IntKind.u64 v) (0 : Int) (4 : Int)), IntKind.wrap IntKind.i64 (half_Get (IntKind.wrap IntKind.u64 v) (4 : Int) (12 : Int)), IntKind.wrap IntKind.i64 (half_Get (IntKind.wrap IntKind.u64 v) (16 : Int) (4 : Int)), true)) (by first | exact Eq.symm ((cF z2).trans rfl) | (simp only [info_Get, z2, cond_true, cond_false]; done) | (exfalso; simp_all; done) | decide) ⟨[], [], (by decide), rfl, rfl, trivial⟩⟩)
end
def info_Get_e : Entry Sg := fun
  | [(.int .u32 v, _)] => some ⟨(info_Get v), fun (r_ : Int × Int × Int × Bool) => ⟨[], none, [], fun ss => .tuple #[.agg #[.int .i64 (r_.1), .int .i64 (r_.2.1), .int .i64 (r_.2.2.1)], .bool (r_.2.2.2)], fun k_ => .no⟩⟩
  | _ => none
theorem info_Get_ok : EntryOk Dg Try.prog 106 info_Get_e := by
  intro args c r h hr_
  unfold info_Get_e at h
  split at h
  · injection h with h; subst h; subst hr_
    refine ⟨fun K acs _ => pOk_no, fun hpre E G w hi hS => ?_⟩
    exact entry_post Dg (by exact rfl) (info_Get_calls _  hS)
  · cases h
def T_info_Get : List (Nat × Entry Sg) := (106, info_Get_e) :: T_info_Put
theorem T_info_Get_ok : TableOk Dg Try.prog T_info_Get := TableOk.cons Dg info_Get_ok T_info_Put_ok

/- nacreref09.Right -/
def r09_Right (k : Int) (l : Int) (c : Int) : Bool := (bif k == (0 : Int) then l == (0 : Int) && c == (0 : Int) else (bif k == (1 : Int) then (bif k == (1 : Int) then decide (l ≥ (1 : Int)) && decide (l ≤ (1024 : Int)) && c == (0 : Int) else (bif k == (3 : Int) then l == (1 : Int) && decide (c ≥ (0 : Int)) && decide (c ≤ (8 : Int)) else false)) else (bif k == (2 : Int) then decide (l ≥ (1 : Int)) && decide (l ≤ (1024 : Int)) && c == (0 : Int) else (bif k == (3 : Int) then l == (1 : Int) && decide (c ≥ (0 : Int)) && decide (c ≤ (8 : Int)) else false))))
def r09_Right_out (r_ : Bool) : List Value → Value := fun ss => .bool (r_)
def r09_Right_nw (r_ : Bool) : List (Chunk Sg) := []
def r09_Right_rows (r_ : Bool) : List (Mk Sg) := []
section
variable (k : Int) (l : Int) (c : Int)
theorem r09_Right_calls {E_ : World} {G_ : Hp} {w_ : World} (hS : Sat E_ G_ w_ []) : Calls Try.prog 104 #[(.agg #[.int .i64 k, .int .i64 l, .int .i64 c])] w_ (Post Dg E_ G_ (r09_Right_out (r09_Right k l c)) (r09_Right_nw (r09_Right k l c)) (r09_Right_rows (r09_Right k l c))) :=
  calls_post Dg T_info_Get_ok (I := []) Try.func104 mix (B := bodyOf Try.f104) (by kernel_rfl) [(.agg #[.int .i64 k, .int .i64 l, .int .i64 c])] [.no] (by kernel_rfl) (objs := []) (ros := []) (psOk_cons pOk_no (psOk_nil)) (by kernel_rfl) (trivial) hS 400
    (t := Tree.fresh fun b => Tree.br (k == (0 : Int)) (Tree.ret (Value.bool (l == (0 : Int) && c == (0 : Int))) pn_ [kc_ b 86 [(vi_ k, pn_), (vi_ l, pn_), (vi_ c, pn_)]]) (Tree.br (k == (1 : Int)) (Tree.br (k == (1 : Int)) (Tree.ret (Value.bool (decide (l ≥ (1 : Int)) && decide (l ≤ (1024 : Int)) && c == (0 : Int))) pn_ [kc_ b 86 [(vi_ k, pn_), (vi_ l, pn_), (vi_ c, pn_)]]) (Tree.br (k == (3 : Int)) (Tree.ret (Value.bool (l == (1 : Int) && decide (c ≥ (0 : Int)) && decide (c ≤ (8 : Int)))) pn_ [kc_ b 86 [(vi_ k, pn_), (vi_ l, pn_), (vi_ c, pn_)]]) (Tree.ret (Value.bool false) pn_ [kc_ b 86 [(vi_ k, pn_), (vi_ l, pn_), (vi_ c, pn_)]]))) (Tree.br (k == (2 : Int)) (Tree.ret (Value.bool (decide (l ≥ (1 : Int)) && decide (l ≤ (1024 : Int)) && c == (0 : Int))) pn_ [kc_ b 86 [(vi_ k, pn_), (vi_ l, pn_), (vi_ c, pn_)]]) (Tree.br (k == (3 : Int)) (Tree.ret (Value.bool (l == (1 : Int) && decide (c ≥ (0 : Int)) && decide (c ≤ (8 : Int)))) pn_ [kc_ b 86 [(vi_ k, pn_), (vi_ l, pn_), (vi_ c, pn_)]]) (Tree.ret (Value.bool false) pn_ [kc_ b 86 [(vi_ k, pn_), (vi_ l, pn_), (vi_ c, pn_)]])))))
    (by kernel_rfl)
    (fun b0_0 => ⟨fun z1 => RetOk.at (outf := r09_Right_out) (nwf := r09_Right_nw) (rowsf := r09_Right_rows) (r := l == (0 : Int) && c == (0 : Int)) (by first | exact Eq.symm ((cT z1).trans rfl) | (simp only [r09_Right, z1, cond_true, cond_false]; done) | (exfalso; simp_all; done) | decide) ⟨[], [], (by decide), rfl, rfl, trivial⟩, fun z1 => ⟨fun z2 => ⟨fun z3 => RetOk.at (outf := r09_Right_out) (nwf := r09_Right_nw) (rowsf := r09_Right_rows) (r := decide (l ≥ (1 : Int)) && decide (l ≤ (1024 : Int)) && c == (0 : Int)) (by first | exact Eq.symm ((cF z1).trans ((cT z2).trans ((cT z3).trans rfl))) | (simp only [r09_Right, z1, z2, z3, cond_true, cond_false]; done) | (exfalso; simp_all; done) | decide) ⟨[], [], (by decide), rfl, rfl, trivial⟩, fun z3 => ⟨fun z4 => RetOk.at (outf := r09_Right_out) (nwf := r09_Right_nw) (rowsf := r09_Right_rows) (r := l == (1 : Int) && decide (c ≥ (0 : Int)) && decide (c ≤ (8 : Int))) (by first | exact Eq.symm ((cF z1).trans ((cT z2).trans ((cF z3).trans ((cT z4).trans rfl)))) | (simp only [r09_Right, z1, z2, z3, z4, cond_true, cond_false]; done) | (exfalso; simp_all; done) | decide) ⟨[], [], (by decide), rfl, rfl, trivial⟩, fun z4 => RetOk.at (outf := r09_Right_out) (nwf := r09_Right_nw) (rowsf := r09_Right_rows) (r := false) (by first | exact Eq.symm ((cF z1).trans ((cT z2).trans ((cF z3).trans ((cF z4).trans rfl)))) | (simp only [r09_Right, z1, z2, z3, z4, cond_true, cond_false]; done) | (exfalso; simp_all; done) | decide) ⟨[], [], (by decide), rfl, rfl, trivial⟩⟩⟩, fun z2 => ⟨fun z3 => RetOk.at (outf := r09_Right_out) (nwf := r09_Right_nw) (rowsf := r09_Right_rows) (r := decide (l ≥ (1 : Int)) && decide (l ≤ (1024 : Int)) && c == (0 : Int)) (by first | exact Eq.symm ((cF z1).trans ((cF z2).trans ((cT z3).trans rfl))) | (simp only [r09_Right, z1, z2, z3, cond_true, cond_false]; done) | (exfalso; simp_all; done) | decide) ⟨[], [], (by decide), rfl, rfl, trivial⟩, fun z3 => ⟨fun z4 => RetOk.at (outf := r09_Right_out) (nwf := r09_Right_nw) (rowsf := r09_Right_rows) (r := l == (1 : Int) && decide (c ≥ (0 : Int)) && decide (c ≤ (8 : Int))) (by first | exact Eq.symm ((cF z1).trans ((cF z2).trans ((cF z3).trans ((cT z4).trans rfl)))) | (simp only [r09_Right, z1, z2, z3, z4, cond_true, cond_false]; done) | (exfalso; simp_all; done) | decide) ⟨[], [], (by decide), rfl, rfl, trivial⟩, fun z4 => RetOk.at (outf := r09_Right_out) (nwf := r09_Right_nw) (rowsf := r09_Right_rows) (r := false) (by first | exact Eq.symm ((cF z1).trans ((cF z2).trans ((cF z3).trans ((cF z4).trans rfl)))) | (simp only [r09_Right, z1, z2, z3, z4, cond_true, cond_false]; done) | (exfalso; simp_all; done) | decide) ⟨[], [], (by decide), rfl, rfl, trivial⟩⟩⟩⟩⟩)
end
def r09_Right_e : Entry Sg := fun
  | [(.agg ⟨[.int .i64 k, .int .i64 l, .int .i64 c]⟩, .none)] => some ⟨(r09_Right k l c), fun (r_ : Bool) => ⟨[], none, [], fun ss => .bool (r_), fun k_ => .no⟩⟩
  | _ => none
theorem r09_Right_ok : EntryOk Dg Try.prog 104 r09_Right_e := by
  intro args c r h hr_
  unfold r09_Right_e at h
  split at h
  · injection h with h; subst h; subst hr_
    refine ⟨fun K acs _ => pOk_no, fun hpre E G w hi hS => ?_⟩
    exact entry_post Dg (by exact rfl) (r09_Right_calls _ _ _  hS)
  · cases h
def T_r09_Right : List (Nat × Entry Sg) := (104, r09_Right_e) :: T_info_Get
theorem T_r09_Right_ok : TableOk Dg Try.prog T_r09_Right := TableOk.cons Dg r09_Right_ok T_info_Get_ok

/- nacreref09.Put -/
def r09_Put (k : Int) (l : Int) (c : Int) : Int × Bool := (bif !r09_Right k l c then ((0 : Int), false) else (IntKind.wrap IntKind.u32 (IntKind.wrap IntKind.i64 (IntKind.wrap IntKind.i64 (k + IntKind.wrap IntKind.i64 ((16 : Int) * l)) + IntKind.wrap IntKind.i64 ((65536 : Int) * c))), true))
def r09_Put_out (r_ : Int × Bool) : List Value → Value := fun ss => .tuple #[.int .u32 (r_.1), .bool (r_.2)]
def r09_Put_nw (r_ : Int × Bool) : List (Chunk Sg) := []
def r09_Put_rows (r_ : Int × Bool) : List (Mk Sg) := []
section
variable (k : Int) (l : Int) (c : Int)
theorem r09_Put_calls {E_ : World} {G_ : Hp} {w_ : World} (hS : Sat E_ G_ w_ []) : Calls Try.prog 116 #[(.agg #[.int .i64 k, .int .i64 l, .int .i64 c])] w_ (Post Dg E_ G_ (r09_Put_out (r09_Put k l c)) (r09_Put_nw (r09_Put k l c)) (r09_Put_rows (r09_Put k l c))) :=
  calls_post Dg T_r09_Right_ok (I := []) Try.func116 mix (B := bodyOf Try.f116) (by kernel_rfl) [(.agg #[.int .i64 k, .int .i64 l, .int .i64 c])] [.no] (by kernel_rfl) (objs := []) (ros := []) (psOk_cons pOk_no (psOk_nil)) (by kernel_rfl) (trivial) hS 400
    (t := Tree.fresh fun b => Tree.br (!r09_Right k l c) (Tree.ret (Value.tuple { toList := [vu_ (0 : Int), Value.bool false] }) pn_ [kc_ b 86 [(vi_ k, pn_), (vi_ l, pn_), (vi_ c, pn_)]]) (Tree.ret (Value.tuple { toList := [vu_ (IntKind.wrap IntKind.u32 (IntKind.wrap IntKind.i64 (IntKind.wrap IntKind.i64 (k + IntKind.wrap IntKind.i64 ((16 : Int) * l)) + IntKind.wrap IntKind.i64 ((65536 : Int) * c)))), Value.bool true] }) pn_ [kc_ b 86 [(vi_ k, pn_), (vi_ l, pn_), (vi_ c, pn_)]]))
    (by kernel_rfl)
    (fun b0_0 => ⟨fun z1 => RetOk.at (outf := r09_Put_out) (nwf := r09_Put_nw) (rowsf := r09_Put_rows) (r := ((0 : Int), false)) (by first | exact Eq.symm ((cT z1).trans rfl) | (simp only [r09_Put, z1, cond_true, cond_false]; done) | (exfalso; simp_all; done) | decide) ⟨[], [], (by decide), rfl, rfl, trivial⟩, fun z1 => RetOk.at (outf := r09_Put_out) (nwf := r09_Put_nw) (rowsf := r09_Put_rows) (r := (IntKind.wrap IntKind.u32 (IntKind.wrap IntKind.i64 (IntKind.wrap IntKind.i64 (k + IntKind.wrap IntKind.i64 ((16 : Int) * l)) + IntKind.wrap IntKind.i64 ((65536 : Int) * c))), true)) (by first | exact Eq.symm ((cF z1).trans rfl) | (simp only [r09_Put, z1, cond_true, cond_false]; done) | (exfalso; simp_all; done) | decide) ⟨[], [], (by decide), rfl, rfl, trivial⟩⟩)
end
def r09_Put_e : Entry Sg := fun
  | [(.agg ⟨[.int .i64 k, .int .i64 l, .int .i64 c]⟩, .none)] => some ⟨(r09_Put k l c), fun (r_ : Int × Bool) => ⟨[], none, [], fun ss => .tuple #[.int .u32 (r_.1), .bool (r_.2)], fun k_ => .no⟩⟩
  | _ => none
theorem r09_Put_ok : EntryOk Dg Try.prog 116 r09_Put_e := by
  intro args c r h hr_
  unfold r09_Put_e at h
  split at h
  · injection h with h; subst h; subst hr_
    refine ⟨fun K acs _ => pOk_no, fun hpre E G w hi hS => ?_⟩
    exact entry_post Dg (by exact rfl) (r09_Put_calls _ _ _  hS)
  · cases h
def T_r09_Put : List (Nat × Entry Sg) := (116, r09_Put_e) :: T_r09_Right
theorem T_r09_Put_ok : TableOk Dg Try.prog T_r09_Put := TableOk.cons Dg r09_Put_ok T_r09_Right_ok

/- nacreref09.Get -/
def r09_Get (v : Int) : Int × Int × Int × Bool := (bif !r09_Right (IntKind.wrap IntKind.i64 (Int.tmod v (16 : Int))) (IntKind.wrap IntKind.i64 (Int.tmod (IntKind.wrap IntKind.u32 (Int.tdiv v (16 : Int))) (4096 : Int))) (IntKind.wrap IntKind.i64 (IntKind.wrap IntKind.u32 (Int.tdiv v (65536 : Int)))) then ((0 : Int), (0 : Int), (0 : Int), false) else (IntKind.wrap IntKind.i64 (Int.tmod v (16 : Int)), IntKind.wrap IntKind.i64 (Int.tmod (IntKind.wrap IntKind.u32 (Int.tdiv v (16 : Int))) (4096 : Int)), IntKind.wrap IntKind.i64 (IntKind.wrap IntKind.u32 (Int.tdiv v (65536 : Int))), true))
def r09_Get_out (r_ : Int × Int × Int × Bool) : List Value → Value := fun ss => .tuple #[.agg #[.int .i64 (r_.1), .int .i64 (r_.2.1), .int .i64 (r_.2.2.1)], .bool (r_.2.2.2)]
def r09_Get_nw (r_ : Int × Int × Int × Bool) : List (Chunk Sg) := []
def r09_Get_rows (r_ : Int × Int × Int × Bool) : List (Mk Sg) := []
section
variable (v : Int)
theorem r09_Get_calls {E_ : World} {G_ : Hp} {w_ : World} (hS : Sat E_ G_ w_ []) : Calls Try.prog 72 #[(.int .u32 v)] w_ (Post Dg E_ G_ (r09_Get_out (r09_Get v)) (r09_Get_nw (r09_Get v)) (r09_Get_rows (r09_Get v))) :=
  calls_post Dg T_r09_Put_ok (I := []) Try.func72 mix (B := bodyOf Try.f72) (by kernel_rfl) [(.int .u32 v)] [.no] (by kernel_rfl) (objs := []) (ros := []) (psOk_cons pOk_no (psOk_nil)) (by kernel_rfl) (trivial) hS 400
    (t := Tree.fresh fun b => Tree.fresh fun b_1 => Tree.br (!r09_Right (IntKind.wrap IntKind.i64 (Int.tmod v (16 : Int))) (IntKind.wrap IntKind.i64 (Int.tmod (IntKind.wrap IntKind.u32 (Int.tdiv v (16 : Int))) (4096 : Int))) (IntKind.wrap IntKind.i64 (IntKind.wrap IntKind.u32 (Int.tdiv v (65536 : Int))))) (Tree.ret (Value.tuple { toList := [Value.agg { toList := [vi_ (0 : Int), vi_ (0 : Int), vi_ (0 : Int)] }, Value.bool false] }) pn_ [kc_ b 86 [(vi_ (0 : Int), pn_), (vi_ (0 : Int), pn_), (vi_ (0 : Int), pn_)], kc_ b_1 86 [(vi_ (IntKind.wrap IntKind.i64 (Int.tmod v (16 : Int))), pn_), (vi_ (IntKind.wrap IntKind.i64 (Int.tmod (IntKind.wrap IntKind.u32 (Int.tdiv v (16 : Int))) (4096 : Int))), pn_), (vi_ (IntKind.wrap IntKind.i64 (IntKind.wrap IntKind.u32 (Int.tdiv v (65536 : Int)))), pn_)]]) (Tree.ret (Value.tuple { toList := [Value.agg { toList := [vi_ (IntKind.wrap IntKind.i64 (Int.tmod v (16 : Int))), vi_ (IntKind.wrap IntKind.i64 (Int.tmod (IntKind.wrap IntKind.u32 (Int.tdiv v (16 : Int))) (4096 : Int))), vi_ (IntKind.wrap IntKind.i64 (IntKind.wrap IntKind.u32 (Int.tdiv v (65536 : Int))))] }, Value.bool true] }) pn_ [kc_ b 86 [(vi_ (IntKind.wrap IntKind.i64 (Int.tmod v (16 : Int))), pn_), (vi_ (IntKind.wrap IntKind.i64 (Int.tmod (IntKind.wrap IntKind.u32 (Int.tdiv v (16 : Int))) (4096 : Int))), pn_), (vi_ (IntKind.wrap IntKind.i64 (IntKind.wrap IntKind.u32 (Int.tdiv v (65536 : Int)))), pn_)], kc_ b_1 86 [(vi_ (IntKind.wrap IntKind.i64 (Int.tmod v (16 : Int))), pn_), (vi_ (IntKind.wrap IntKind.i64 (Int.tmod (IntKind.wrap IntKind.u32 (Int.tdiv v (16 : Int))) (4096 : Int))), pn_), (vi_ (IntKind.wrap IntKind.i64 (IntKind.wrap IntKind.u32 (Int.tdiv v (65536 : Int)))), pn_)]]))
    (by kernel_rfl)
    (fun b0_0 => fun b1_0 => ⟨fun z2 => RetOk.at (outf := r09_Get_out) (nwf := r09_Get_nw) (rowsf := r09_Get_rows) (r := ((0 : Int), (0 : Int), (0 : Int), false)) (by first | exact Eq.symm ((cT z2).trans rfl) | (simp only [r09_Get, z2, cond_true, cond_false]; done) | (exfalso; simp_all; done) | decide) ⟨[], [], (by decide), rfl, rfl, trivial⟩, fun z2 => RetOk.at (outf := r09_Get_out) (nwf := r09_Get_nw) (rowsf := r09_Get_rows) (r := (IntKind.wrap IntKind.i64 (Int.tmod v (16 : Int)), IntKind.wrap IntKind.i64 (Int.tmod (IntKind.wrap IntKind.u32 (Int.tdiv v (16 : Int))) (4096 : Int)), IntKind.wrap IntKind.i64 (IntKind.wrap IntKind.u32 (Int.tdiv v (65536 : Int))), true)) (by first | exact Eq.symm ((cF z2).trans rfl) | (simp only [r09_Get, z2, cond_true, cond_false]; done) | (exfalso; simp_all; done) | decide) ⟨[], [], (by decide), rfl, rfl, trivial⟩⟩)
end
def r09_Get_e : Entry Sg := fun
  | [(.int .u32 v, _)] => some ⟨(r09_Get v), fun (r_ : Int × Int × Int × Bool) => ⟨[], none, [], fun ss => .tuple #[.agg #[.int .i64 (r_.1), .int .i64 (r_.2.1), .int .i64 (r_.2.2.1)], .bool (r_.2.2.2)], fun k_ => .no⟩⟩
  | _ => none
theorem r09_Get_ok : EntryOk Dg Try.prog 72 r09_Get_e := by
  intro args c r h hr_
  unfold r09_Get_e at h
  split at h
  · injection h with h; subst h; subst hr_
    refine ⟨fun K acs _ => pOk_no, fun hpre E G w hi hS => ?_⟩
    exact entry_post Dg (by exact rfl) (r09_Get_calls _  hS)
  · cases h
def T_r09_Get : List (Nat × Entry Sg) := (72, r09_Get_e) :: T_r09_Put
theorem T_r09_Get_ok : TableOk Dg Try.prog T_r09_Get := TableOk.cons Dg r09_Get_ok T_r09_Put_ok

/- nacreref09.Value -/
def r09_Value (k : Int) (l : Int) (c : Int) : Int := Prod.fst (r09_Put k l c)
def r09_Value_out (r_ : Int) : List Value → Value := fun ss => .int .u32 (r_)
def r09_Value_nw (r_ : Int) : List (Chunk Sg) := []
def r09_Value_rows (r_ : Int) : List (Mk Sg) := []
section
variable (k : Int) (l : Int) (c : Int)
theorem r09_Value_calls {E_ : World} {G_ : Hp} {w_ : World} (hS : Sat E_ G_ w_ []) : Calls Try.prog 84 #[(.int .i64 k), (.int .i64 l), (.int .i64 c)] w_ (Post Dg E_ G_ (r09_Value_out (r09_Value k l c)) (r09_Value_nw (r09_Value k l c)) (r09_Value_rows (r09_Value k l c))) :=
  calls_post Dg T_r09_Get_ok (I := []) Try.func84 mix (B := bodyOf Try.f84) (by kernel_rfl) [(.int .i64 k), (.int .i64 l), (.int .i64 c)] [.no, .no, .no] (by kernel_rfl) (objs := []) (ros := []) (psOk_cons pOk_no (psOk_cons pOk_no (psOk_cons pOk_no (psOk_nil)))) (by kernel_rfl) (trivial) hS 400
    (t := Tree.ret (vu_ (Prod.fst (r09_Put k l c))) pn_ [])
    (by kernel_rfl)
    (RetOk.at (outf := r09_Value_out) (nwf := r09_Value_nw) (rowsf := r09_Value_rows) (r := Prod.fst (r09_Put k l c)) (by first | exact Eq.symm rfl | (simp only [r09_Value, cond_true, cond_false]; done) | (exfalso; simp_all; done) | decide) ⟨[], [], (by decide), rfl, rfl, trivial⟩)
end
def r09_Value_e : Entry Sg := fun
  | [(.int .i64 k, _), (.int .i64 l, _), (.int .i64 c, _)] => some ⟨(r09_Value k l c), fun (r_ : Int) => ⟨[], none, [], fun ss => .int .u32 (r_), fun k_ => .no⟩⟩
  | _ => none
theorem r09_Value_ok : EntryOk Dg Try.prog 84 r09_Value_e := by
  intro args c r h hr_
  unfold r09_Value_e at h
  split at h
  · injection h with h; subst h; subst hr_
    refine ⟨fun K acs _ => pOk_no, fun hpre E G w hi hS => ?_⟩
    exact entry_post Dg (by exact rfl) (r09_Value_calls _ _ _  hS)
  · cases h
def T_r09_Value : List (Nat × Entry Sg) := (84, r09_Value_e) :: T_r09_Get
theorem T_r09_Value_ok : TableOk Dg Try.prog T_r09_Value := TableOk.cons Dg r09_Value_ok T_r09_Get_ok

/- nacreref04.Right -/
def r04_Right (t : Int) (p : Int) (s : Int) : Bool := decide (t ≥ (1 : Int)) && decide (t ≤ (16 : Int)) && decide (p ≥ (4 : Int)) && decide (p ≤ (1024 : Int)) && decide (s ≥ (10 : Int)) && decide (s ≤ (20 : Int))
def r04_Right_out (r_ : Bool) : List Value → Value := fun ss => .bool (r_)
def r04_Right_nw (r_ : Bool) : List (Chunk Sg) := []
def r04_Right_rows (r_ : Bool) : List (Mk Sg) := []
section
variable (t : Int) (p : Int) (s : Int)
theorem r04_Right_calls {E_ : World} {G_ : Hp} {w_ : World} (hS : Sat E_ G_ w_ []) : Calls Try.prog 92 #[(.agg #[.int .i64 t, .int .i64 p, .int .i64 s])] w_ (Post Dg E_ G_ (r04_Right_out (r04_Right t p s)) (r04_Right_nw (r04_Right t p s)) (r04_Right_rows (r04_Right t p s))) :=
  calls_post Dg T_r09_Value_ok (I := []) Try.func92 mix (B := bodyOf Try.f92) (by kernel_rfl) [(.agg #[.int .i64 t, .int .i64 p, .int .i64 s])] [.no] (by kernel_rfl) (objs := []) (ros := []) (psOk_cons pOk_no (psOk_nil)) (by kernel_rfl) (trivial) hS 400
    (t := Tree.fresh fun b => Tree.ret (Value.bool (decide (t ≥ (1 : Int)) && decide (t ≤ (16 : Int)) && decide (p ≥ (4 : Int)) && decide (p ≤ (1024 : Int)) && decide (s ≥ (10 : Int)) && decide (s ≤ (20 : Int)))) pn_ [kc_ b 77 [(vi_ t, pn_), (vi_ p, pn_), (vi_ s, pn_)]])
    (by kernel_rfl)
    (fun b0_0 => RetOk.at (outf := r04_Right_out) (nwf := r04_Right_nw) (rowsf := r04_Right_rows) (r := decide (t ≥ (1 : Int)) && decide (t ≤ (16 : Int)) && decide (p ≥ (4 : Int)) && decide (p ≤ (1024 : Int)) && decide (s ≥ (10 : Int)) && decide (s ≤ (20 : Int))) (by first | exact Eq.symm rfl | (simp only [r04_Right, cond_true, cond_false]; done) | (exfalso; simp_all; done) | decide) ⟨[], [], (by decide), rfl, rfl, trivial⟩)
end
def r04_Right_e : Entry Sg := fun
  | [(.agg ⟨[.int .i64 t, .int .i64 p, .int .i64 s]⟩, .none)] => some ⟨(r04_Right t p s), fun (r_ : Bool) => ⟨[], none, [], fun ss => .bool (r_), fun k_ => .no⟩⟩
  | _ => none
theorem r04_Right_ok : EntryOk Dg Try.prog 92 r04_Right_e := by
  intro args c r h hr_
  unfold r04_Right_e at h
  split at h
  · injection h with h; subst h; subst hr_
    refine ⟨fun K acs _ => pOk_no, fun hpre E G w hi hS => ?_⟩
    exact entry_post Dg (by exact rfl) (r04_Right_calls _ _ _  hS)
  · cases h
def T_r04_Right : List (Nat × Entry Sg) := (92, r04_Right_e) :: T_r09_Value
theorem T_r04_Right_ok : TableOk Dg Try.prog T_r04_Right := TableOk.cons Dg r04_Right_ok T_r09_Value_ok

def idxOr : Option Nat → Int
  | some i => (i : Int)
  | none => -1


/- conf.bounds -/
def conf_bounds (t : Int) (p : Int) (s : Int) : List Int × List Int × List Int := ([t, p, s], [(1 : Int), (4 : Int), (10 : Int)], [(16 : Int), (1024 : Int), (20 : Int)])
def conf_bounds_out (r_ : List Int × List Int × List Int) : List Value → Value := fun ss => ss.getD 0 undef
def conf_bounds_nw (r_ : List Int × List Int × List Int) : List (Chunk Sg) := []
def conf_bounds_rows (r_ : List Int × List Int × List Int) : List (Mk Sg) := [.row 171 [.ints .i64 (r_.1), .ints .i64 (r_.2.1), .ints .i64 (r_.2.2)]]
section
variable (t : Int) (p : Int) (s : Int)
theorem conf_bounds_calls {E_ : World} {G_ : Hp} {w_ : World} (hS : Sat E_ G_ w_ []) : Calls Try.prog 146 #[(.agg #[.int .i64 t, .int .i64 p, .int .i64 s])] w_ (Post Dg E_ G_ (conf_bounds_out (conf_bounds t p s)) (conf_bounds_nw (conf_bounds t p s)) (conf_bounds_rows (conf_bounds t p s))) :=
  calls_post Dg T_r04_Right_ok (I := []) Try.func146 mix (B := bodyOf Try.f146) (by kernel_rfl) [(.agg #[.int .i64 t, .int .i64 p, .int .i64 s])] [.no] (by kernel_rfl) (objs := []) (ros := []) (psOk_cons pOk_no (psOk_nil)) (by kernel_rfl) (trivial) hS 400
    (t := Tree.fresh fun b => Tree.fresh fun b_1 => Tree.ret (Value.slice (some { block := b_1, off := 0 }) 3 3) (ps_ 1) [kc_ b 77 [(vi_ t, pn_), (vi_ p, pn_), (vi_ s, pn_)], kr_ (some b_1) 171 3 3 [ci_ [t, p, s], ci_ [(1 : Int), (4 : Int), (10 : Int)], ci_ [(16 : Int), (1024 : Int), (20 : Int)]]])
    (by kernel_rfl)
    (fun b0_0 => fun b1_0 => RetOk.at (outf := conf_bounds_out) (nwf := conf_bounds_nw) (rowsf := conf_bounds_rows) (r := ([t, p, s], [(1 : Int), (4 : Int), (10 : Int)], [(16 : Int), (1024 : Int), (20 : Int)])) (by first | exact Eq.symm rfl | (simp only [conf_bounds, cond_true, cond_false]; done) | (exfalso; simp_all; done) | decide) ⟨[(some b1_0, 3, 3)], [1], (by decide), rfl, rfl, ⟨.inl rfl, trivial⟩⟩)
end
def conf_bounds_e : Entry Sg := fun
  | [(.agg ⟨[.int .i64 t, .int .i64 p, .int .i64 s]⟩, .none)] => some ⟨(conf_bounds t p s), fun (r_ : List Int × List Int × List Int) => ⟨[], none, [.row 171 [.ints .i64 (r_.1), .ints .i64 (r_.2.1), .ints .i64 (r_.2.2)]], fun ss => ss.getD 0 undef, fun k_ => .pt k_ .slice⟩⟩
  | _ => none
theorem conf_bounds_ok : EntryOk Dg Try.prog 146 conf_bounds_e := by
  intro args c r h hr_
  unfold conf_bounds_e at h
  split at h
  · injection h with h; subst h; subst hr_
    refine ⟨(by
    intro K acs hl
    match acs, hl with
    | [a0_], hl =>
      simp only [acsOk, acOk] at hl
      simp [pOk, psOk, cOk, sliceC, sliceV, sliceVal, lenC, Col.len]), fun hpre E G w hi hS => ?_⟩
    exact entry_post Dg (by exact rfl) (conf_bounds_calls _ _ _  hS)
  · cases h
def T_conf_bounds : List (Nat × Entry Sg) := (146, conf_bounds_e) :: T_r04_Right
theorem T_conf_bounds_ok : TableOk Dg Try.prog T_conf_bounds := TableOk.cons Dg conf_bounds_ok T_r04_Right_ok

/- conf.Check$1 -/
def conf_Check1 (n : Int) (lo : Int) (hi : Int) : Bool := decide (n < lo) || decide (n > hi)
def conf_Check1_out (r_ : Bool) : List Value → Value := fun ss => .bool (r_)
def conf_Check1_nw (r_ : Bool) : List (Chunk Sg) := []
def conf_Check1_rows (r_ : Bool) : List (Mk Sg) := []
section
variable (n : Int) (lo : Int) (hi : Int)
theorem conf_Check1_calls {E_ : World} {G_ : Hp} {w_ : World} (hS : Sat E_ G_ w_ []) : Calls Try.prog 147 #[(.agg #[.int .i64 n, .int .i64 lo, .int .i64 hi])] w_ (Post Dg E_ G_ (conf_Check1_out (conf_Check1 n lo hi)) (conf_Check1_nw (conf_Check1 n lo hi)) (conf_Check1_rows (conf_Check1 n lo hi))) :=
  calls_post Dg T_conf_bounds_ok (I := []) Try.func147 mix (B := bodyOf Try.f147) (by kernel_rfl) [(.agg #[.int .i64 n, .int .i64 lo, .int .i64 hi])] [.no] (by kernel_rfl) (objs := []) (ros := []) (psOk_cons pOk_no (psOk_nil)) (by kernel_rfl) (trivial) hS 400
    (t := Tree.fresh fun b => Tree.ret (Value.bool (decide (n < lo) || decide (n > hi))) pn_ [kc_ b 171 [(vi_ n, pn_), (vi_ lo, pn_), (vi_ hi, pn_)]])
    (by kernel_rfl)
    (fun b0_0 => RetOk.at (outf := conf_Check1_out) (nwf := conf_Check1_nw) (rowsf := conf_Check1_rows) (r := decide (n < lo) || decide (n > hi)) (by first | exact Eq.symm rfl | (simp only [conf_Check1, cond_true, cond_false]; done) | (exfalso; simp_all; done) | decide) ⟨[], [], (by decide), rfl, rfl, trivial⟩)
end
def conf_Check1_e : Entry Sg := fun
  | [(.agg ⟨[.int .i64 n, .int .i64 lo, .int .i64 hi]⟩, .none)] => some ⟨(conf_Check1 n lo hi), fun (r_ : Bool) => ⟨[], none, [], fun ss => .bool (r_), fun k_ => .no⟩⟩
  | _ => none
theorem conf_Check1_ok : EntryOk Dg Try.prog 147 conf_Check1_e := by
  intro args c r h hr_
  unfold conf_Check1_e at h
  split at h
  · injection h with h; subst h; subst hr_
    refine ⟨fun K acs _ => pOk_no, fun hpre E G w hi hS => ?_⟩
    exact entry_post Dg (by exact rfl) (conf_Check1_calls _ _ _  hS)
  · cases h
def T_conf_Check1 : List (Nat × Entry Sg) := (147, conf_Check1_e) :: T_conf_bounds
theorem T_conf_Check1_ok : TableOk Dg Try.prog T_conf_Check1 := TableOk.cons Dg conf_Check1_ok T_conf_bounds_ok

def firstP (n : Nat) (p : Nat → Bool) : Option Nat := (List.range n).find? p
theorem firstP_some {n i : Nat} {p : Nat → Bool} : firstP n p = some i ↔ p i = true ∧ i < n ∧ ∀ j, j < i → p j = false := by
  unfold firstP
  rw [List.find?_range_eq_some]
  simp
theorem firstP_none {n : Nat} {p : Nat → Bool} : firstP n p = none ↔ ∀ j, j < n → p j = false := by
  unfold firstP
  rw [List.find?_range_eq_none]
  simp


/- slices.IndexFunc[[]conf.bound,conf.bound] -/
def IndexBad (xs : List Int) (ys : List Int) (zs : List Int) : Int := idxOr (firstP xs.length fun j => conf_Check1 (xs.getD j 0) (ys.getD j 0) (zs.getD j 0))
def IndexBad_out (r_ : Int) : List Value → Value := fun ss => .int .i64 (r_)
def IndexBad_nw (r_ : Int) : List (Chunk Sg) := []
def IndexBad_rows (r_ : Int) : List (Mk Sg) := []
section
variable (xs : List Int) (ys : List Int) (zs : List Int) (a_0 : Option Addr) (c_0 : Nat)
abbrev IndexBad_T1 : Type := Int → Prop
abbrev IndexBad_L1 (xs : List Int) (ys : List Int) (zs : List Int) (a_0 : Option Addr) (c_0 : Nat) (i : Int) : List Ent := [⟨8, none, .int .i64 i, .no⟩, ⟨7, none, .int .i64 xs.length, .no⟩, ⟨0, none, .slice a_0 xs.length c_0, .pt 0 .slice⟩, ⟨1, none, .func (.func 147) #[] #[], .no⟩]
abbrev IndexBad_K1 (xs : List Int) (ys : List Int) (zs : List Int) (a_0 : Option Addr) (c_0 : Nat) (i : Int) : List (Chunk Sg) := [.ro a_0 xs.length c_0 [.ints .i64 xs, .ints .i64 ys, .ints .i64 zs]]
abbrev IndexBad_H (E_ : World) (G_ : Hp) (xs : List Int) (ys : List Int) (zs : List Int) (a_0 : Option Addr) (c_0 : Nat) (r_ : Int) (Q1 : IndexBad_T1) : Prop := (∀ (i : Int), Q1 i → SW Dg Try.prog 150 (Post Dg E_ G_ (IndexBad_out r_) (IndexBad_nw r_) (IndexBad_rows r_)) (bodyOf Try.f150) Try.f150.ntmps E_ G_ (.code (0 :: [0,1,0,1]) :: .again [0,1,0,1] :: [.blk 0, .code [1,1]]) (IndexBad_L1 xs ys zs a_0 c_0 i) (IndexBad_K1 xs ys zs a_0 c_0 i))
abbrev IndexBad_wp0 (xs : List Int) (ys : List Int) (zs : List Int) (a_0 : Option Addr) (c_0 : Nat) (Q1 : IndexBad_T1) (R_ : Int → Prop) : Prop := (Q1 ((0 : Int)))
abbrev IndexBad_t0 (xs : List Int) (ys : List Int) (zs : List Int) (a_0 : Option Addr) (c_0 : Nat) : Tree Sg := Tree.stuck [Ab.code [0, 1, 0, 1], Ab.blk 0, Ab.code [1, 1]] [e0_ 1000008 (Value.tuple { toList := [] }) pn_, e0_ 8 (vi_ (0 : Int)) pn_, e0_ 7 (vi_ (↑(List.length xs) : Int)) pn_, e0_ 6 (Value.slice a_0 (List.length xs) c_0) (ps_ 0), e0_ 1000004 (Value.tuple { toList := [] }) pn_, e0_ 4 (vi_ (0 : Int)) pn_, e0_ 0 (Value.slice a_0 (List.length xs) c_0) (ps_ 0), e0_ 1 (Value.func (Fn.func 147) { toList := [] } { toList := [] }) pn_] [Chunk.ro a_0 (List.length xs) c_0 [ci_ xs, ci_ ys, ci_ zs]]
theorem IndexBad_pc0 {E_ : World} {G_ : Hp} {r_ : Int} {Q1 : IndexBad_T1} (hQ : IndexBad_H E_ G_ xs ys zs a_0 c_0 r_ Q1) (h : IndexBad_wp0 xs ys zs a_0 c_0 Q1 (fun x => x = r_)) : (IndexBad_t0 xs ys zs a_0 c_0 ).holds (RetOk (IndexBad_out r_) (IndexBad_nw r_) (IndexBad_rows r_)) (SW Dg Try.prog 150 (Post Dg E_ G_ (IndexBad_out r_) (IndexBad_nw r_) (IndexBad_rows r_)) (bodyOf Try.f150) Try.f150.ntmps E_ G_) :=
  SW.move Dg [8, 7, 0, 1] [0] (by decide) (by kernel_rfl) (by kernel_rfl) (SW.enter Dg (by kernel_rfl) (hQ ((0 : Int)) h))
abbrev IndexBad_wp1 (xs : List Int) (ys : List Int) (zs : List Int) (a_0 : Option Addr) (c_0 : Nat) (i : Int) (Q1 : IndexBad_T1) (R_ : Int → Prop) : Prop := (((decide (i < (↑(List.length xs) : Int))) = true → (((0 : Int) ≤ i ∧ i < (↑(List.length xs) : Int)) ∧ (((0 : Int) ≤ i ∧ i < (↑(List.length xs) : Int)) → (((conf_Check1 (List.getD xs (Int.toNat i) (0 : Int)) (List.getD ys (Int.toNat i) (0 : Int)) (List.getD zs (Int.toNat i) (0 : Int))) = true → (R_ (i))) ∧ ((conf_Check1 (List.getD xs (Int.toNat i) (0 : Int)) (List.getD ys (Int.toNat i) (0 : Int)) (List.getD zs (Int.toNat i) (0 : Int))) = false → (Q1 (IntKind.wrap IntKind.i64 (i + (1 : Int))))))))) ∧ ((decide (i < (↑(List.length xs) : Int))) = false → (R_ ((-1 : Int)))))
abbrev IndexBad_t1 (xs : List Int) (ys : List Int) (zs : List Int) (a_0 : Option Addr) (c_0 : Nat) (i : Int) : Tree Sg := Tree.br (decide (i < (↑(List.length xs) : Int))) (Tree.need ((0 : Int) ≤ i ∧ i < (↑(List.length xs) : Int)) (Tree.br (conf_Check1 (List.getD xs (Int.toNat i) (0 : Int)) (List.getD ys (Int.toNat i) (0 : Int)) (List.getD zs (Int.toNat i) (0 : Int))) (Tree.ret (vi_ i) pn_ [Chunk.ro a_0 (List.length xs) c_0 [ci_ xs, ci_ ys, ci_ zs]]) (Tree.stuck [Ab.again [0, 1, 0, 1], Ab.blk 0, Ab.code [1, 1]] [e0_ 8 (vi_ (IntKind.wrap IntKind.i64 (i + (1 : Int)))) pn_, e0_ 18 (vi_ (IntKind.wrap IntKind.i64 (i + (1 : Int)))) pn_, e0_ 16 (Value.bool (conf_Check1 (List.getD xs (Int.toNat i) (0 : Int)) (List.getD ys (Int.toNat i) (0 : Int)) (List.getD zs (Int.toNat i) (0 : Int)))) pn_, e0_ 15 (Value.agg { toList := [vi_ (List.getD xs (Int.toNat i) (0 : Int)), vi_ (List.getD ys (Int.toNat i) (0 : Int)), vi_ (List.getD zs (Int.toNat i) (0 : Int))] }) pn_, e0_ 14 (Value.pointer (Option.map (fun a => Addr.add a (Int.toNat i * 3)) a_0)) (Pr.pt 0 (PK.elem (Int.toNat i) 0)), e0_ 13 (vi_ i) pn_, e0_ 12 (Value.slice a_0 (List.length xs) c_0) (ps_ 0), e0_ 11 (Value.func (Fn.func 147) { toList := [] } { toList := [] }) pn_, e0_ 5 (vi_ i) pn_, e0_ 10 (vi_ i) pn_, e0_ 9 (Value.bool (decide (i < (↑(List.length xs) : Int)))) pn_, e0_ 7 (vi_ (↑(List.length xs) : Int)) pn_, e0_ 0 (Value.slice a_0 (List.length xs) c_0) (ps_ 0), e0_ 1 (Value.func (Fn.func 147) { toList := [] } { toList := [] }) pn_] [Chunk.ro a_0 (List.length xs) c_0 [ci_ xs, ci_ ys, ci_ zs]]))) (Tree.ret (vi_ (-1 : Int)) pn_ [Chunk.ro a_0 (List.length xs) c_0 [ci_ xs, ci_ ys, ci_ zs]])
theorem IndexBad_pc1 {E_ : World} {G_ : Hp} (i : Int) {r_ : Int} {Q1 : IndexBad_T1} (hQ : IndexBad_H E_ G_ xs ys zs a_0 c_0 r_ Q1) (h : IndexBad_wp1 xs ys zs a_0 c_0 i Q1 (fun x => x = r_)) : (IndexBad_t1 xs ys zs a_0 c_0 i ).holds (RetOk (IndexBad_out r_) (IndexBad_nw r_) (IndexBad_rows r_)) (SW Dg Try.prog 150 (Post Dg E_ G_ (IndexBad_out r_) (IndexBad_nw r_) (IndexBad_rows r_)) (bodyOf Try.f150) Try.f150.ntmps E_ G_) :=
  ⟨fun z0 => ⟨(h.1 z0).1, fun z1 => ⟨fun z2 => RetOk.at (outf := IndexBad_out) (nwf := IndexBad_nw) (rowsf := IndexBad_rows) (r := i) (((h.1 z0).2 z1).1 z2) ⟨[], [], (by decide), rfl, rfl, trivial⟩, fun z2 => SW.move Dg [8, 7, 0, 1] [0] (by decide) (by kernel_rfl) (by kernel_rfl) (SW.again Dg (hQ (IntKind.wrap IntKind.i64 (i + (1 : Int))) (((h.1 z0).2 z1).2 z2)))⟩⟩, fun z0 => RetOk.at (outf := IndexBad_out) (nwf := IndexBad_nw) (rowsf := IndexBad_rows) (r := (-1 : Int)) (h.2 z0) ⟨[], [], (by decide), rfl, rfl, trivial⟩⟩
theorem IndexBad_go1 {E_ : World} {G_ : Hp} (i : Int) {r_ : Int} {Q1 : IndexBad_T1} (hQ : IndexBad_H E_ G_ xs ys zs a_0 c_0 r_ Q1) (h : IndexBad_wp1 xs ys zs a_0 c_0 i Q1 (fun x => x = r_)) : SW Dg Try.prog 150 (Post Dg E_ G_ (IndexBad_out r_) (IndexBad_nw r_) (IndexBad_rows r_)) (bodyOf Try.f150) Try.f150.ntmps E_ G_ (.code (0 :: [0,1,0,1]) :: .again [0,1,0,1] :: [.blk 0, .code [1,1]]) (IndexBad_L1 xs ys zs a_0 c_0 i) (IndexBad_K1 xs ys zs a_0 c_0 i) :=
  SW.go Dg T_conf_Check1_ok (I := []) Try.func150 mix 400 (t := IndexBad_t1 xs ys zs a_0 c_0 i ) (by kernel_rfl) (IndexBad_pc1 xs ys zs a_0 c_0 i hQ h)
theorem IndexBad_start {E_ : World} {G_ : Hp} {w_ : World} (hr0 : RowAt G_ a_0 xs.length [.ints .i64 xs, .ints .i64 ys, .ints .i64 zs]) {r_ : Int} {Q1 : IndexBad_T1} (hQ : IndexBad_H E_ G_ xs ys zs a_0 c_0 r_ Q1) (hS : Sat E_ G_ w_ []) (h : IndexBad_wp0 xs ys zs a_0 c_0 Q1 (fun x => x = r_)) : Calls Try.prog 150 #[(.slice a_0 xs.length c_0), (.func (.func 147) #[] #[])] w_ (Post Dg E_ G_ (IndexBad_out r_) (IndexBad_nw r_) (IndexBad_rows r_)) :=
  calls_post Dg T_conf_Check1_ok (I := []) Try.func150 mix (B := bodyOf Try.f150) (by kernel_rfl) [(.slice a_0 xs.length c_0), (.func (.func 147) #[] #[])] [.pt 0 .slice, .no] (by kernel_rfl) (objs := []) (ros := [.ro a_0 xs.length c_0 [.ints .i64 xs, .ints .i64 ys, .ints .i64 zs]]) (psOk_cons (pOk_at rfl rfl) (psOk_cons pOk_no (psOk_nil))) (by kernel_rfl) (⟨hr0, trivial⟩) hS 400
    (t := IndexBad_t0 xs ys zs a_0 c_0)
    (by kernel_rfl)
    (IndexBad_pc0 xs ys zs a_0 c_0 hQ h)
def IndexBad_I (xs : List Int) (ys : List Int) (zs : List Int) (a_0 : Option Addr) (c_0 : Nat) (i : Int) (r_ : Int) : Prop := 0 ≤ i ∧ i ≤ xs.length ∧ (∀ j : Nat, j < i.toNat → conf_Check1 (xs.getD j 0) (ys.getD j 0) (zs.getD j 0) = false) ∧ r_ = IndexBad xs ys zs ∧ xs.length ≤ 9223372036854775807
theorem IndexBad_step (i : Int) {r_ : Int} (hI : IndexBad_I xs ys zs a_0 c_0 i r_) : IndexBad_wp1 xs ys zs a_0 c_0 i (fun i' => IndexBad_I xs ys zs a_0 c_0 i' r_ ∧ ((xs.length - i').toNat) < ((xs.length - i).toNat)) (fun x => x = r_) := by
  unfold IndexBad_I at hI
  unfold IndexBad_wp1 IndexBad_I
  obtain ⟨h0, h1, h2, h3, hl⟩ := hI
  refine ⟨fun h => ?_, fun h => ?_⟩
  · simp only [decide_eq_true_eq] at h
    refine ⟨by omega, fun _ => ⟨fun hg => ?_, fun hg => ?_⟩⟩
    · have := (firstP_some (n := xs.length) (p := fun j => conf_Check1 (xs.getD j 0) (ys.getD j 0) (zs.getD j 0))).2 ⟨hg, by omega, h2⟩
      show i = r_
      simp only [h3, IndexBad, this, idxOr]
      omega
    · rw [w64 (by omega)]
      refine ⟨⟨by omega, by omega, fun j hj => ?_, h3, hl⟩, by omega⟩
      by_cases hk : j = i.toNat
      · subst hk; exact hg
      · exact h2 j (by omega)
  · simp only [decide_eq_false_iff_not] at h
    show (-1 : Int) = r_
    have := (firstP_none (n := xs.length) (p := fun j => conf_Check1 (xs.getD j 0) (ys.getD j 0) (zs.getD j 0))).2 fun j hj => h2 j (by omega)
    simp only [h3, IndexBad, this, idxOr]
theorem IndexBad_loop {E_ : World} {G_ : Hp} {r_ : Int} : ∀ s_ : Int, IndexBad_I xs ys zs a_0 c_0 s_ r_ → SW Dg Try.prog 150 (Post Dg E_ G_ (IndexBad_out r_) (IndexBad_nw r_) (IndexBad_rows r_)) (bodyOf Try.f150) Try.f150.ntmps E_ G_ (.code (0 :: [0,1,0,1]) :: .again [0,1,0,1] :: [.blk 0, .code [1,1]]) (IndexBad_L1 xs ys zs a_0 c_0 s_) (IndexBad_K1 xs ys zs a_0 c_0 s_) :=
  SW.loop Dg (α := Int) (fun s_ => IndexBad_L1 xs ys zs a_0 c_0 s_) (fun s_ => IndexBad_K1 xs ys zs a_0 c_0 s_) (fun s_ => (xs.length - s_).toNat) (fun s_ => IndexBad_I xs ys zs a_0 c_0 s_ r_) (fun i hI ih => IndexBad_go1 xs ys zs a_0 c_0 i (fun i' h => ih i' h.1 h.2) (IndexBad_step xs ys zs a_0 c_0 i hI))
theorem IndexBad_begin (hl0 : xs.length ≤ 9223372036854775807) : IndexBad_wp0 xs ys zs a_0 c_0 (fun i => IndexBad_I xs ys zs a_0 c_0 i (IndexBad xs ys zs)) (fun x => x = (IndexBad xs ys zs)) := by
  unfold IndexBad_wp0 IndexBad_I
  exact ⟨by omega, by omega, fun j hj => absurd hj (Nat.not_lt_zero j), rfl, hl0⟩
theorem IndexBad_calls {E_ : World} {G_ : Hp} {w_ : World} (hr0 : RowAt G_ a_0 xs.length [.ints .i64 xs, .ints .i64 ys, .ints .i64 zs]) (hS : Sat E_ G_ w_ []) : Calls Try.prog 150 #[(.slice a_0 xs.length c_0), (.func (.func 147) #[] #[])] w_ (Post Dg E_ G_ (IndexBad_out (IndexBad xs ys zs)) (IndexBad_nw (IndexBad xs ys zs)) (IndexBad_rows (IndexBad xs ys zs))) :=
  IndexBad_start xs ys zs a_0 c_0 hr0 (fun i h => IndexBad_loop xs ys zs a_0 c_0 i h) hS (IndexBad_begin xs ys zs a_0 c_0 hr0.bound )
end
def IndexBad_e : Entry Sg := fun
  | [(_, .row n_0 [.ints .i64 xs, .ints .i64 ys, .ints .i64 zs]), (.func (.func 147) ⟨[]⟩ ⟨[]⟩, _)] => some ⟨(IndexBad xs ys zs), fun (r_ : Int) => ⟨[], none, [], fun ss => .int .i64 (r_), fun k_ => .no⟩⟩
  | _ => none
theorem IndexBad_ok : EntryOk Dg Try.prog 150 IndexBad_e := by
  intro args c r h hr_
  unfold IndexBad_e at h
  split at h
  · injection h with h; subst h; subst hr_
    refine ⟨fun K acs _ => pOk_no, fun hpre E G w hi hS => ?_⟩
    have hi_0 := hi _ (List.mem_of_getElem? (i := 0) rfl)
    simp only [iOk] at hi_0
    obtain ⟨a_0, c_0, e_0, hr0⟩ := hi_0
    have l_0 := hr0.len
    simp only [Col.len] at l_0
    subst l_0
    subst e_0
    exact entry_post Dg (by exact rfl) (IndexBad_calls _ _ _ _ _ hr0  hS)
  · cases h
def T_IndexBad : List (Nat × Entry Sg) := (150, IndexBad_e) :: T_conf_Check1
theorem T_IndexBad_ok : TableOk Dg Try.prog T_IndexBad := TableOk.cons Dg IndexBad_ok T_conf_Check1_ok

/- slices.ContainsFunc[[]conf.bound,conf.bound] -/
def ContainsBad (xs : List Int) (ys : List Int) (zs : List Int) : Bool := decide (IndexBad xs ys zs ≥ (0 : Int))
def ContainsBad_out (r_ : Bool) : List Value → Value := fun ss => .bool (r_)
def ContainsBad_nw (r_ : Bool) : List (Chunk Sg) := []
def ContainsBad_rows (r_ : Bool) : List (Mk Sg) := []
section
variable (xs : List Int) (ys : List Int) (zs : List Int) (a_0 : Option Addr) (c_0 : Nat)
theorem ContainsBad_calls {E_ : World} {G_ : Hp} {w_ : World} (hr0 : RowAt G_ a_0 xs.length [.ints .i64 xs, .ints .i64 ys, .ints .i64 zs]) (hS : Sat E_ G_ w_ []) : Calls Try.prog 145 #[(.slice a_0 xs.length c_0), (.func (.func 147) #[] #[])] w_ (Post Dg E_ G_ (ContainsBad_out (ContainsBad xs ys zs)) (ContainsBad_nw (ContainsBad xs ys zs)) (ContainsBad_rows (ContainsBad xs ys zs))) :=
  calls_post Dg T_IndexBad_ok (I := []) Try.func145 mix (B := bodyOf Try.f145) (by kernel_rfl) [(.slice a_0 xs.length c_0), (.func (.func 147) #[] #[])] [.pt 0 .slice, .no] (by kernel_rfl) (objs := []) (ros := [.ro a_0 xs.length c_0 [.ints .i64 xs, .ints .i64 ys, .ints .i64 zs]]) (psOk_cons (pOk_at rfl rfl) (psOk_cons pOk_no (psOk_nil))) (by kernel_rfl) (⟨hr0, trivial⟩) hS 400
    (t := Tree.ret (Value.bool (decide (IndexBad xs ys zs ≥ (0 : Int)))) pn_ [Chunk.ro a_0 (List.length xs) c_0 [ci_ xs, ci_ ys, ci_ zs]])
    (by kernel_rfl)
    (RetOk.at (outf := ContainsBad_out) (nwf := ContainsBad_nw) (rowsf := ContainsBad_rows) (r := decide (IndexBad xs ys zs ≥ (0 : Int))) (by first | exact Eq.symm rfl | (simp only [ContainsBad, cond_true, cond_false]; done) | (exfalso; simp_all; done) | decide) ⟨[], [], (by decide), rfl, rfl, trivial⟩)
end
def ContainsBad_e : Entry Sg := fun
  | [(_, .row n_0 [.ints .i64 xs, .ints .i64 ys, .ints .i64 zs]), (.func (.func 147) ⟨[]⟩ ⟨[]⟩, _)] => some ⟨(ContainsBad xs ys zs), fun (r_ : Bool) => ⟨[], none, [], fun ss => .bool (r_), fun k_ => .no⟩⟩
  | _ => none
theorem ContainsBad_ok : EntryOk Dg Try.prog 145 ContainsBad_e := by
  intro args c r h hr_
  unfold ContainsBad_e at h
  split at h
  · injection h with h; subst h; subst hr_
    refine ⟨fun K acs _ => pOk_no, fun hpre E G w hi hS => ?_⟩
    have hi_0 := hi _ (List.mem_of_getElem? (i := 0) rfl)
    simp only [iOk] at hi_0
    obtain ⟨a_0, c_0, e_0, hr0⟩ := hi_0
    have l_0 := hr0.len
    simp only [Col.len] at l_0
    subst l_0
    subst e_0
    exact entry_post Dg (by exact rfl) (ContainsBad_calls _ _ _ _ _ hr0  hS)
  · cases h
def T_ContainsBad : List (Nat × Entry Sg) := (145, ContainsBad_e) :: T_IndexBad
theorem T_ContainsBad_ok : TableOk Dg Try.prog T_ContainsBad := TableOk.cons Dg ContainsBad_ok T_IndexBad_ok

/- conf.Check -/
def conf_Check (t : Int) (p : Int) (s : Int) : Int := (let r1 : List Int × List Int × List Int := conf_bounds t p s; (bif ContainsBad (Prod.fst r1) (Prod.fst (Prod.snd r1)) (Prod.snd (Prod.snd r1)) then (1 : Int) else (0 : Int)))
def conf_Check_out (r_ : Int) : List Value → Value := fun ss => .int .i64 (r_)
def conf_Check_nw (r_ : Int) : List (Chunk Sg) := []
def conf_Check_rows (r_ : Int) : List (Mk Sg) := []
section
variable (t : Int) (p : Int) (s : Int)
theorem conf_Check_calls {E_ : World} {G_ : Hp} {w_ : World} (hS : Sat E_ G_ w_ []) : Calls Try.prog 140 #[(.agg #[.int .i64 t, .int .i64 p, .int .i64 s])] w_ (Post Dg E_ G_ (conf_Check_out (conf_Check t p s)) (conf_Check_nw (conf_Check t p s)) (conf_Check_rows (conf_Check t p s))) :=
  calls_post Dg T_ContainsBad_ok (I := []) Try.func140 mix (B := bodyOf Try.f140) (by kernel_rfl) [(.agg #[.int .i64 t, .int .i64 p, .int .i64 s])] [.no] (by kernel_rfl) (objs := []) (ros := []) (psOk_cons pOk_no (psOk_nil)) (by kernel_rfl) (trivial) hS 400
    (t := Tree.fresh fun b => Tree.bind (conf_bounds t p s) fun a => Tree.freshS fun a_1 cap => Tree.br (ContainsBad (Prod.fst a) (Prod.fst (Prod.snd a)) (Prod.snd (Prod.snd a))) (Tree.ret (vi_ (1 : Int)) pn_ [kc_ b 77 [(vi_ t, pn_), (vi_ p, pn_), (vi_ s, pn_)], kr_ a_1 171 (List.length (Prod.fst a)) cap [ci_ (Prod.fst a), ci_ (Prod.fst (Prod.snd a)), ci_ (Prod.snd (Prod.snd a))]]) (Tree.ret (vi_ (0 : Int)) pn_ [kc_ b 77 [(vi_ t, pn_), (vi_ p, pn_), (vi_ s, pn_)], kr_ a_1 171 (List.length (Prod.fst a)) cap [ci_ (Prod.fst a), ci_ (Prod.fst (Prod.snd a)), ci_ (Prod.snd (Prod.snd a))]]))
    (by kernel_rfl)
    (fun b0_0 => fun r1 e1 => fun b2_0 b2_1 => ⟨fun z3 => RetOk.at (outf := conf_Check_out) (nwf := conf_Check_nw) (rowsf := conf_Check_rows) (r := (1 : Int)) (by subst e1; first | exact Eq.symm ((cT z3).trans rfl) | (simp only [conf_Check, z3, cond_true, cond_false]; done) | (exfalso; simp_all; done) | decide) ⟨[], [], (by decide), rfl, rfl, trivial⟩, fun z3 => RetOk.at (outf := conf_Check_out) (nwf := conf_Check_nw) (rowsf := conf_Check_rows) (r := (0 : Int)) (by subst e1; first | exact Eq.symm ((cF z3).trans rfl) | (simp only [conf_Check, z3, cond_true, cond_false]; done) | (exfalso; simp_all; done) | decide) ⟨[], [], (by decide), rfl, rfl, trivial⟩⟩)
end
def conf_Check_e : Entry Sg := fun
  | [(.agg ⟨[.int .i64 t, .int .i64 p, .int .i64 s]⟩, .none)] => some ⟨(conf_Check t p s), fun (r_ : Int) => ⟨[], none, [], fun ss => .int .i64 (r_), fun k_ => .no⟩⟩
  | _ => none
theorem conf_Check_ok : EntryOk Dg Try.prog 140 conf_Check_e := by
  intro args c r h hr_
  unfold conf_Check_e at h
  split at h
  · injection h with h; subst h; subst hr_
    refine ⟨fun K acs _ => pOk_no, fun hpre E G w hi hS => ?_⟩
    exact entry_post Dg (by exact rfl) (conf_Check_calls _ _ _  hS)
  · cases h
def T_conf_Check : List (Nat × Entry Sg) := (140, conf_Check_e) :: T_ContainsBad
theorem T_conf_Check_ok : TableOk Dg Try.prog T_conf_Check := TableOk.cons Dg conf_Check_ok T_ContainsBad_ok

theorem conf_Check_eq (t p s : Int) : conf_Check t p s = bif r04_Right t p s then 0 else 1 := by
  have e : ∀ o : Option Nat, decide (idxOr o ≥ 0) = o.isSome := fun o => by cases o <;> simp [idxOr]
  have h : ContainsBad [t, p, s] [1, 4, 10] [16, 1024, 20] = !r04_Right t p s := by
    unfold ContainsBad IndexBad
    rw [e]
    cases hf : firstP [t, p, s].length (fun j => conf_Check1 ([t, p, s].getD j 0) ([1, 4, 10].getD j 0) ([16, 1024, 20].getD j 0)) with
    | none =>
      have hn := firstP_none.1 hf
      have h0 := hn 0 (by simp)
      have h1 := hn 1 (by simp)
      have h2 := hn 2 (by simp)
      simp [conf_Check1] at h0 h1 h2
      have : r04_Right t p s = true := by simp only [r04_Right, Bool.and_eq_true, decide_eq_true_eq]; omega
      rw [this]; rfl
    | some j =>
      obtain ⟨h1, h2, _⟩ := firstP_some.1 hf
      have : r04_Right t p s = false := by
        apply Bool.eq_false_iff.2
        intro hr
        simp only [r04_Right, Bool.and_eq_true, decide_eq_true_eq] at hr
        have hj : j = 0 ∨ j = 1 ∨ j = 2 := by simp at h2; omega
        rcases hj with rfl | rfl | rfl <;> simp [conf_Check1] at h1 <;> omega
      rw [this]; rfl
  unfold conf_Check
  simp only [conf_bounds, h]
  cases r04_Right t p s <;> rfl


/- (place.laid).cells -/
def laid_cells (t : Int) (p : Int) (s : Int) (mk : Int) : Int := IntKind.wrap IntKind.i64 (IntKind.wrap IntKind.i64 ((30 : Int) + IntKind.wrap IntKind.i64 ((4 : Int) * t)) + IntKind.wrap IntKind.i64 ((6 : Int) * p))
def laid_cells_out (r_ : Int) : List Value → Value := fun ss => .int .i64 (r_)
def laid_cells_nw (r_ : Int) : List (Chunk Sg) := []
def laid_cells_rows (r_ : Int) : List (Mk Sg) := []
section
variable (t : Int) (p : Int) (s : Int) (mk : Int)
theorem laid_cells_calls {E_ : World} {G_ : Hp} {w_ : World} (hS : Sat E_ G_ w_ []) : Calls Try.prog 141 #[(.agg #[.int .i64 t, .int .i64 p, .int .i64 s, .int .i64 mk])] w_ (Post Dg E_ G_ (laid_cells_out (laid_cells t p s mk)) (laid_cells_nw (laid_cells t p s mk)) (laid_cells_rows (laid_cells t p s mk))) :=
  calls_post Dg T_conf_Check_ok (I := []) Try.func141 mix (B := bodyOf Try.f141) (by kernel_rfl) [(.agg #[.int .i64 t, .int .i64 p, .int .i64 s, .int .i64 mk])] [.no] (by kernel_rfl) (objs := []) (ros := []) (psOk_cons pOk_no (psOk_nil)) (by kernel_rfl) (trivial) hS 400
    (t := Tree.fresh fun b => Tree.ret (vi_ (IntKind.wrap IntKind.i64 (IntKind.wrap IntKind.i64 ((30 : Int) + IntKind.wrap IntKind.i64 ((4 : Int) * t)) + IntKind.wrap IntKind.i64 ((6 : Int) * p)))) pn_ [kc_ b 153 [(vi_ t, pn_), (vi_ p, pn_), (vi_ s, pn_), (vi_ mk, pn_)]])
    (by kernel_rfl)
    (fun b0_0 => RetOk.at (outf := laid_cells_out) (nwf := laid_cells_nw) (rowsf := laid_cells_rows) (r := IntKind.wrap IntKind.i64 (IntKind.wrap IntKind.i64 ((30 : Int) + IntKind.wrap IntKind.i64 ((4 : Int) * t)) + IntKind.wrap IntKind.i64 ((6 : Int) * p))) (by first | exact Eq.symm rfl | (simp only [laid_cells, cond_true, cond_false]; done) | (exfalso; simp_all; done) | decide) ⟨[], [], (by decide), rfl, rfl, trivial⟩)
end
def laid_cells_e : Entry Sg := fun
  | [(.agg ⟨[.int .i64 t, .int .i64 p, .int .i64 s, .int .i64 mk]⟩, .none)] => some ⟨(laid_cells t p s mk), fun (r_ : Int) => ⟨[], none, [], fun ss => .int .i64 (r_), fun k_ => .no⟩⟩
  | _ => none
theorem laid_cells_ok : EntryOk Dg Try.prog 141 laid_cells_e := by
  intro args c r h hr_
  unfold laid_cells_e at h
  split at h
  · injection h with h; subst h; subst hr_
    refine ⟨fun K acs _ => pOk_no, fun hpre E G w hi hS => ?_⟩
    exact entry_post Dg (by exact rfl) (laid_cells_calls _ _ _ _  hS)
  · cases h
def T_laid_cells : List (Nat × Entry Sg) := (141, laid_cells_e) :: T_conf_Check
theorem T_laid_cells_ok : TableOk Dg Try.prog T_laid_cells := TableOk.cons Dg laid_cells_ok T_conf_Check_ok

/- place.lay -/
def place_lay (t : Int) (p : Int) (s : Int) : Int × Int × Int × Int × Bool := (bif conf_Check t p s != (0 : Int) then ((0 : Int), (0 : Int), (0 : Int), (0 : Int), false) else (t, p, s, IntKind.wrap IntKind.i64 (IntKind.wrap IntKind.i64 (Int.tdiv (IntKind.wrap IntKind.i64 (IntKind.wrap IntKind.i64 (IntKind.wrap IntKind.i64 ((16 : Int) + laid_cells t p s (0 : Int)) + (8 : Int)) - (1 : Int))) (8 : Int)) * (8 : Int)), true))
def place_lay_out (r_ : Int × Int × Int × Int × Bool) : List Value → Value := fun ss => .tuple #[.agg #[.int .i64 (r_.1), .int .i64 (r_.2.1), .int .i64 (r_.2.2.1), .int .i64 (r_.2.2.2.1)], .bool (r_.2.2.2.2)]
def place_lay_nw (r_ : Int × Int × Int × Int × Bool) : List (Chunk Sg) := []
def place_lay_rows (r_ : Int × Int × Int × Int × Bool) : List (Mk Sg) := []
section
variable (t : Int) (p : Int) (s : Int)
theorem place_lay_calls {E_ : World} {G_ : Hp} {w_ : World} (hS : Sat E_ G_ w_ []) : Calls Try.prog 136 #[(.agg #[.int .i64 t, .int .i64 p, .int .i64 s])] w_ (Post Dg E_ G_ (place_lay_out (place_lay t p s)) (place_lay_nw (place_lay t p s)) (place_lay_rows (place_lay t p s))) :=
  calls_post Dg T_laid_cells_ok (I := []) Try.func136 mix (B := bodyOf Try.f136) (by kernel_rfl) [(.agg #[.int .i64 t, .int .i64 p, .int .i64 s])] [.no] (by kernel_rfl) (objs := []) (ros := []) (psOk_cons pOk_no (psOk_nil)) (by kernel_rfl) (trivial) hS 400
    (t := Tree.fresh fun b => Tree.fresh fun b_1 => Tree.br (conf_Check t p s != (0 : Int)) (Tree.ret (Value.tuple { toList := [Value.agg { toList := [vi_ (0 : Int), vi_ (0 : Int), vi_ (0 : Int), vi_ (0 : Int)] }, Value.bool false] }) pn_ [kc_ b 77 [(vi_ t, pn_), (vi_ p, pn_), (vi_ s, pn_)], kc_ b_1 153 [(vi_ (0 : Int), pn_), (vi_ (0 : Int), pn_), (vi_ (0 : Int), pn_), (vi_ (0 : Int), pn_)]]) (Tree.fresh fun b_2 => Tree.ret (Value.tuple { toList := [Value.agg { toList := [vi_ t, vi_ p, vi_ s, vi_ (IntKind.wrap IntKind.i64 (IntKind.wrap IntKind.i64 (Int.tdiv (IntKind.wrap IntKind.i64 (IntKind.wrap IntKind.i64 (IntKind.wrap IntKind.i64 ((16 : Int) + laid_cells t p s (0 : Int)) + (8 : Int)) - (1 : Int))) (8 : Int)) * (8 : Int)))] }, Value.bool true] }) pn_ [kc_ b 77 [(vi_ t, pn_), (vi_ p, pn_), (vi_ s, pn_)], kc_ b_1 153 [(vi_ t, pn_), (vi_ p, pn_), (vi_ s, pn_), (vi_ (IntKind.wrap IntKind.i64 (IntKind.wrap IntKind.i64 (Int.tdiv (IntKind.wrap IntKind.i64 (IntKind.wrap IntKind.i64 (IntKind.wrap IntKind.i64 ((16 : Int) + laid_cells t p s (0 : Int)) + (8 : Int)) - (1 : Int))) (8 : Int)) * (8 : Int))), pn_)], kc_ b_2 153 [(vi_ t, pn_), (vi_ p, pn_), (vi_ s, pn_), (vi_ (IntKind.wrap IntKind.i64 (IntKind.wrap IntKind.i64 (Int.tdiv (IntKind.wrap IntKind.i64 (IntKind.wrap IntKind.i64 (IntKind.wrap IntKind.i64 ((16 : Int) + laid_cells t p s (0 : Int)) + (8 : Int)) - (1 : Int))) (8 : Int)) * (8 : Int))), pn_)]]))
    (by kernel_rfl)
    (fun b0_0 => fun b1_0 => ⟨fun z2 => RetOk.at (outf := place_lay_out) (nwf := place_lay_nw) (rowsf := place_lay_rows) (r := ((0 : Int), (0 : Int), (0 : Int), (0 : Int), false)) (by first | exact Eq.symm ((cT z2).trans rfl) | (simp only [place_lay, z2, cond_true, cond_false]; done) | (exfalso; simp_all; done) | decide) ⟨[], [], (by decide), rfl, rfl, trivial⟩, fun z2 => fun b3_0 => RetOk.at (outf := place_lay_out) (nwf := place_lay_nw) (rowsf := place_lay_rows) (r := (t, p, s, IntKind.wrap IntKind.i64 (IntKind.wrap IntKind.i64 (Int.tdiv (IntKind.wrap IntKind.i64 (IntKind.wrap IntKind.i64 (IntKind.wrap IntKind.i64 ((16 : Int) + laid_cells t p s (0 : Int)) + (8 : Int)) - (1 : Int))) (8 : Int)) * (8 : Int)), true)) (by first | exact Eq.symm ((cF z2).trans rfl) | (simp only [place_lay, z2, cond_true, cond_false]; done) | (exfalso; simp_all; done) | decide) ⟨[], [], (by decide), rfl, rfl, trivial⟩⟩)
end
def place_lay_e : Entry Sg := fun
  | [(.agg ⟨[.int .i64 t, .int .i64 p, .int .i64 s]⟩, .none)] => some ⟨(place_lay t p s), fun (r_ : Int × Int × Int × Int × Bool) => ⟨[], none, [], fun ss => .tuple #[.agg #[.int .i64 (r_.1), .int .i64 (r_.2.1), .int .i64 (r_.2.2.1), .int .i64 (r_.2.2.2.1)], .bool (r_.2.2.2.2)], fun k_ => .no⟩⟩
  | _ => none
theorem place_lay_ok : EntryOk Dg Try.prog 136 place_lay_e := by
  intro args c r h hr_
  unfold place_lay_e at h
  split at h
  · injection h with h; subst h; subst hr_
    refine ⟨fun K acs _ => pOk_no, fun hpre E G w hi hS => ?_⟩
    exact entry_post Dg (by exact rfl) (place_lay_calls _ _ _  hS)
  · cases h
def T_place_lay : List (Nat × Entry Sg) := (136, place_lay_e) :: T_laid_cells
theorem T_place_lay_ok : TableOk Dg Try.prog T_place_lay := TableOk.cons Dg place_lay_ok T_laid_cells_ok

/- place.within -/
def place_within (a : Int) (i : Int) (n : Int) : Int := (bif decide (i < (0 : Int)) || decide (i ≥ n) then (-1 : Int) else IntKind.wrap IntKind.i64 (a + i))
def place_within_out (r_ : Int) : List Value → Value := fun ss => .int .i64 (r_)
def place_within_nw (r_ : Int) : List (Chunk Sg) := []
def place_within_rows (r_ : Int) : List (Mk Sg) := []
section
variable (a : Int) (i : Int) (n : Int)
theorem place_within_calls {E_ : World} {G_ : Hp} {w_ : World} (hS : Sat E_ G_ w_ []) : Calls Try.prog 90 #[(.int .i64 a), (.int .i64 i), (.int .i64 n)] w_ (Post Dg E_ G_ (place_within_out (place_within a i n)) (place_within_nw (place_within a i n)) (place_within_rows (place_within a i n))) :=
  calls_post Dg T_place_lay_ok (I := []) Try.func90 mix (B := bodyOf Try.f90) (by kernel_rfl) [(.int .i64 a), (.int .i64 i), (.int .i64 n)] [.no, .no, .no] (by kernel_rfl) (objs := []) (ros := []) (psOk_cons pOk_no (psOk_cons pOk_no (psOk_cons pOk_no (psOk_nil)))) (by kernel_rfl) (trivial) hS 400
    (t := Tree.br (decide (i < (0 : Int)) || decide (i ≥ n)) (Tree.ret (vi_ (-1 : Int)) pn_ []) (Tree.ret (vi_ (IntKind.wrap IntKind.i64 (a + i))) pn_ []))
    (by kernel_rfl)
    (⟨fun z0 => RetOk.at (outf := place_within_out) (nwf := place_within_nw) (rowsf := place_within_rows) (r := (-1 : Int)) (by first | exact Eq.symm ((cT z0).trans rfl) | (simp only [place_within, z0, cond_true, cond_false]; done) | (exfalso; simp_all; done) | decide) ⟨[], [], (by decide), rfl, rfl, trivial⟩, fun z0 => RetOk.at (outf := place_within_out) (nwf := place_within_nw) (rowsf := place_within_rows) (r := IntKind.wrap IntKind.i64 (a + i)) (by first | exact Eq.symm ((cF z0).trans rfl) | (simp only [place_within, z0, cond_true, cond_false]; done) | (exfalso; simp_all; done) | decide) ⟨[], [], (by decide), rfl, rfl, trivial⟩⟩)
end
def place_within_e : Entry Sg := fun
  | [(.int .i64 a, _), (.int .i64 i, _), (.int .i64 n, _)] => some ⟨(place_within a i n), fun (r_ : Int) => ⟨[], none, [], fun ss => .int .i64 (r_), fun k_ => .no⟩⟩
  | _ => none
theorem place_within_ok : EntryOk Dg Try.prog 90 place_within_e := by
  intro args c r h hr_
  unfold place_within_e at h
  split at h
  · injection h with h; subst h; subst hr_
    refine ⟨fun K acs _ => pOk_no, fun hpre E G w hi hS => ?_⟩
    exact entry_post Dg (by exact rfl) (place_within_calls _ _ _  hS)
  · cases h
def T_place_within : List (Nat × Entry Sg) := (90, place_within_e) :: T_place_lay
theorem T_place_within_ok : TableOk Dg Try.prog T_place_within := TableOk.cons Dg place_within_ok T_place_lay_ok

/- place.of -/
def place_of (t : Int) (p : Int) (s : Int) (pg : Int) (k : Int) : Int := (bif !Prod.snd (Prod.snd (Prod.snd (Prod.snd (place_lay t p s)))) || decide (pg < (0 : Int)) || decide (pg ≥ Prod.fst (Prod.snd (place_lay t p s))) then (-1 : Int) else IntKind.wrap IntKind.i64 (IntKind.wrap IntKind.i64 (IntKind.wrap IntKind.i64 ((30 : Int) + IntKind.wrap IntKind.i64 ((4 : Int) * Prod.fst (place_lay t p s))) + IntKind.wrap IntKind.i64 ((6 : Int) * pg)) + k))
def place_of_out (r_ : Int) : List Value → Value := fun ss => .int .i64 (r_)
def place_of_nw (r_ : Int) : List (Chunk Sg) := []
def place_of_rows (r_ : Int) : List (Mk Sg) := []
section
variable (t : Int) (p : Int) (s : Int) (pg : Int) (k : Int)
theorem place_of_calls {E_ : World} {G_ : Hp} {w_ : World} (hS : Sat E_ G_ w_ []) : Calls Try.prog 115 #[(.agg #[.int .i64 t, .int .i64 p, .int .i64 s]), (.int .i64 pg), (.int .i64 k)] w_ (Post Dg E_ G_ (place_of_out (place_of t p s pg k)) (place_of_nw (place_of t p s pg k)) (place_of_rows (place_of t p s pg k))) :=
  calls_post Dg T_place_within_ok (I := []) Try.func115 mix (B := bodyOf Try.f115) (by kernel_rfl) [(.agg #[.int .i64 t, .int .i64 p, .int .i64 s]), (.int .i64 pg), (.int .i64 k)] [.no, .no, .no] (by kernel_rfl) (objs := []) (ros := []) (psOk_cons pOk_no (psOk_cons pOk_no (psOk_cons pOk_no (psOk_nil)))) (by kernel_rfl) (trivial) hS 400
    (t := Tree.fresh fun b => Tree.fresh fun b_1 => Tree.br (!Prod.snd (Prod.snd (Prod.snd (Prod.snd (place_lay t p s)))) || decide (pg < (0 : Int)) || decide (pg ≥ Prod.fst (Prod.snd (place_lay t p s)))) (Tree.ret (vi_ (-1 : Int)) pn_ [kc_ b 77 [(vi_ t, pn_), (vi_ p, pn_), (vi_ s, pn_)], kc_ b_1 153 [(vi_ (Prod.fst (place_lay t p s)), pn_), (vi_ (Prod.fst (Prod.snd (place_lay t p s))), pn_), (vi_ (Prod.fst (Prod.snd (Prod.snd (place_lay t p s)))), pn_), (vi_ (Prod.fst (Prod.snd (Prod.snd (Prod.snd (place_lay t p s))))), pn_)]]) (Tree.ret (vi_ (IntKind.wrap IntKind.i64 (IntKind.wrap IntKind.i64 (IntKind.wrap IntKind.i64 ((30 : Int) + IntKind.wrap IntKind.i64 ((4 : Int) * Prod.fst (place_lay t p s))) + IntKind.wrap IntKind.i64 ((6 : Int) * pg)) + k))) pn_ [kc_ b 77 [(vi_ t, pn_), (vi_ p, pn_), (vi_ s, pn_)], kc_ b_1 153 [(vi_ (Prod.fst (place_lay t p s)), pn_), (vi_ (Prod.fst (Prod.snd (place_lay t p s))), pn_), (vi_ (Prod.fst (Prod.snd (Prod.snd (place_lay t p s)))), pn_), (vi_ (Prod.fst (Prod.snd (Prod.snd (Prod.snd (place_lay t p s))))), pn_)]]))
    (by kernel_rfl)
    (fun b0_0 => fun b1_0 => ⟨fun z2 => RetOk.at (outf := place_of_out) (nwf := place_of_nw) (rowsf := place_of_rows) (r := (-1 : Int)) (by first | exact Eq.symm ((cT z2).trans rfl) | (simp only [place_of, z2, cond_true, cond_false]; done) | (exfalso; simp_all; done) | decide) ⟨[], [], (by decide), rfl, rfl, trivial⟩, fun z2 => RetOk.at (outf := place_of_out) (nwf := place_of_nw) (rowsf := place_of_rows) (r := IntKind.wrap IntKind.i64 (IntKind.wrap IntKind.i64 (IntKind.wrap IntKind.i64 ((30 : Int) + IntKind.wrap IntKind.i64 ((4 : Int) * Prod.fst (place_lay t p s))) + IntKind.wrap IntKind.i64 ((6 : Int) * pg)) + k)) (by first | exact Eq.symm ((cF z2).trans rfl) | (simp only [place_of, z2, cond_true, cond_false]; done) | (exfalso; simp_all; done) | decide) ⟨[], [], (by decide), rfl, rfl, trivial⟩⟩)
end
def place_of_e : Entry Sg := fun
  | [(.agg ⟨[.int .i64 t, .int .i64 p, .int .i64 s]⟩, .none), (.int .i64 pg, _), (.int .i64 k, _)] => some ⟨(place_of t p s pg k), fun (r_ : Int) => ⟨[], none, [], fun ss => .int .i64 (r_), fun k_ => .no⟩⟩
  | _ => none
theorem place_of_ok : EntryOk Dg Try.prog 115 place_of_e := by
  intro args c r h hr_
  unfold place_of_e at h
  split at h
  · injection h with h; subst h; subst hr_
    refine ⟨fun K acs _ => pOk_no, fun hpre E G w hi hS => ?_⟩
    exact entry_post Dg (by exact rfl) (place_of_calls _ _ _ _ _  hS)
  · cases h
def T_place_of : List (Nat × Entry Sg) := (115, place_of_e) :: T_place_within
theorem T_place_of_ok : TableOk Dg Try.prog T_place_of := TableOk.cons Dg place_of_ok T_place_within_ok

/- place.Info -/
def place_Info (t : Int) (p : Int) (s : Int) (pg : Int) : Int := place_of t p s pg (0 : Int)
def place_Info_out (r_ : Int) : List Value → Value := fun ss => .int .i64 (r_)
def place_Info_nw (r_ : Int) : List (Chunk Sg) := []
def place_Info_rows (r_ : Int) : List (Mk Sg) := []
section
variable (t : Int) (p : Int) (s : Int) (pg : Int)
theorem place_Info_calls {E_ : World} {G_ : Hp} {w_ : World} (hS : Sat E_ G_ w_ []) : Calls Try.prog 81 #[(.agg #[.int .i64 t, .int .i64 p, .int .i64 s]), (.int .i64 pg)] w_ (Post Dg E_ G_ (place_Info_out (place_Info t p s pg)) (place_Info_nw (place_Info t p s pg)) (place_Info_rows (place_Info t p s pg))) :=
  calls_post Dg T_place_of_ok (I := []) Try.func81 mix (B := bodyOf Try.f81) (by kernel_rfl) [(.agg #[.int .i64 t, .int .i64 p, .int .i64 s]), (.int .i64 pg)] [.no, .no] (by kernel_rfl) (objs := []) (ros := []) (psOk_cons pOk_no (psOk_cons pOk_no (psOk_nil))) (by kernel_rfl) (trivial) hS 400
    (t := Tree.fresh fun b => Tree.ret (vi_ (place_of t p s pg (0 : Int))) pn_ [kc_ b 77 [(vi_ t, pn_), (vi_ p, pn_), (vi_ s, pn_)]])
    (by kernel_rfl)
    (fun b0_0 => RetOk.at (outf := place_Info_out) (nwf := place_Info_nw) (rowsf := place_Info_rows) (r := place_of t p s pg (0 : Int)) (by first | exact Eq.symm rfl | (simp only [place_Info, cond_true, cond_false]; done) | (exfalso; simp_all; done) | decide) ⟨[], [], (by decide), rfl, rfl, trivial⟩)
end
def place_Info_e : Entry Sg := fun
  | [(.agg ⟨[.int .i64 t, .int .i64 p, .int .i64 s]⟩, .none), (.int .i64 pg, _)] => some ⟨(place_Info t p s pg), fun (r_ : Int) => ⟨[], none, [], fun ss => .int .i64 (r_), fun k_ => .no⟩⟩
  | _ => none
theorem place_Info_ok : EntryOk Dg Try.prog 81 place_Info_e := by
  intro args c r h hr_
  unfold place_Info_e at h
  split at h
  · injection h with h; subst h; subst hr_
    refine ⟨fun K acs _ => pOk_no, fun hpre E G w hi hS => ?_⟩
    exact entry_post Dg (by exact rfl) (place_Info_calls _ _ _ _  hS)
  · cases h
def T_place_Info : List (Nat × Entry Sg) := (81, place_Info_e) :: T_place_of
theorem T_place_Info_ok : TableOk Dg Try.prog T_place_Info := TableOk.cons Dg place_Info_ok T_place_of_ok

/- place.Foot -/
def place_Foot (t : Int) (p : Int) (s : Int) (pg : Int) : Int := place_of t p s pg (1 : Int)
def place_Foot_out (r_ : Int) : List Value → Value := fun ss => .int .i64 (r_)
def place_Foot_nw (r_ : Int) : List (Chunk Sg) := []
def place_Foot_rows (r_ : Int) : List (Mk Sg) := []
section
variable (t : Int) (p : Int) (s : Int) (pg : Int)
theorem place_Foot_calls {E_ : World} {G_ : Hp} {w_ : World} (hS : Sat E_ G_ w_ []) : Calls Try.prog 82 #[(.agg #[.int .i64 t, .int .i64 p, .int .i64 s]), (.int .i64 pg)] w_ (Post Dg E_ G_ (place_Foot_out (place_Foot t p s pg)) (place_Foot_nw (place_Foot t p s pg)) (place_Foot_rows (place_Foot t p s pg))) :=
  calls_post Dg T_place_Info_ok (I := []) Try.func82 mix (B := bodyOf Try.f82) (by kernel_rfl) [(.agg #[.int .i64 t, .int .i64 p, .int .i64 s]), (.int .i64 pg)] [.no, .no] (by kernel_rfl) (objs := []) (ros := []) (psOk_cons pOk_no (psOk_cons pOk_no (psOk_nil))) (by kernel_rfl) (trivial) hS 400
    (t := Tree.fresh fun b => Tree.ret (vi_ (place_of t p s pg (1 : Int))) pn_ [kc_ b 77 [(vi_ t, pn_), (vi_ p, pn_), (vi_ s, pn_)]])
    (by kernel_rfl)
    (fun b0_0 => RetOk.at (outf := place_Foot_out) (nwf := place_Foot_nw) (rowsf := place_Foot_rows) (r := place_of t p s pg (1 : Int)) (by first | exact Eq.symm rfl | (simp only [place_Foot, cond_true, cond_false]; done) | (exfalso; simp_all; done) | decide) ⟨[], [], (by decide), rfl, rfl, trivial⟩)
end
def place_Foot_e : Entry Sg := fun
  | [(.agg ⟨[.int .i64 t, .int .i64 p, .int .i64 s]⟩, .none), (.int .i64 pg, _)] => some ⟨(place_Foot t p s pg), fun (r_ : Int) => ⟨[], none, [], fun ss => .int .i64 (r_), fun k_ => .no⟩⟩
  | _ => none
theorem place_Foot_ok : EntryOk Dg Try.prog 82 place_Foot_e := by
  intro args c r h hr_
  unfold place_Foot_e at h
  split at h
  · injection h with h; subst h; subst hr_
    refine ⟨fun K acs _ => pOk_no, fun hpre E G w hi hS => ?_⟩
    exact entry_post Dg (by exact rfl) (place_Foot_calls _ _ _ _  hS)
  · cases h
def T_place_Foot : List (Nat × Entry Sg) := (82, place_Foot_e) :: T_place_Info
theorem T_place_Foot_ok : TableOk Dg Try.prog T_place_Foot := TableOk.cons Dg place_Foot_ok T_place_Info_ok

/- place.Next -/
def place_Next (t : Int) (p : Int) (s : Int) (pg : Int) : Int := place_of t p s pg (2 : Int)
def place_Next_out (r_ : Int) : List Value → Value := fun ss => .int .i64 (r_)
def place_Next_nw (r_ : Int) : List (Chunk Sg) := []
def place_Next_rows (r_ : Int) : List (Mk Sg) := []
section
variable (t : Int) (p : Int) (s : Int) (pg : Int)
theorem place_Next_calls {E_ : World} {G_ : Hp} {w_ : World} (hS : Sat E_ G_ w_ []) : Calls Try.prog 103 #[(.agg #[.int .i64 t, .int .i64 p, .int .i64 s]), (.int .i64 pg)] w_ (Post Dg E_ G_ (place_Next_out (place_Next t p s pg)) (place_Next_nw (place_Next t p s pg)) (place_Next_rows (place_Next t p s pg))) :=
  calls_post Dg T_place_Foot_ok (I := []) Try.func103 mix (B := bodyOf Try.f103) (by kernel_rfl) [(.agg #[.int .i64 t, .int .i64 p, .int .i64 s]), (.int .i64 pg)] [.no, .no] (by kernel_rfl) (objs := []) (ros := []) (psOk_cons pOk_no (psOk_cons pOk_no (psOk_nil))) (by kernel_rfl) (trivial) hS 400
    (t := Tree.fresh fun b => Tree.ret (vi_ (place_of t p s pg (2 : Int))) pn_ [kc_ b 77 [(vi_ t, pn_), (vi_ p, pn_), (vi_ s, pn_)]])
    (by kernel_rfl)
    (fun b0_0 => RetOk.at (outf := place_Next_out) (nwf := place_Next_nw) (rowsf := place_Next_rows) (r := place_of t p s pg (2 : Int)) (by first | exact Eq.symm rfl | (simp only [place_Next, cond_true, cond_false]; done) | (exfalso; simp_all; done) | decide) ⟨[], [], (by decide), rfl, rfl, trivial⟩)
end
def place_Next_e : Entry Sg := fun
  | [(.agg ⟨[.int .i64 t, .int .i64 p, .int .i64 s]⟩, .none), (.int .i64 pg, _)] => some ⟨(place_Next t p s pg), fun (r_ : Int) => ⟨[], none, [], fun ss => .int .i64 (r_), fun k_ => .no⟩⟩
  | _ => none
theorem place_Next_ok : EntryOk Dg Try.prog 103 place_Next_e := by
  intro args c r h hr_
  unfold place_Next_e at h
  split at h
  · injection h with h; subst h; subst hr_
    refine ⟨fun K acs _ => pOk_no, fun hpre E G w hi hS => ?_⟩
    exact entry_post Dg (by exact rfl) (place_Next_calls _ _ _ _  hS)
  · cases h
def T_place_Next : List (Nat × Entry Sg) := (103, place_Next_e) :: T_place_Foot
theorem T_place_Next_ok : TableOk Dg Try.prog T_place_Next := TableOk.cons Dg place_Next_ok T_place_Foot_ok

/- place.Prev -/
def place_Prev (t : Int) (p : Int) (s : Int) (pg : Int) : Int := place_of t p s pg (3 : Int)
def place_Prev_out (r_ : Int) : List Value → Value := fun ss => .int .i64 (r_)
def place_Prev_nw (r_ : Int) : List (Chunk Sg) := []
def place_Prev_rows (r_ : Int) : List (Mk Sg) := []
section
variable (t : Int) (p : Int) (s : Int) (pg : Int)
theorem place_Prev_calls {E_ : World} {G_ : Hp} {w_ : World} (hS : Sat E_ G_ w_ []) : Calls Try.prog 133 #[(.agg #[.int .i64 t, .int .i64 p, .int .i64 s]), (.int .i64 pg)] w_ (Post Dg E_ G_ (place_Prev_out (place_Prev t p s pg)) (place_Prev_nw (place_Prev t p s pg)) (place_Prev_rows (place_Prev t p s pg))) :=
  calls_post Dg T_place_Next_ok (I := []) Try.func133 mix (B := bodyOf Try.f133) (by kernel_rfl) [(.agg #[.int .i64 t, .int .i64 p, .int .i64 s]), (.int .i64 pg)] [.no, .no] (by kernel_rfl) (objs := []) (ros := []) (psOk_cons pOk_no (psOk_cons pOk_no (psOk_nil))) (by kernel_rfl) (trivial) hS 400
    (t := Tree.fresh fun b => Tree.ret (vi_ (place_of t p s pg (3 : Int))) pn_ [kc_ b 77 [(vi_ t, pn_), (vi_ p, pn_), (vi_ s, pn_)]])
    (by kernel_rfl)
    (fun b0_0 => RetOk.at (outf := place_Prev_out) (nwf := place_Prev_nw) (rowsf := place_Prev_rows) (r := place_of t p s pg (3 : Int)) (by first | exact Eq.symm rfl | (simp only [place_Prev, cond_true, cond_false]; done) | (exfalso; simp_all; done) | decide) ⟨[], [], (by decide), rfl, rfl, trivial⟩)
end
def place_Prev_e : Entry Sg := fun
  | [(.agg ⟨[.int .i64 t, .int .i64 p, .int .i64 s]⟩, .none), (.int .i64 pg, _)] => some ⟨(place_Prev t p s pg), fun (r_ : Int) => ⟨[], none, [], fun ss => .int .i64 (r_), fun k_ => .no⟩⟩
  | _ => none
theorem place_Prev_ok : EntryOk Dg Try.prog 133 place_Prev_e := by
  intro args c r h hr_
  unfold place_Prev_e at h
  split at h
  · injection h with h; subst h; subst hr_
    refine ⟨fun K acs _ => pOk_no, fun hpre E G w hi hS => ?_⟩
    exact entry_post Dg (by exact rfl) (place_Prev_calls _ _ _ _  hS)
  · cases h
def T_place_Prev : List (Nat × Entry Sg) := (133, place_Prev_e) :: T_place_Next
theorem T_place_Prev_ok : TableOk Dg Try.prog T_place_Prev := TableOk.cons Dg place_Prev_ok T_place_Next_ok

/- place.Bin -/
def place_Bin (k : Int) : Int := place_within (2 : Int) k (11 : Int)
def place_Bin_out (r_ : Int) : List Value → Value := fun ss => .int .i64 (r_)
def place_Bin_nw (r_ : Int) : List (Chunk Sg) := []
def place_Bin_rows (r_ : Int) : List (Mk Sg) := []
section
variable (k : Int)
theorem place_Bin_calls {E_ : World} {G_ : Hp} {w_ : World} (hS : Sat E_ G_ w_ []) : Calls Try.prog 70 #[(.int .i64 k)] w_ (Post Dg E_ G_ (place_Bin_out (place_Bin k)) (place_Bin_nw (place_Bin k)) (place_Bin_rows (place_Bin k))) :=
  calls_post Dg T_place_Prev_ok (I := []) Try.func70 mix (B := bodyOf Try.f70) (by kernel_rfl) [(.int .i64 k)] [.no] (by kernel_rfl) (objs := []) (ros := []) (psOk_cons pOk_no (psOk_nil)) (by kernel_rfl) (trivial) hS 400
    (t := Tree.ret (vi_ (place_within (2 : Int) k (11 : Int))) pn_ [])
    (by kernel_rfl)
    (RetOk.at (outf := place_Bin_out) (nwf := place_Bin_nw) (rowsf := place_Bin_rows) (r := place_within (2 : Int) k (11 : Int)) (by first | exact Eq.symm rfl | (simp only [place_Bin, cond_true, cond_false]; done) | (exfalso; simp_all; done) | decide) ⟨[], [], (by decide), rfl, rfl, trivial⟩)
end
def place_Bin_e : Entry Sg := fun
  | [(.int .i64 k, _)] => some ⟨(place_Bin k), fun (r_ : Int) => ⟨[], none, [], fun ss => .int .i64 (r_), fun k_ => .no⟩⟩
  | _ => none
theorem place_Bin_ok : EntryOk Dg Try.prog 70 place_Bin_e := by
  intro args c r h hr_
  unfold place_Bin_e at h
  split at h
  · injection h with h; subst h; subst hr_
    refine ⟨fun K acs _ => pOk_no, fun hpre E G w hi hS => ?_⟩
    exact entry_post Dg (by exact rfl) (place_Bin_calls _  hS)
  · cases h
def T_place_Bin : List (Nat × Entry Sg) := (70, place_Bin_e) :: T_place_Prev
theorem T_place_Bin_ok : TableOk Dg Try.prog T_place_Bin := TableOk.cons Dg place_Bin_ok T_place_Prev_ok

/- place.Root -/
def place_Root (k : Int) : Int := place_within (22 : Int) k (8 : Int)
def place_Root_out (r_ : Int) : List Value → Value := fun ss => .int .i64 (r_)
def place_Root_nw (r_ : Int) : List (Chunk Sg) := []
def place_Root_rows (r_ : Int) : List (Mk Sg) := []
section
variable (k : Int)
theorem place_Root_calls {E_ : World} {G_ : Hp} {w_ : World} (hS : Sat E_ G_ w_ []) : Calls Try.prog 64 #[(.int .i64 k)] w_ (Post Dg E_ G_ (place_Root_out (place_Root k)) (place_Root_nw (place_Root k)) (place_Root_rows (place_Root k))) :=
  calls_post Dg T_place_Bin_ok (I := []) Try.func64 mix (B := bodyOf Try.f64) (by kernel_rfl) [(.int .i64 k)] [.no] (by kernel_rfl) (objs := []) (ros := []) (psOk_cons pOk_no (psOk_nil)) (by kernel_rfl) (trivial) hS 400
    (t := Tree.ret (vi_ (place_within (22 : Int) k (8 : Int))) pn_ [])
    (by kernel_rfl)
    (RetOk.at (outf := place_Root_out) (nwf := place_Root_nw) (rowsf := place_Root_rows) (r := place_within (22 : Int) k (8 : Int)) (by first | exact Eq.symm rfl | (simp only [place_Root, cond_true, cond_false]; done) | (exfalso; simp_all; done) | decide) ⟨[], [], (by decide), rfl, rfl, trivial⟩)
end
def place_Root_e : Entry Sg := fun
  | [(.int .i64 k, _)] => some ⟨(place_Root k), fun (r_ : Int) => ⟨[], none, [], fun ss => .int .i64 (r_), fun k_ => .no⟩⟩
  | _ => none
theorem place_Root_ok : EntryOk Dg Try.prog 64 place_Root_e := by
  intro args c r h hr_
  unfold place_Root_e at h
  split at h
  · injection h with h; subst h; subst hr_
    refine ⟨fun K acs _ => pOk_no, fun hpre E G w hi hS => ?_⟩
    exact entry_post Dg (by exact rfl) (place_Root_calls _  hS)
  · cases h
def T_place_Root : List (Nat × Entry Sg) := (64, place_Root_e) :: T_place_Bin
theorem T_place_Root_ok : TableOk Dg Try.prog T_place_Root := TableOk.cons Dg place_Root_ok T_place_Bin_ok

/- nacreref07.Page -/
def r07_Page (t : Int) (p : Int) (s : Int) (pg : Int) (k : Int) : Int := (bif !r04_Right t p s || decide (pg < (0 : Int)) || decide (pg ≥ p) then (-1 : Int) else IntKind.wrap IntKind.i64 (IntKind.wrap IntKind.i64 (IntKind.wrap IntKind.i64 ((30 : Int) + IntKind.wrap IntKind.i64 ((4 : Int) * t)) + IntKind.wrap IntKind.i64 ((6 : Int) * pg)) + k))
def r07_Page_out (r_ : Int) : List Value → Value := fun ss => .int .i64 (r_)
def r07_Page_nw (r_ : Int) : List (Chunk Sg) := []
def r07_Page_rows (r_ : Int) : List (Mk Sg) := []
section
variable (t : Int) (p : Int) (s : Int) (pg : Int) (k : Int)
theorem r07_Page_calls {E_ : World} {G_ : Hp} {w_ : World} (hS : Sat E_ G_ w_ []) : Calls Try.prog 105 #[(.agg #[.int .i64 t, .int .i64 p, .int .i64 s]), (.int .i64 pg), (.int .i64 k)] w_ (Post Dg E_ G_ (r07_Page_out (r07_Page t p s pg k)) (r07_Page_nw (r07_Page t p s pg k)) (r07_Page_rows (r07_Page t p s pg k))) :=
  calls_post Dg T_place_Root_ok (I := []) Try.func105 mix (B := bodyOf Try.f105) (by kernel_rfl) [(.agg #[.int .i64 t, .int .i64 p, .int .i64 s]), (.int .i64 pg), (.int .i64 k)] [.no, .no, .no] (by kernel_rfl) (objs := []) (ros := []) (psOk_cons pOk_no (psOk_cons pOk_no (psOk_cons pOk_no (psOk_nil)))) (by kernel_rfl) (trivial) hS 400
    (t := Tree.fresh fun b => Tree.br (!r04_Right t p s || decide (pg < (0 : Int)) || decide (pg ≥ p)) (Tree.ret (vi_ (-1 : Int)) pn_ [kc_ b 77 [(vi_ t, pn_), (vi_ p, pn_), (vi_ s, pn_)]]) (Tree.ret (vi_ (IntKind.wrap IntKind.i64 (IntKind.wrap IntKind.i64 (IntKind.wrap IntKind.i64 ((30 : Int) + IntKind.wrap IntKind.i64 ((4 : Int) * t)) + IntKind.wrap IntKind.i64 ((6 : Int) * pg)) + k))) pn_ [kc_ b 77 [(vi_ t, pn_), (vi_ p, pn_), (vi_ s, pn_)]]))
    (by kernel_rfl)
    (fun b0_0 => ⟨fun z1 => RetOk.at (outf := r07_Page_out) (nwf := r07_Page_nw) (rowsf := r07_Page_rows) (r := (-1 : Int)) (by first | exact Eq.symm ((cT z1).trans rfl) | (simp only [r07_Page, z1, cond_true, cond_false]; done) | (exfalso; simp_all; done) | decide) ⟨[], [], (by decide), rfl, rfl, trivial⟩, fun z1 => RetOk.at (outf := r07_Page_out) (nwf := r07_Page_nw) (rowsf := r07_Page_rows) (r := IntKind.wrap IntKind.i64 (IntKind.wrap IntKind.i64 (IntKind.wrap IntKind.i64 ((30 : Int) + IntKind.wrap IntKind.i64 ((4 : Int) * t)) + IntKind.wrap IntKind.i64 ((6 : Int) * pg)) + k)) (by first | exact Eq.symm ((cF z1).trans rfl) | (simp only [r07_Page, z1, cond_true, cond_false]; done) | (exfalso; simp_all; done) | decide) ⟨[], [], (by decide), rfl, rfl, trivial⟩⟩)
end
def r07_Page_e : Entry Sg := fun
  | [(.agg ⟨[.int .i64 t, .int .i64 p, .int .i64 s]⟩, .none), (.int .i64 pg, _), (.int .i64 k, _)] => some ⟨(r07_Page t p s pg k), fun (r_ : Int) => ⟨[], none, [], fun ss => .int .i64 (r_), fun k_ => .no⟩⟩
  | _ => none
theorem r07_Page_ok : EntryOk Dg Try.prog 105 r07_Page_e := by
  intro args c r h hr_
  unfold r07_Page_e at h
  split at h
  · injection h with h; subst h; subst hr_
    refine ⟨fun K acs _ => pOk_no, fun hpre E G w hi hS => ?_⟩
    exact entry_post Dg (by exact rfl) (r07_Page_calls _ _ _ _ _  hS)
  · cases h
def T_r07_Page : List (Nat × Entry Sg) := (105, r07_Page_e) :: T_place_Root
theorem T_r07_Page_ok : TableOk Dg Try.prog T_r07_Page := TableOk.cons Dg r07_Page_ok T_place_Root_ok

/- nacreref07.Info -/
def r07_Info (t : Int) (p : Int) (s : Int) (pg : Int) : Int := r07_Page t p s pg (0 : Int)
def r07_Info_out (r_ : Int) : List Value → Value := fun ss => .int .i64 (r_)
def r07_Info_nw (r_ : Int) : List (Chunk Sg) := []
def r07_Info_rows (r_ : Int) : List (Mk Sg) := []
section
variable (t : Int) (p : Int) (s : Int) (pg : Int)
theorem r07_Info_calls {E_ : World} {G_ : Hp} {w_ : World} (hS : Sat E_ G_ w_ []) : Calls Try.prog 73 #[(.agg #[.int .i64 t, .int .i64 p, .int .i64 s]), (.int .i64 pg)] w_ (Post Dg E_ G_ (r07_Info_out (r07_Info t p s pg)) (r07_Info_nw (r07_Info t p s pg)) (r07_Info_rows (r07_Info t p s pg))) :=
  calls_post Dg T_r07_Page_ok (I := []) Try.func73 mix (B := bodyOf Try.f73) (by kernel_rfl) [(.agg #[.int .i64 t, .int .i64 p, .int .i64 s]), (.int .i64 pg)] [.no, .no] (by kernel_rfl) (objs := []) (ros := []) (psOk_cons pOk_no (psOk_cons pOk_no (psOk_nil))) (by kernel_rfl) (trivial) hS 400
    (t := Tree.fresh fun b => Tree.ret (vi_ (r07_Page t p s pg (0 : Int))) pn_ [kc_ b 77 [(vi_ t, pn_), (vi_ p, pn_), (vi_ s, pn_)]])
    (by kernel_rfl)
    (fun b0_0 => RetOk.at (outf := r07_Info_out) (nwf := r07_Info_nw) (rowsf := r07_Info_rows) (r := r07_Page t p s pg (0 : Int)) (by first | exact Eq.symm rfl | (simp only [r07_Info, cond_true, cond_false]; done) | (exfalso; simp_all; done) | decide) ⟨[], [], (by decide), rfl, rfl, trivial⟩)
end
def r07_Info_e : Entry Sg := fun
  | [(.agg ⟨[.int .i64 t, .int .i64 p, .int .i64 s]⟩, .none), (.int .i64 pg, _)] => some ⟨(r07_Info t p s pg), fun (r_ : Int) => ⟨[], none, [], fun ss => .int .i64 (r_), fun k_ => .no⟩⟩
  | _ => none
theorem r07_Info_ok : EntryOk Dg Try.prog 73 r07_Info_e := by
  intro args c r h hr_
  unfold r07_Info_e at h
  split at h
  · injection h with h; subst h; subst hr_
    refine ⟨fun K acs _ => pOk_no, fun hpre E G w hi hS => ?_⟩
    exact entry_post Dg (by exact rfl) (r07_Info_calls _ _ _ _  hS)
  · cases h
def T_r07_Info : List (Nat × Entry Sg) := (73, r07_Info_e) :: T_r07_Page
theorem T_r07_Info_ok : TableOk Dg Try.prog T_r07_Info := TableOk.cons Dg r07_Info_ok T_r07_Page_ok

/- nacreref07.Foot -/
def r07_Foot (t : Int) (p : Int) (s : Int) (pg : Int) : Int := r07_Page t p s pg (1 : Int)
def r07_Foot_out (r_ : Int) : List Value → Value := fun ss => .int .i64 (r_)
def r07_Foot_nw (r_ : Int) : List (Chunk Sg) := []
def r07_Foot_rows (r_ : Int) : List (Mk Sg) := []
section
variable (t : Int) (p : Int) (s : Int) (pg : Int)
theorem r07_Foot_calls {E_ : World} {G_ : Hp} {w_ : World} (hS : Sat E_ G_ w_ []) : Calls Try.prog 85 #[(.agg #[.int .i64 t, .int .i64 p, .int .i64 s]), (.int .i64 pg)] w_ (Post Dg E_ G_ (r07_Foot_out (r07_Foot t p s pg)) (r07_Foot_nw (r07_Foot t p s pg)) (r07_Foot_rows (r07_Foot t p s pg))) :=
  calls_post Dg T_r07_Info_ok (I := []) Try.func85 mix (B := bodyOf Try.f85) (by kernel_rfl) [(.agg #[.int .i64 t, .int .i64 p, .int .i64 s]), (.int .i64 pg)] [.no, .no] (by kernel_rfl) (objs := []) (ros := []) (psOk_cons pOk_no (psOk_cons pOk_no (psOk_nil))) (by kernel_rfl) (trivial) hS 400
    (t := Tree.fresh fun b => Tree.ret (vi_ (r07_Page t p s pg (1 : Int))) pn_ [kc_ b 77 [(vi_ t, pn_), (vi_ p, pn_), (vi_ s, pn_)]])
    (by kernel_rfl)
    (fun b0_0 => RetOk.at (outf := r07_Foot_out) (nwf := r07_Foot_nw) (rowsf := r07_Foot_rows) (r := r07_Page t p s pg (1 : Int)) (by first | exact Eq.symm rfl | (simp only [r07_Foot, cond_true, cond_false]; done) | (exfalso; simp_all; done) | decide) ⟨[], [], (by decide), rfl, rfl, trivial⟩)
end
def r07_Foot_e : Entry Sg := fun
  | [(.agg ⟨[.int .i64 t, .int .i64 p, .int .i64 s]⟩, .none), (.int .i64 pg, _)] => some ⟨(r07_Foot t p s pg), fun (r_ : Int) => ⟨[], none, [], fun ss => .int .i64 (r_), fun k_ => .no⟩⟩
  | _ => none
theorem r07_Foot_ok : EntryOk Dg Try.prog 85 r07_Foot_e := by
  intro args c r h hr_
  unfold r07_Foot_e at h
  split at h
  · injection h with h; subst h; subst hr_
    refine ⟨fun K acs _ => pOk_no, fun hpre E G w hi hS => ?_⟩
    exact entry_post Dg (by exact rfl) (r07_Foot_calls _ _ _ _  hS)
  · cases h
def T_r07_Foot : List (Nat × Entry Sg) := (85, r07_Foot_e) :: T_r07_Info
theorem T_r07_Foot_ok : TableOk Dg Try.prog T_r07_Foot := TableOk.cons Dg r07_Foot_ok T_r07_Info_ok

/- nacreref07.Next -/
def r07_Next (t : Int) (p : Int) (s : Int) (pg : Int) : Int := r07_Page t p s pg (2 : Int)
def r07_Next_out (r_ : Int) : List Value → Value := fun ss => .int .i64 (r_)
def r07_Next_nw (r_ : Int) : List (Chunk Sg) := []
def r07_Next_rows (r_ : Int) : List (Mk Sg) := []
section
variable (t : Int) (p : Int) (s : Int) (pg : Int)
theorem r07_Next_calls {E_ : World} {G_ : Hp} {w_ : World} (hS : Sat E_ G_ w_ []) : Calls Try.prog 76 #[(.agg #[.int .i64 t, .int .i64 p, .int .i64 s]), (.int .i64 pg)] w_ (Post Dg E_ G_ (r07_Next_out (r07_Next t p s pg)) (r07_Next_nw (r07_Next t p s pg)) (r07_Next_rows (r07_Next t p s pg))) :=
  calls_post Dg T_r07_Foot_ok (I := []) Try.func76 mix (B := bodyOf Try.f76) (by kernel_rfl) [(.agg #[.int .i64 t, .int .i64 p, .int .i64 s]), (.int .i64 pg)] [.no, .no] (by kernel_rfl) (objs := []) (ros := []) (psOk_cons pOk_no (psOk_cons pOk_no (psOk_nil))) (by kernel_rfl) (trivial) hS 400
    (t := Tree.fresh fun b => Tree.ret (vi_ (r07_Page t p s pg (2 : Int))) pn_ [kc_ b 77 [(vi_ t, pn_), (vi_ p, pn_), (vi_ s, pn_)]])
    (by kernel_rfl)
    (fun b0_0 => RetOk.at (outf := r07_Next_out) (nwf := r07_Next_nw) (rowsf := r07_Next_rows) (r := r07_Page t p s pg (2 : Int)) (by first | exact Eq.symm rfl | (simp only [r07_Next, cond_true, cond_false]; done) | (exfalso; simp_all; done) | decide) ⟨[], [], (by decide), rfl, rfl, trivial⟩)
end
def r07_Next_e : Entry Sg := fun
  | [(.agg ⟨[.int .i64 t, .int .i64 p, .int .i64 s]⟩, .none), (.int .i64 pg, _)] => some ⟨(r07_Next t p s pg), fun (r_ : Int) => ⟨[], none, [], fun ss => .int .i64 (r_), fun k_ => .no⟩⟩
  | _ => none
theorem r07_Next_ok : EntryOk Dg Try.prog 76 r07_Next_e := by
  intro args c r h hr_
  unfold r07_Next_e at h
  split at h
  · injection h with h; subst h; subst hr_
    refine ⟨fun K acs _ => pOk_no, fun hpre E G w hi hS => ?_⟩
    exact entry_post Dg (by exact rfl) (r07_Next_calls _ _ _ _  hS)
  · cases h
def T_r07_Next : List (Nat × Entry Sg) := (76, r07_Next_e) :: T_r07_Foot
theorem T_r07_Next_ok : TableOk Dg Try.prog T_r07_Next := TableOk.cons Dg r07_Next_ok T_r07_Foot_ok

/- nacreref07.Prev -/
def r07_Prev (t : Int) (p : Int) (s : Int) (pg : Int) : Int := r07_Page t p s pg (3 : Int)
def r07_Prev_out (r_ : Int) : List Value → Value := fun ss => .int .i64 (r_)
def r07_Prev_nw (r_ : Int) : List (Chunk Sg) := []
def r07_Prev_rows (r_ : Int) : List (Mk Sg) := []
section
variable (t : Int) (p : Int) (s : Int) (pg : Int)
theorem r07_Prev_calls {E_ : World} {G_ : Hp} {w_ : World} (hS : Sat E_ G_ w_ []) : Calls Try.prog 111 #[(.agg #[.int .i64 t, .int .i64 p, .int .i64 s]), (.int .i64 pg)] w_ (Post Dg E_ G_ (r07_Prev_out (r07_Prev t p s pg)) (r07_Prev_nw (r07_Prev t p s pg)) (r07_Prev_rows (r07_Prev t p s pg))) :=
  calls_post Dg T_r07_Next_ok (I := []) Try.func111 mix (B := bodyOf Try.f111) (by kernel_rfl) [(.agg #[.int .i64 t, .int .i64 p, .int .i64 s]), (.int .i64 pg)] [.no, .no] (by kernel_rfl) (objs := []) (ros := []) (psOk_cons pOk_no (psOk_cons pOk_no (psOk_nil))) (by kernel_rfl) (trivial) hS 400
    (t := Tree.fresh fun b => Tree.ret (vi_ (r07_Page t p s pg (3 : Int))) pn_ [kc_ b 77 [(vi_ t, pn_), (vi_ p, pn_), (vi_ s, pn_)]])
    (by kernel_rfl)
    (fun b0_0 => RetOk.at (outf := r07_Prev_out) (nwf := r07_Prev_nw) (rowsf := r07_Prev_rows) (r := r07_Page t p s pg (3 : Int)) (by first | exact Eq.symm rfl | (simp only [r07_Prev, cond_true, cond_false]; done) | (exfalso; simp_all; done) | decide) ⟨[], [], (by decide), rfl, rfl, trivial⟩)
end
def r07_Prev_e : Entry Sg := fun
  | [(.agg ⟨[.int .i64 t, .int .i64 p, .int .i64 s]⟩, .none), (.int .i64 pg, _)] => some ⟨(r07_Prev t p s pg), fun (r_ : Int) => ⟨[], none, [], fun ss => .int .i64 (r_), fun k_ => .no⟩⟩
  | _ => none
theorem r07_Prev_ok : EntryOk Dg Try.prog 111 r07_Prev_e := by
  intro args c r h hr_
  unfold r07_Prev_e at h
  split at h
  · injection h with h; subst h; subst hr_
    refine ⟨fun K acs _ => pOk_no, fun hpre E G w hi hS => ?_⟩
    exact entry_post Dg (by exact rfl) (r07_Prev_calls _ _ _ _  hS)
  · cases h
def T_r07_Prev : List (Nat × Entry Sg) := (111, r07_Prev_e) :: T_r07_Next
theorem T_r07_Prev_ok : TableOk Dg Try.prog T_r07_Prev := TableOk.cons Dg r07_Prev_ok T_r07_Next_ok

/- nacreref07.Bin -/
def r07_Bin (k : Int) : Int := (bif decide (k < (0 : Int)) || decide (k > (10 : Int)) then (-1 : Int) else IntKind.wrap IntKind.i64 ((2 : Int) + k))
def r07_Bin_out (r_ : Int) : List Value → Value := fun ss => .int .i64 (r_)
def r07_Bin_nw (r_ : Int) : List (Chunk Sg) := []
def r07_Bin_rows (r_ : Int) : List (Mk Sg) := []
section
variable (k : Int)
theorem r07_Bin_calls {E_ : World} {G_ : Hp} {w_ : World} (hS : Sat E_ G_ w_ []) : Calls Try.prog 74 #[(.int .i64 k)] w_ (Post Dg E_ G_ (r07_Bin_out (r07_Bin k)) (r07_Bin_nw (r07_Bin k)) (r07_Bin_rows (r07_Bin k))) :=
  calls_post Dg T_r07_Prev_ok (I := []) Try.func74 mix (B := bodyOf Try.f74) (by kernel_rfl) [(.int .i64 k)] [.no] (by kernel_rfl) (objs := []) (ros := []) (psOk_cons pOk_no (psOk_nil)) (by kernel_rfl) (trivial) hS 400
    (t := Tree.br (decide (k < (0 : Int)) || decide (k > (10 : Int))) (Tree.ret (vi_ (-1 : Int)) pn_ []) (Tree.ret (vi_ (IntKind.wrap IntKind.i64 ((2 : Int) + k))) pn_ []))
    (by kernel_rfl)
    (⟨fun z0 => RetOk.at (outf := r07_Bin_out) (nwf := r07_Bin_nw) (rowsf := r07_Bin_rows) (r := (-1 : Int)) (by first | exact Eq.symm ((cT z0).trans rfl) | (simp only [r07_Bin, z0, cond_true, cond_false]; done) | (exfalso; simp_all; done) | decide) ⟨[], [], (by decide), rfl, rfl, trivial⟩, fun z0 => RetOk.at (outf := r07_Bin_out) (nwf := r07_Bin_nw) (rowsf := r07_Bin_rows) (r := IntKind.wrap IntKind.i64 ((2 : Int) + k)) (by first | exact Eq.symm ((cF z0).trans rfl) | (simp only [r07_Bin, z0, cond_true, cond_false]; done) | (exfalso; simp_all; done) | decide) ⟨[], [], (by decide), rfl, rfl, trivial⟩⟩)
end
def r07_Bin_e : Entry Sg := fun
  | [(.int .i64 k, _)] => some ⟨(r07_Bin k), fun (r_ : Int) => ⟨[], none, [], fun ss => .int .i64 (r_), fun k_ => .no⟩⟩
  | _ => none
theorem r07_Bin_ok : EntryOk Dg Try.prog 74 r07_Bin_e := by
  intro args c r h hr_
  unfold r07_Bin_e at h
  split at h
  · injection h with h; subst h; subst hr_
    refine ⟨fun K acs _ => pOk_no, fun hpre E G w hi hS => ?_⟩
    exact entry_post Dg (by exact rfl) (r07_Bin_calls _  hS)
  · cases h
def T_r07_Bin : List (Nat × Entry Sg) := (74, r07_Bin_e) :: T_r07_Prev
theorem T_r07_Bin_ok : TableOk Dg Try.prog T_r07_Bin := TableOk.cons Dg r07_Bin_ok T_r07_Prev_ok

/- nacreref07.Root -/
def r07_Root (k : Int) : Int := (bif decide (k < (0 : Int)) || decide (k > (7 : Int)) then (-1 : Int) else IntKind.wrap IntKind.i64 ((22 : Int) + k))
def r07_Root_out (r_ : Int) : List Value → Value := fun ss => .int .i64 (r_)
def r07_Root_nw (r_ : Int) : List (Chunk Sg) := []
def r07_Root_rows (r_ : Int) : List (Mk Sg) := []
section
variable (k : Int)
theorem r07_Root_calls {E_ : World} {G_ : Hp} {w_ : World} (hS : Sat E_ G_ w_ []) : Calls Try.prog 66 #[(.int .i64 k)] w_ (Post Dg E_ G_ (r07_Root_out (r07_Root k)) (r07_Root_nw (r07_Root k)) (r07_Root_rows (r07_Root k))) :=
  calls_post Dg T_r07_Bin_ok (I := []) Try.func66 mix (B := bodyOf Try.f66) (by kernel_rfl) [(.int .i64 k)] [.no] (by kernel_rfl) (objs := []) (ros := []) (psOk_cons pOk_no (psOk_nil)) (by kernel_rfl) (trivial) hS 400
    (t := Tree.br (decide (k < (0 : Int)) || decide (k > (7 : Int))) (Tree.ret (vi_ (-1 : Int)) pn_ []) (Tree.ret (vi_ (IntKind.wrap IntKind.i64 ((22 : Int) + k))) pn_ []))
    (by kernel_rfl)
    (⟨fun z0 => RetOk.at (outf := r07_Root_out) (nwf := r07_Root_nw) (rowsf := r07_Root_rows) (r := (-1 : Int)) (by first | exact Eq.symm ((cT z0).trans rfl) | (simp only [r07_Root, z0, cond_true, cond_false]; done) | (exfalso; simp_all; done) | decide) ⟨[], [], (by decide), rfl, rfl, trivial⟩, fun z0 => RetOk.at (outf := r07_Root_out) (nwf := r07_Root_nw) (rowsf := r07_Root_rows) (r := IntKind.wrap IntKind.i64 ((22 : Int) + k)) (by first | exact Eq.symm ((cF z0).trans rfl) | (simp only [r07_Root, z0, cond_true, cond_false]; done) | (exfalso; simp_all; done) | decide) ⟨[], [], (by decide), rfl, rfl, trivial⟩⟩)
end
def r07_Root_e : Entry Sg := fun
  | [(.int .i64 k, _)] => some ⟨(r07_Root k), fun (r_ : Int) => ⟨[], none, [], fun ss => .int .i64 (r_), fun k_ => .no⟩⟩
  | _ => none
theorem r07_Root_ok : EntryOk Dg Try.prog 66 r07_Root_e := by
  intro args c r h hr_
  unfold r07_Root_e at h
  split at h
  · injection h with h; subst h; subst hr_
    refine ⟨fun K acs _ => pOk_no, fun hpre E G w hi hS => ?_⟩
    exact entry_post Dg (by exact rfl) (r07_Root_calls _  hS)
  · cases h
def T_r07_Root : List (Nat × Entry Sg) := (66, r07_Root_e) :: T_r07_Bin
theorem T_r07_Root_ok : TableOk Dg Try.prog T_r07_Root := TableOk.cons Dg r07_Root_ok T_r07_Bin_ok

theorem u8_need (z : Int) : 0 ≤ IntKind.wrap IntKind.u8 z ∧ IntKind.wrap IntKind.u8 z < ((256 : Nat) : Int) := by
  rw [IntKind.wrap_u8]; omega


/- math/bits.Len64 -/
def bits_Len64 (x : Int) : Int := (bif decide (x ≥ (4294967296 : Int)) then (bif decide (Int.fdiv x (4294967296 : Int) ≥ (65536 : Int)) then (bif decide (Int.fdiv (Int.fdiv x (4294967296 : Int)) (65536 : Int) ≥ (256 : Int)) then IntKind.wrap IntKind.i64 ((56 : Int) + IntKind.wrap IntKind.i64 (sAt SlLow_bytes0 (IntKind.wrap IntKind.u8 (Int.fdiv (Int.fdiv (Int.fdiv x (4294967296 : Int)) (65536 : Int)) (256 : Int))))) else IntKind.wrap IntKind.i64 ((48 : Int) + IntKind.wrap IntKind.i64 (sAt SlLow_bytes0 (IntKind.wrap IntKind.u8 (Int.fdiv (Int.fdiv x (4294967296 : Int)) (65536 : Int)))))) else (bif decide (Int.fdiv x (4294967296 : Int) ≥ (256 : Int)) then IntKind.wrap IntKind.i64 ((40 : Int) + IntKind.wrap IntKind.i64 (sAt SlLow_bytes0 (IntKind.wrap IntKind.u8 (Int.fdiv (Int.fdiv x (4294967296 : Int)) (256 : Int))))) else IntKind.wrap IntKind.i64 ((32 : Int) + IntKind.wrap IntKind.i64 (sAt SlLow_bytes0 (IntKind.wrap IntKind.u8 (Int.fdiv x (4294967296 : Int))))))) else (bif decide (x ≥ (65536 : Int)) then (bif decide (Int.fdiv x (65536 : Int) ≥ (256 : Int)) then IntKind.wrap IntKind.i64 ((24 : Int) + IntKind.wrap IntKind.i64 (sAt SlLow_bytes0 (IntKind.wrap IntKind.u8 (Int.fdiv (Int.fdiv x (65536 : Int)) (256 : Int))))) else IntKind.wrap IntKind.i64 ((16 : Int) + IntKind.wrap IntKind.i64 (sAt SlLow_bytes0 (IntKind.wrap IntKind.u8 (Int.fdiv x (65536 : Int)))))) else (bif decide (x ≥ (256 : Int)) then IntKind.wrap IntKind.i64 ((8 : Int) + IntKind.wrap IntKind.i64 (sAt SlLow_bytes0 (IntKind.wrap IntKind.u8 (Int.fdiv x (256 : Int))))) else IntKind.wrap IntKind.i64 ((0 : Int) + IntKind.wrap IntKind.i64 (sAt SlLow_bytes0 (IntKind.wrap IntKind.u8 x))))))
def bits_Len64_out (r_ : Int) : List Value → Value := fun ss => .int .i64 (r_)
def bits_Len64_nw (r_ : Int) : List (Chunk Sg) := []
def bits_Len64_rows (r_ : Int) : List (Mk Sg) := []
section
variable (x : Int)
theorem bits_Len64_calls {E_ : World} {G_ : Hp} {w_ : World} (hS : Sat E_ G_ w_ []) : Calls Try.prog 117 #[(.int .u64 x)] w_ (Post Dg E_ G_ (bits_Len64_out (bits_Len64 x)) (bits_Len64_nw (bits_Len64 x)) (bits_Len64_rows (bits_Len64 x))) :=
  calls_post Dg T_r07_Root_ok (I := []) Try.func117 mix (B := bodyOf Try.f117) (by kernel_rfl) [(.int .u64 x)] [.no] (by kernel_rfl) (objs := []) (ros := []) (psOk_cons pOk_no (psOk_nil)) (by kernel_rfl) (trivial) hS 400
    (t := Tree.br (decide (x ≥ (4294967296 : Int)))
  (Tree.br (decide (Int.fdiv x (4294967296 : Int) ≥ (65536 : Int)))
    (Tree.br (decide (Int.fdiv (Int.fdiv x (4294967296 : Int)) (65536 : Int) ≥ (256 : Int))) (Tree.need ((0 : Int) ≤ IntKind.wrap IntKind.u8 (Int.fdiv (Int.fdiv (Int.fdiv x (4294967296 : Int)) (65536 : Int)) (256 : Int)) ∧ IntKind.wrap IntKind.u8 (Int.fdiv (Int.fdiv (Int.fdiv x (4294967296 : Int)) (65536 : Int)) (256 : Int)) < (256 : Int)) (Tree.ret (vi_ (IntKind.wrap IntKind.i64 ((56 : Int) + IntKind.wrap IntKind.i64 (sAt SlLow_bytes0 (IntKind.wrap IntKind.u8 (Int.fdiv (Int.fdiv (Int.fdiv x (4294967296 : Int)) (65536 : Int)) (256 : Int))))))) pn_ []))
      (Tree.need ((0 : Int) ≤ IntKind.wrap IntKind.u8 (Int.fdiv (Int.fdiv x (4294967296 : Int)) (65536 : Int)) ∧ IntKind.wrap IntKind.u8 (Int.fdiv (Int.fdiv x (4294967296 : Int)) (65536 : Int)) < (256 : Int)) (Tree.ret (vi_ (IntKind.wrap IntKind.i64 ((48 : Int) + IntKind.wrap IntKind.i64 (sAt SlLow_bytes0 (IntKind.wrap IntKind.u8 (Int.fdiv (Int.fdiv x (4294967296 : Int)) (65536 : Int))))))) pn_ [])))
    (Tree.br (decide (Int.fdiv x (4294967296 : Int) ≥ (256 : Int))) (Tree.need ((0 : Int) ≤ IntKind.wrap IntKind.u8 (Int.fdiv (Int.fdiv x (4294967296 : Int)) (256 : Int)) ∧ IntKind.wrap IntKind.u8 (Int.fdiv (Int.fdiv x (4294967296 : Int)) (256 : Int)) < (256 : Int)) (Tree.ret (vi_ (IntKind.wrap IntKind.i64 ((40 : Int) + IntKind.wrap IntKind.i64 (sAt SlLow_bytes0 (IntKind.wrap IntKind.u8 (Int.fdiv (Int.fdiv x (4294967296 : Int)) (256 : Int))))))) pn_ []))
      (Tree.need ((0 : Int) ≤ IntKind.wrap IntKind.u8 (Int.fdiv x (4294967296 : Int)) ∧ IntKind.wrap IntKind.u8 (Int.fdiv x (4294967296 : Int)) < (256 : Int)) (Tree.ret (vi_ (IntKind.wrap IntKind.i64 ((32 : Int) + IntKind.wrap IntKind.i64 (sAt SlLow_bytes0 (IntKind.wrap IntKind.u8 (Int.fdiv x (4294967296 : Int))))))) pn_ []))))
  (Tree.br (decide (x ≥ (65536 : Int)))
    (Tree.br (decide (Int.fdiv x (65536 : Int) ≥ (256 : Int))) (Tree.need ((0 : Int) ≤ IntKind.wrap IntKind.u8 (Int.fdiv (Int.fdiv x (65536 : Int)) (256 : Int)) ∧ IntKind.wrap IntKind.u8 (Int.fdiv (Int.fdiv x (65536 : Int)) (256 : Int)) < (256 : Int)) (Tree.ret (vi_ (IntKind.wrap IntKind.i64 ((24 : Int) + IntKind.wrap IntKind.i64 (sAt SlLow_bytes0 (IntKind.wrap IntKind.u8 (Int.fdiv (Int.fdiv x (65536 : Int)) (256 : Int))))))) pn_ []))
      (Tree.need ((0 : Int) ≤ IntKind.wrap IntKind.u8 (Int.fdiv x (65536 : Int)) ∧ IntKind.wrap IntKind.u8 (Int.fdiv x (65536 : Int)) < (256 : Int)) (Tree.ret (vi_ (IntKind.wrap IntKind.i64 ((16 : Int) + IntKind.wrap IntKind.i64 (sAt SlLow_bytes0 (IntKind.wrap IntKind.u8 (Int.fdiv x (65536 : Int))))))) pn_ [])))
    (Tree.br (decide (x ≥ (256 : Int))) (Tree.need ((0 : Int) ≤ IntKind.wrap IntKind.u8 (Int.fdiv x (256 : Int)) ∧ IntKind.wrap IntKind.u8 (Int.fdiv x (256 : Int)) < (256 : Int)) (Tree.ret (vi_ (IntKind.wrap IntKind.i64 ((8 : Int) + IntKind.wrap IntKind.i64 (sAt SlLow_bytes0 (IntKind.wrap IntKind.u8 (Int.fdiv x (256 : Int))))))) pn_ []))
      (Tree.need ((0 : Int) ≤ IntKind.wrap IntKind.u8 x ∧ IntKind.wrap IntKind.u8 x < (256 : Int)) (Tree.ret (vi_ (IntKind.wrap IntKind.i64 ((0 : Int) + IntKind.wrap IntKind.i64 (sAt SlLow_bytes0 (IntKind.wrap IntKind.u8 x))))) pn_ [])))))
    (by kernel_rfl)
    (⟨fun z0 => ⟨fun z1 => ⟨fun z2 => ⟨by exact u8_need _, fun y3 => RetOk.at (outf := bits_Len64_out) (nwf := bits_Len64_nw) (rowsf := bits_Len64_rows) (r := IntKind.wrap IntKind.i64 ((56 : Int) + IntKind.wrap IntKind.i64 (sAt SlLow_bytes0 (IntKind.wrap IntKind.u8 (Int.fdiv (Int.fdiv (Int.fdiv x (4294967296 : Int)) (65536 : Int)) (256 : Int)))))) (by first | exact Eq.symm ((cT z0).trans ((cT z1).trans ((cT z2).trans rfl))) | (simp only [bits_Len64, z0, z1, z2, cond_true, cond_false]; done) | (exfalso; simp_all; done) | decide) ⟨[], [], (by decide), rfl, rfl, trivial⟩⟩, fun z2 => ⟨by exact u8_need _, fun y3 => RetOk.at (outf := bits_Len64_out) (nwf := bits_Len64_nw) (rowsf := bits_Len64_rows) (r := IntKind.wrap IntKind.i64 ((48 : Int) + IntKind.wrap IntKind.i64 (sAt SlLow_bytes0 (IntKind.wrap IntKind.u8 (Int.fdiv (Int.fdiv x (4294967296 : Int)) (65536 : Int)))))) (by first | exact Eq.symm ((cT z0).trans ((cT z1).trans ((cF z2).trans rfl))) | (simp only [bits_Len64, z0, z1, z2, cond_true, cond_false]; done) | (exfalso; simp_all; done) | decide) ⟨[], [], (by decide), rfl, rfl, trivial⟩⟩⟩, fun z1 => ⟨fun z2 => ⟨by exact u8_need _, fun y3 => RetOk.at (outf := bits_Len64_out) (nwf := bits_Len64_nw) (rowsf := bits_Len64_rows) (r := IntKind.wrap IntKind.i64 ((40 : Int) + IntKind.wrap IntKind.i64 (sAt SlLow_bytes0 (IntKind.wrap IntKind.u8 (Int.fdiv (Int.fdiv x (4294967296 : Int)) (256 : Int)))))) (by first | exact Eq.symm ((cT z0).trans ((cF z1).trans ((cT z2).trans rfl))) | (simp only [bits_Len64, z0, z1, z2, cond_true, cond_false]; done) | (exfalso; simp_all; done) | decide) ⟨[], [], (by decide), rfl, rfl, trivial⟩⟩, fun z2 => ⟨by exact u8_need _, fun y3 => RetOk.at (outf := bits_Len64_out) (nwf := bits_Len64_nw) (rowsf := bits_Len64_rows) (r := IntKind.wrap IntKind.i64 ((32 : Int) + IntKind.wrap IntKind.i64 (sAt SlLow_bytes0 (IntKind.wrap IntKind.u8 (Int.fdiv x (4294967296 : Int)))))) (by first | exact Eq.symm ((cT z0).trans ((cF z1).trans ((cF z2).trans rfl))) | (simp only [bits_Len64, z0, z1, z2, cond_true, cond_false]; done) | (exfalso; simp_all; done) | decide) ⟨[], [], (by decide), rfl, rfl, trivial⟩⟩⟩⟩, fun z0 => ⟨fun z1 => ⟨fun z2 => ⟨by exact u8_need _, fun y3 => RetOk.at (outf := bits_Len64_out) (nwf := bits_Len64_nw) (rowsf := bits_Len64_rows) (r := IntKind.wrap IntKind.i64 ((24 : Int) + IntKind.wrap IntKind.i64 (sAt SlLow_bytes0 (IntKind.wrap IntKind.u8 (Int.fdiv (Int.fdiv x (65536 : Int)) (256 : Int)))))) (by first | exact Eq.symm ((cF z0).trans ((cT z1).trans ((cT z2).trans rfl))) | (simp only [bits_Len64, z0, z1, z2, cond_true, cond_false]; done) | (exfalso; simp_all; done) | decide) ⟨[], [], (by decide), rfl, rfl, trivial⟩⟩, fun z2 => ⟨by exact u8_need _, fun y3 => RetOk.at (outf := bits_Len64_out) (nwf := bits_Len64_nw) (rowsf := bits_Len64_rows) (r := IntKind.wrap IntKind.i64 ((16 : Int) + IntKind.wrap IntKind.i64 (sAt SlLow_bytes0 (IntKind.wrap IntKind.u8 (Int.fdiv x (65536 : Int)))))) (by first | exact Eq.symm ((cF z0).trans ((cT z1).trans ((cF z2).trans rfl))) | (simp only [bits_Len64, z0, z1, z2, cond_true, cond_false]; done) | (exfalso; simp_all; done) | decide) ⟨[], [], (by decide), rfl, rfl, trivial⟩⟩⟩, fun z1 => ⟨fun z2 => ⟨by exact u8_need _, fun y3 => RetOk.at (outf := bits_Len64_out) (nwf := bits_Len64_nw) (rowsf := bits_Len64_rows) (r := IntKind.wrap IntKind.i64 ((8 : Int) + IntKind.wrap IntKind.i64 (sAt SlLow_bytes0 (IntKind.wrap IntKind.u8 (Int.fdiv x (256 : Int)))))) (by first | exact Eq.symm ((cF z0).trans ((cF z1).trans ((cT z2).trans rfl))) | (simp only [bits_Len64, z0, z1, z2, cond_true, cond_false]; done) | (exfalso; simp_all; done) | decide) ⟨[], [], (by decide), rfl, rfl, trivial⟩⟩, fun z2 => ⟨by exact u8_need _, fun y3 => RetOk.at (outf := bits_Len64_out) (nwf := bits_Len64_nw) (rowsf := bits_Len64_rows) (r := IntKind.wrap IntKind.i64 ((0 : Int) + IntKind.wrap IntKind.i64 (sAt SlLow_bytes0 (IntKind.wrap IntKind.u8 x)))) (by first | exact Eq.symm ((cF z0).trans ((cF z1).trans ((cF z2).trans rfl))) | (simp only [bits_Len64, z0, z1, z2, cond_true, cond_false]; done) | (exfalso; simp_all; done) | decide) ⟨[], [], (by decide), rfl, rfl, trivial⟩⟩⟩⟩⟩)
end
def bits_Len64_e : Entry Sg := fun
  | [(.int .u64 x, _)] => some ⟨(bits_Len64 x), fun (r_ : Int) => ⟨[], none, [], fun ss => .int .i64 (r_), fun k_ => .no⟩⟩
  | _ => none
theorem bits_Len64_ok : EntryOk Dg Try.prog 117 bits_Len64_e := by
  intro args c r h hr_
  unfold bits_Len64_e at h
  split at h
  · injection h with h; subst h; subst hr_
    refine ⟨fun K acs _ => pOk_no, fun hpre E G w hi hS => ?_⟩
    exact entry_post Dg (by exact rfl) (bits_Len64_calls _  hS)
  · cases h
def T_bits_Len64 : List (Nat × Entry Sg) := (117, bits_Len64_e) :: T_r07_Root
theorem T_bits_Len64_ok : TableOk Dg Try.prog T_bits_Len64 := TableOk.cons Dg bits_Len64_ok T_r07_Root_ok

/- half.Log -/
def half_Log (n : Int) : Int := (bif decide (n < (1 : Int)) then (-1 : Int) else IntKind.wrap IntKind.i64 (bits_Len64 (IntKind.wrap IntKind.u64 n) - (1 : Int)))
def half_Log_out (r_ : Int) : List Value → Value := fun ss => .int .i64 (r_)
def half_Log_nw (r_ : Int) : List (Chunk Sg) := []
def half_Log_rows (r_ : Int) : List (Mk Sg) := []
section
variable (n : Int)
theorem half_Log_calls {E_ : World} {G_ : Hp} {w_ : World} (hS : Sat E_ G_ w_ []) : Calls Try.prog 87 #[(.int .i64 n)] w_ (Post Dg E_ G_ (half_Log_out (half_Log n)) (half_Log_nw (half_Log n)) (half_Log_rows (half_Log n))) :=
  calls_post Dg T_bits_Len64_ok (I := []) Try.func87 mix (B := bodyOf Try.f87) (by kernel_rfl) [(.int .i64 n)] [.no] (by kernel_rfl) (objs := []) (ros := []) (psOk_cons pOk_no (psOk_nil)) (by kernel_rfl) (trivial) hS 400
    (t := Tree.br (decide (n < (1 : Int))) (Tree.ret (vi_ (-1 : Int)) pn_ []) (Tree.ret (vi_ (IntKind.wrap IntKind.i64 (bits_Len64 (IntKind.wrap IntKind.u64 n) - (1 : Int)))) pn_ []))
    (by kernel_rfl)
    (⟨fun z0 => RetOk.at (outf := half_Log_out) (nwf := half_Log_nw) (rowsf := half_Log_rows) (r := (-1 : Int)) (by first | exact Eq.symm ((cT z0).trans rfl) | (simp only [half_Log, z0, cond_true, cond_false]; done) | (exfalso; simp_all; done) | decide) ⟨[], [], (by decide), rfl, rfl, trivial⟩, fun z0 => RetOk.at (outf := half_Log_out) (nwf := half_Log_nw) (rowsf := half_Log_rows) (r := IntKind.wrap IntKind.i64 (bits_Len64 (IntKind.wrap IntKind.u64 n) - (1 : Int))) (by first | exact Eq.symm ((cF z0).trans rfl) | (simp only [half_Log, z0, cond_true, cond_false]; done) | (exfalso; simp_all; done) | decide) ⟨[], [], (by decide), rfl, rfl, trivial⟩⟩)
end
def half_Log_e : Entry Sg := fun
  | [(.int .i64 n, _)] => some ⟨(half_Log n), fun (r_ : Int) => ⟨[], none, [], fun ss => .int .i64 (r_), fun k_ => .no⟩⟩
  | _ => none
theorem half_Log_ok : EntryOk Dg Try.prog 87 half_Log_e := by
  intro args c r h hr_
  unfold half_Log_e at h
  split at h
  · injection h with h; subst h; subst hr_
    refine ⟨fun K acs _ => pOk_no, fun hpre E G w hi hS => ?_⟩
    exact entry_post Dg (by exact rfl) (half_Log_calls _  hS)
  · cases h
def T_half_Log : List (Nat × Entry Sg) := (87, half_Log_e) :: T_bits_Len64
theorem T_half_Log_ok : TableOk Dg Try.prog T_half_Log := TableOk.cons Dg half_Log_ok T_bits_Len64_ok

theorem logI_lt {n : Int} (h : n < 1) : logI n = -1 := by unfold logI; rw [if_pos h]
theorem logI_half {n : Int} (h : 1 ≤ n) : logI n = logI (n / 2) + 1 := by
  unfold logI
  rw [if_neg (by omega), Nat.log2_def]
  by_cases h2 : n / 2 < 1
  · rw [if_pos h2, if_neg (by omega)]; rfl
  · rw [if_neg h2, if_pos (by omega)]
    have : (n / 2).toNat = n.toNat / 2 := by omega
    rw [this]; push_cast; rfl
theorem logI_le (k : Nat) : ∀ n : Int, n < 2 ^ k → logI n ≤ (k : Int) - 1 := by
  induction k with
  | zero => intro n h; rw [logI_lt (by simpa using h)]; omega
  | succ k ih =>
    intro n h
    by_cases h1 : 1 ≤ n
    · rw [logI_half h1]
      have := ih (n / 2) (by rw [Int.pow_succ] at h; omega)
      push_cast; omega
    · rw [logI_lt (by omega)]; push_cast; omega
theorem logI_ge (n : Int) : -1 ≤ logI n := by
  unfold logI
  split <;> omega


/- nacreref01.Log -/
def r01_Log (n : Int) : Int := logI n
def r01_Log_out (r_ : Int) : List Value → Value := fun ss => .int .i64 (r_)
def r01_Log_nw (r_ : Int) : List (Chunk Sg) := []
def r01_Log_rows (r_ : Int) : List (Mk Sg) := []
section
variable (n : Int)
abbrev r01_Log_T1 : Type := Int → Int → Prop
abbrev r01_Log_L1 (n : Int) (k : Int) (m : Int) : List Ent := [⟨3, none, .int .i64 k, .no⟩, ⟨0, none, .int .i64 m, .no⟩]
abbrev r01_Log_K1 (n : Int) (k : Int) (m : Int) : List (Chunk Sg) := []
abbrev r01_Log_H (E_ : World) (G_ : Hp) (n : Int) (r_ : Int) (Q1 : r01_Log_T1) : Prop := (∀ (k : Int) (m : Int), Q1 k m → SW Dg Try.prog 88 (Post Dg E_ G_ (r01_Log_out r_) (r01_Log_nw r_) (r01_Log_rows r_)) (bodyOf Try.f88) Try.f88.ntmps E_ G_ (.code (0 :: [0,0,1,1]) :: .again [0,0,1,1] :: [.blk 0, .code [1,1,1]]) (r01_Log_L1 n k m) (r01_Log_K1 n k m))
abbrev r01_Log_wp0 (n : Int) (Q1 : r01_Log_T1) (R_ : Int → Prop) : Prop := (Q1 ((-1 : Int)) (n))
abbrev r01_Log_t0 (n : Int) : Tree Sg := Tree.stuck [Ab.code [0, 0, 1, 1], Ab.blk 0, Ab.code [1, 1, 1]] [e0_ 1000003 (Value.tuple { toList := [] }) pn_, e0_ 3 (vi_ (-1 : Int)) pn_, e0_ 1000002 (Value.tuple { toList := [] }) pn_, e0_ 2 (vi_ (0 : Int)) pn_, e0_ 0 (vi_ n) pn_] []
theorem r01_Log_pc0 {E_ : World} {G_ : Hp} {r_ : Int} {Q1 : r01_Log_T1} (hQ : r01_Log_H E_ G_ n r_ Q1) (h : r01_Log_wp0 n Q1 (fun x => x = r_)) : (r01_Log_t0 n ).holds (RetOk (r01_Log_out r_) (r01_Log_nw r_) (r01_Log_rows r_)) (SW Dg Try.prog 88 (Post Dg E_ G_ (r01_Log_out r_) (r01_Log_nw r_) (r01_Log_rows r_)) (bodyOf Try.f88) Try.f88.ntmps E_ G_) :=
  SW.move Dg [3, 0] [] (by decide) (by kernel_rfl) (by kernel_rfl) (SW.enter Dg (by kernel_rfl) (hQ ((-1 : Int)) (n) h))
abbrev r01_Log_wp1 (n : Int) (k : Int) (m : Int) (Q1 : r01_Log_T1) (R_ : Int → Prop) : Prop := (((decide (m ≥ (1 : Int))) = true → (Q1 (IntKind.wrap IntKind.i64 (k + (1 : Int))) (IntKind.wrap IntKind.i64 (Int.tdiv m (2 : Int))))) ∧ ((decide (m ≥ (1 : Int))) = false → (R_ (k))))
abbrev r01_Log_t1 (n : Int) (k : Int) (m : Int) : Tree Sg := Tree.br (decide (m ≥ (1 : Int))) (Tree.stuck [Ab.again [0, 0, 1, 1], Ab.blk 0, Ab.code [1, 1, 1]] [e0_ 3 (vi_ (IntKind.wrap IntKind.i64 (k + (1 : Int)))) pn_, e0_ 9 (vi_ (IntKind.wrap IntKind.i64 (k + (1 : Int)))) pn_, e0_ 8 (vi_ k) pn_, e0_ 0 (vi_ (IntKind.wrap IntKind.i64 (Int.tdiv m (2 : Int)))) pn_, e0_ 7 (vi_ (IntKind.wrap IntKind.i64 (Int.tdiv m (2 : Int)))) pn_, e0_ 6 (vi_ m) pn_, e0_ 5 (Value.bool (decide (m ≥ (1 : Int)))) pn_, e0_ 4 (vi_ m) pn_] []) (Tree.ret (vi_ k) pn_ [])
theorem r01_Log_pc1 {E_ : World} {G_ : Hp} (k : Int) (m : Int) {r_ : Int} {Q1 : r01_Log_T1} (hQ : r01_Log_H E_ G_ n r_ Q1) (h : r01_Log_wp1 n k m Q1 (fun x => x = r_)) : (r01_Log_t1 n k m ).holds (RetOk (r01_Log_out r_) (r01_Log_nw r_) (r01_Log_rows r_)) (SW Dg Try.prog 88 (Post Dg E_ G_ (r01_Log_out r_) (r01_Log_nw r_) (r01_Log_rows r_)) (bodyOf Try.f88) Try.f88.ntmps E_ G_) :=
  ⟨fun z0 => SW.move Dg [3, 0] [] (by decide) (by kernel_rfl) (by kernel_rfl) (SW.again Dg (hQ (IntKind.wrap IntKind.i64 (k + (1 : Int))) (IntKind.wrap IntKind.i64 (Int.tdiv m (2 : Int))) (h.1 z0))), fun z0 => RetOk.at (outf := r01_Log_out) (nwf := r01_Log_nw) (rowsf := r01_Log_rows) (r := k) (h.2 z0) ⟨[], [], (by decide), rfl, rfl, trivial⟩⟩
theorem r01_Log_go1 {E_ : World} {G_ : Hp} (k : Int) (m : Int) {r_ : Int} {Q1 : r01_Log_T1} (hQ : r01_Log_H E_ G_ n r_ Q1) (h : r01_Log_wp1 n k m Q1 (fun x => x = r_)) : SW Dg Try.prog 88 (Post Dg E_ G_ (r01_Log_out r_) (r01_Log_nw r_) (r01_Log_rows r_)) (bodyOf Try.f88) Try.f88.ntmps E_ G_ (.code (0 :: [0,0,1,1]) :: .again [0,0,1,1] :: [.blk 0, .code [1,1,1]]) (r01_Log_L1 n k m) (r01_Log_K1 n k m) :=
  SW.go Dg T_half_Log_ok (I := []) Try.func88 mix 400 (t := r01_Log_t1 n k m ) (by kernel_rfl) (r01_Log_pc1 n k m hQ h)
theorem r01_Log_start {E_ : World} {G_ : Hp} {w_ : World} {r_ : Int} {Q1 : r01_Log_T1} (hQ : r01_Log_H E_ G_ n r_ Q1) (hS : Sat E_ G_ w_ []) (h : r01_Log_wp0 n Q1 (fun x => x = r_)) : Calls Try.prog 88 #[(.int .i64 n)] w_ (Post Dg E_ G_ (r01_Log_out r_) (r01_Log_nw r_) (r01_Log_rows r_)) :=
  calls_post Dg T_half_Log_ok (I := []) Try.func88 mix (B := bodyOf Try.f88) (by kernel_rfl) [(.int .i64 n)] [.no] (by kernel_rfl) (objs := []) (ros := []) (psOk_cons pOk_no (psOk_nil)) (by kernel_rfl) (trivial) hS 400
    (t := r01_Log_t0 n)
    (by kernel_rfl)
    (r01_Log_pc0 n hQ h)
def r01_Log_I (n : Int) (k : Int) (m : Int) (r_ : Int) : Prop := -1 ≤ k ∧ k + logI m ≤ 70 ∧ m ≤ 9223372036854775807 ∧ r_ = k + 1 + logI m
theorem r01_Log_step (hp0 : n ≤ 9223372036854775807) (k : Int) (m : Int) {r_ : Int} (hI : r01_Log_I n k m r_) : r01_Log_wp1 n k m (fun k' m' => r01_Log_I n k' m' r_ ∧ (m'.toNat) < (m.toNat)) (fun x => x = r_) := by
  unfold r01_Log_I at hI
  unfold r01_Log_wp1 r01_Log_I
  obtain ⟨h0, h1, hm, h2⟩ := hI
  refine ⟨fun h => ?_, fun h => ?_⟩
  · simp only [decide_eq_true_eq] at h
    have h3 : 1 ≤ m := by omega
    have h4 := logI_half h3
    have h5 := logI_ge (m / 2)
    have e : Int.tdiv m 2 = m / 2 := Int.tdiv_eq_ediv_of_nonneg (by omega)
    rw [e, w64 (by omega), w64 (by omega)]
    exact ⟨⟨by omega, by omega, by omega, by omega⟩, by omega⟩
  · simp only [decide_eq_false_iff_not] at h
    rw [h2, logI_lt (by omega)]; omega
theorem r01_Log_loop {E_ : World} {G_ : Hp} (hp0 : n ≤ 9223372036854775807) {r_ : Int} : ∀ s_ : Int × Int, r01_Log_I n s_.1 s_.2 r_ → SW Dg Try.prog 88 (Post Dg E_ G_ (r01_Log_out r_) (r01_Log_nw r_) (r01_Log_rows r_)) (bodyOf Try.f88) Try.f88.ntmps E_ G_ (.code (0 :: [0,0,1,1]) :: .again [0,0,1,1] :: [.blk 0, .code [1,1,1]]) (r01_Log_L1 n s_.1 s_.2) (r01_Log_K1 n s_.1 s_.2) :=
  SW.loop Dg (α := Int × Int) (fun s_ => r01_Log_L1 n s_.1 s_.2) (fun s_ => r01_Log_K1 n s_.1 s_.2) (fun s_ => s_.2.toNat) (fun s_ => r01_Log_I n s_.1 s_.2 r_) (fun ⟨k, m⟩ hI ih => r01_Log_go1 n k m (fun k' m' h => ih (k', m') h.1 h.2) (r01_Log_step n hp0 k m hI))
theorem r01_Log_begin (hp0 : n ≤ 9223372036854775807) : r01_Log_wp0 n (fun k m => r01_Log_I n k m (r01_Log n)) (fun x => x = (r01_Log n)) := by
  unfold r01_Log_wp0 r01_Log_I
  have := logI_le 63 n (by omega)
  exact ⟨by omega, by omega, hp0, by simp [r01_Log]⟩
theorem r01_Log_calls {E_ : World} {G_ : Hp} {w_ : World} (hp0 : n ≤ 9223372036854775807) (hS : Sat E_ G_ w_ []) : Calls Try.prog 88 #[(.int .i64 n)] w_ (Post Dg E_ G_ (r01_Log_out (r01_Log n)) (r01_Log_nw (r01_Log n)) (r01_Log_rows (r01_Log n))) :=
  r01_Log_start n (fun k m h => r01_Log_loop n hp0 (k, m) h) hS (r01_Log_begin n hp0 )
end
def r01_Log_e : Entry Sg := fun
  | [(.int .i64 n, _)] => some ⟨(r01_Log n), fun (r_ : Int) => ⟨[(n ≤ 9223372036854775807 : Prop)], none, [], fun ss => .int .i64 (r_), fun k_ => .no⟩⟩
  | _ => none
theorem r01_Log_ok : EntryOk Dg Try.prog 88 r01_Log_e := by
  intro args c r h hr_
  unfold r01_Log_e at h
  split at h
  · injection h with h; subst h; subst hr_
    refine ⟨fun K acs _ => pOk_no, fun hpre E G w hi hS => ?_⟩
    exact entry_post Dg (by exact rfl) (r01_Log_calls _ (hpre _ (by simp)) hS)
  · cases h
def T_r01_Log : List (Nat × Entry Sg) := (88, r01_Log_e) :: T_half_Log
theorem T_r01_Log_ok : TableOk Dg Try.prog T_r01_Log := TableOk.cons Dg r01_Log_ok T_half_Log_ok
end Go.Proofs.Ytdbpiopcbhmieaa

/-
  DERIVED. What functions of the program compute, read off their bodies by the machine of SlB, and that it is so. Printed by a program of this claim's own (wip/gen/gen2.py).
-/
import Derived.Test.YtaenbinoejnecaaDoorPlNum
namespace Go.Proofs.YtaenbinoejnecaaDoor
open Go.Sl
set_option linter.unusedSimpArgs false
set_option linter.unusedVariables false
def SlHalf_bytes0 : ByteArray := ⟨⟨[0, 1, 2, 2, 3, 3, 3, 3, 4, 4, 4, 4, 4, 4, 4, 4, 5, 5, 5, 5, 5, 5, 5, 5, 5, 5, 5, 5, 5, 5, 5, 5, 6, 6, 6, 6, 6, 6, 6, 6, 6, 6, 6, 6, 6, 6, 6, 6, 6, 6, 6, 6, 6, 6, 6, 6, 6, 6, 6, 6, 6, 6, 6, 6, 7, 7, 7, 7, 7, 7, 7, 7, 7, 7, 7, 7, 7, 7, 7, 7, 7, 7, 7, 7, 7, 7, 7, 7, 7, 7, 7, 7, 7, 7, 7, 7, 7, 7, 7, 7, 7, 7, 7, 7, 7, 7, 7, 7, 7, 7, 7, 7, 7, 7, 7, 7, 7, 7, 7, 7, 7, 7, 7, 7, 7, 7, 7, 7, 8, 8, 8, 8, 8, 8, 8, 8, 8, 8, 8, 8, 8, 8, 8, 8, 8, 8, 8, 8, 8, 8, 8, 8, 8, 8, 8, 8, 8, 8, 8, 8, 8, 8, 8, 8, 8, 8, 8, 8, 8, 8, 8, 8, 8, 8, 8, 8, 8, 8, 8, 8, 8, 8, 8, 8, 8, 8, 8, 8, 8, 8, 8, 8, 8, 8, 8, 8, 8, 8, 8, 8, 8, 8, 8, 8, 8, 8, 8, 8, 8, 8, 8, 8, 8, 8, 8, 8, 8, 8, 8, 8, 8, 8, 8, 8, 8, 8, 8, 8, 8, 8, 8, 8, 8, 8, 8, 8, 8, 8, 8, 8, 8, 8, 8, 8, 8, 8, 8, 8, 8, 8, 8, 8, 8, 8, 8, 8]⟩⟩

/- half.field -/
def half_field (x : Int) (y : Int) : Bool := decide (x ≥ (0 : Int)) && decide (y ≥ (1 : Int)) && decide (y ≤ (64 : Int)) && decide (x ≤ IntKind.wrap IntKind.i64 ((64 : Int) - y))
def half_field_out (r_ : Bool) : List Value → Value := fun ss => .bool (r_)
def half_field_nw (r_ : Bool) : List (Chunk Sg) := []
def half_field_rows (r_ : Bool) : List (Mk Sg) := []
section
variable (x : Int) (y : Int)
theorem half_field_calls {E_ : World} {G_ : Hp} {w_ : World} (hS : Sat E_ G_ w_ []) : Calls Tryd.prog 31 #[(.int .i64 x), (.int .i64 y)] w_ (Post Dg E_ G_ (half_field_out (half_field x y)) (half_field_nw (half_field x y)) (half_field_rows (half_field x y))) :=
  calls_post Dg T_nil_ok (I := []) Tryd.func31 mix (B := bodyOf Tryd.f31) (by kernel_rfl) [(.int .i64 x), (.int .i64 y)] [.no, .no] (by kernel_rfl) (objs := []) (ros := []) (psOk_cons pOk_no (psOk_cons pOk_no (psOk_nil))) (by kernel_rfl) (trivial) hS 400
    (t := Tree.ret (Value.bool (decide (x ≥ (0 : Int)) && decide (y ≥ (1 : Int)) && decide (y ≤ (64 : Int)) && decide (x ≤ IntKind.wrap IntKind.i64 ((64 : Int) - y)))) pn_ [])
    (by kernel_rfl)
    (RetOk.at (outf := half_field_out) (nwf := half_field_nw) (rowsf := half_field_rows) (r := decide (x ≥ (0 : Int)) && decide (y ≥ (1 : Int)) && decide (y ≤ (64 : Int)) && decide (x ≤ IntKind.wrap IntKind.i64 ((64 : Int) - y))) (by first | exact Eq.symm rfl | (simp only [half_field, cond_true, cond_false]; done) | (exfalso; simp_all; done) | decide) ⟨[], [], (by decide), rfl, rfl, trivial⟩)
end
def half_field_e : Entry Sg := fun
  | [(.int .i64 x, _), (.int .i64 y, _)] => some ⟨(half_field x y), fun (r_ : Bool) => ⟨[], none, [], fun ss => .bool (r_), fun k_ => .no⟩⟩
  | _ => none
theorem half_field_ok : EntryOk Dg Tryd.prog 31 half_field_e := by
  intro args c r h hr_
  unfold half_field_e at h
  split at h
  · injection h with h; subst h; subst hr_
    refine ⟨fun K acs _ => pOk_no, fun hpre E G w hi hS => ?_⟩
    exact entry_post Dg (by exact rfl) (half_field_calls _ _  hS)
  · cases h
def T_half_field : List (Nat × Entry Sg) := (31, half_field_e) :: T_nil
theorem T_half_field_ok : TableOk Dg Tryd.prog T_half_field := TableOk.cons Dg half_field_ok T_nil_ok

/- half.mask -/
def half_mask (x : Int) : Int := Int.fdiv (18446744073709551615 : Int) ((2 : Int) ^ min (Int.toNat (IntKind.wrap IntKind.i64 ((64 : Int) - x))) 64)
def half_mask_out (r_ : Int) : List Value → Value := fun ss => .int .u64 (r_)
def half_mask_nw (r_ : Int) : List (Chunk Sg) := []
def half_mask_rows (r_ : Int) : List (Mk Sg) := []
section
variable (x : Int)
theorem half_mask_calls {E_ : World} {G_ : Hp} {w_ : World} (hp0 : 0 ≤ IntKind.wrap IntKind.i64 (64 - x)) (hS : Sat E_ G_ w_ []) : Calls Tryd.prog 32 #[(.int .i64 x)] w_ (Post Dg E_ G_ (half_mask_out (half_mask x)) (half_mask_nw (half_mask x)) (half_mask_rows (half_mask x))) :=
  calls_post Dg T_half_field_ok (I := []) Tryd.func32 mix (B := bodyOf Tryd.f32) (by kernel_rfl) [(.int .i64 x)] [.no] (by kernel_rfl) (objs := []) (ros := []) (psOk_cons pOk_no (psOk_nil)) (by kernel_rfl) (trivial) hS 400
    (t := Tree.need ((0 : Int) ≤ IntKind.wrap IntKind.i64 ((64 : Int) - x)) (Tree.ret (Value.int IntKind.u64 (Int.fdiv (18446744073709551615 : Int) ((2 : Int) ^ min (Int.toNat (IntKind.wrap IntKind.i64 ((64 : Int) - x))) 64))) pn_ []))
    (by kernel_rfl)
    (⟨by exact hp0, fun y0 => RetOk.at (outf := half_mask_out) (nwf := half_mask_nw) (rowsf := half_mask_rows) (r := Int.fdiv (18446744073709551615 : Int) ((2 : Int) ^ min (Int.toNat (IntKind.wrap IntKind.i64 ((64 : Int) - x))) 64)) (by first | exact Eq.symm rfl | (simp only [half_mask, cond_true, cond_false]; done) | (exfalso; simp_all; done) | decide) ⟨[], [], (by decide), rfl, rfl, trivial⟩⟩)
end
def half_mask_e : Entry Sg := fun
  | [(.int .i64 x, _)] => some ⟨(half_mask x), fun (r_ : Int) => ⟨[(0 ≤ IntKind.wrap IntKind.i64 (64 - x) : Prop)], none, [], fun ss => .int .u64 (r_), fun k_ => .no⟩⟩
  | _ => none
theorem half_mask_ok : EntryOk Dg Tryd.prog 32 half_mask_e := by
  intro args c r h hr_
  unfold half_mask_e at h
  split at h
  · injection h with h; subst h; subst hr_
    refine ⟨fun K acs _ => pOk_no, fun hpre E G w hi hS => ?_⟩
    exact entry_post Dg (by exact rfl) (half_mask_calls _ (hpre _ (by simp)) hS)
  · cases h
def T_half_mask : List (Nat × Entry Sg) := (32, half_mask_e) :: T_half_field
theorem T_half_mask_ok : TableOk Dg Tryd.prog T_half_mask := TableOk.cons Dg half_mask_ok T_half_field_ok
theorem half_field_iff {x y : Int} : half_field x y = true ↔ 0 ≤ x ∧ 1 ≤ y ∧ y ≤ 64 ∧ x ≤ 64 - y := by
  simp only [half_field, Bool.and_eq_true, decide_eq_true_eq, IntKind.wrap_i64]
  omega
theorem half_need1 {x y : Int} (h : (!half_field x y) = false) : 0 ≤ IntKind.wrap IntKind.i64 (64 - y) := by
  have := half_field_iff.1 (by simpa using h)
  rw [IntKind.wrap_i64]; omega
theorem half_need2 {x y : Int} {b : Bool} (h : (!half_field x y || b) = false) : 0 ≤ IntKind.wrap IntKind.i64 (64 - y) := half_need1 (Bool.or_eq_false_iff.1 h).1
theorem half_need3 {x y : Int} {b : Bool} (h : (!half_field x y || b) = false) : 0 ≤ x := (half_field_iff.1 (by simpa using (Bool.or_eq_false_iff.1 h).1)).1
theorem half_need4 {x y : Int} (h : (!half_field x y) = false) : 0 ≤ x := (half_field_iff.1 (by simpa using h)).1


/- half.Put -/
def half_Put (w : Int) (x : Int) (y : Int) (v : Int) : Int × Bool := (bif !half_field x y || decide (v > half_mask y) then ((0 : Int), false) else (IntKind.wrap IntKind.u64 (↑(BitVec.toNat (BitVec.ofInt 64 (IntKind.wrap IntKind.u64 (↑(BitVec.toNat (BitVec.ofInt 64 w &&& ~~~BitVec.ofInt 64 (IntKind.wrap IntKind.u64 (half_mask y * (2 : Int) ^ min (Int.toNat x) 64)))) : Int)) ||| BitVec.ofInt 64 (IntKind.wrap IntKind.u64 (v * (2 : Int) ^ min (Int.toNat x) 64)))) : Int), true))
def half_Put_out (r_ : Int × Bool) : List Value → Value := fun ss => .tuple #[.int .u64 (r_.1), .bool (r_.2)]
def half_Put_nw (r_ : Int × Bool) : List (Chunk Sg) := []
def half_Put_rows (r_ : Int × Bool) : List (Mk Sg) := []
section
variable (w : Int) (x : Int) (y : Int) (v : Int)
theorem half_Put_calls {E_ : World} {G_ : Hp} {w_ : World} (hS : Sat E_ G_ w_ []) : Calls Tryd.prog 23 #[(.int .u64 w), (.int .i64 x), (.int .i64 y), (.int .u64 v)] w_ (Post Dg E_ G_ (half_Put_out (half_Put w x y v)) (half_Put_nw (half_Put w x y v)) (half_Put_rows (half_Put w x y v))) :=
  calls_post Dg T_half_mask_ok (I := []) Tryd.func23 mix (B := bodyOf Tryd.f23) (by kernel_rfl) [(.int .u64 w), (.int .i64 x), (.int .i64 y), (.int .u64 v)] [.no, .no, .no, .no] (by kernel_rfl) (objs := []) (ros := []) (psOk_cons pOk_no (psOk_cons pOk_no (psOk_cons pOk_no (psOk_cons pOk_no (psOk_nil))))) (by kernel_rfl) (trivial) hS 400
    (t := Tree.need ((!half_field x y) = false → (0 : Int) ≤ IntKind.wrap IntKind.i64 ((64 : Int) - y)) (Tree.br (!half_field x y || decide (v > half_mask y)) (Tree.ret (Value.tuple { toList := [Value.int IntKind.u64 (0 : Int), Value.bool false] }) pn_ []) (Tree.need ((0 : Int) ≤ IntKind.wrap IntKind.i64 ((64 : Int) - y)) (Tree.need ((0 : Int) ≤ x) (Tree.need ((0 : Int) ≤ x) (Tree.ret (Value.tuple { toList := [Value.int IntKind.u64 (IntKind.wrap IntKind.u64 (↑(BitVec.toNat (BitVec.ofInt 64 (IntKind.wrap IntKind.u64 (↑(BitVec.toNat (BitVec.ofInt 64 w &&& ~~~BitVec.ofInt 64 (IntKind.wrap IntKind.u64 (half_mask y * (2 : Int) ^ min (Int.toNat x) 64)))) : Int)) ||| BitVec.ofInt 64 (IntKind.wrap IntKind.u64 (v * (2 : Int) ^ min (Int.toNat x) 64)))) : Int)), Value.bool true] }) pn_ []))))))
    (by kernel_rfl)
    (⟨by first | exact half_need1 (by assumption) | exact half_need2 (by assumption) | exact half_need3 (by assumption) | (intro h_; first | exact half_need1 h_ | exact half_need2 h_ | exact half_need3 h_), fun y0 => ⟨fun z1 => RetOk.at (outf := half_Put_out) (nwf := half_Put_nw) (rowsf := half_Put_rows) (r := ((0 : Int), false)) (by first | exact Eq.symm ((cT z1).trans rfl) | (simp only [half_Put, z1, cond_true, cond_false]; done) | (exfalso; simp_all; done) | decide) ⟨[], [], (by decide), rfl, rfl, trivial⟩, fun z1 => ⟨by first | exact half_need1 (by assumption) | exact half_need2 (by assumption) | exact half_need3 (by assumption) | (intro h_; first | exact half_need1 h_ | exact half_need2 h_ | exact half_need3 h_), fun y2 => ⟨by first | exact half_need1 (by assumption) | exact half_need2 (by assumption) | exact half_need3 (by assumption) | (intro h_; first | exact half_need1 h_ | exact half_need2 h_ | exact half_need3 h_), fun y3 => ⟨by first | exact half_need1 (by assumption) | exact half_need2 (by assumption) | exact half_need3 (by assumption) | (intro h_; first | exact half_need1 h_ | exact half_need2 h_ | exact half_need3 h_), fun y4 => RetOk.at (outf := half_Put_out) (nwf := half_Put_nw) (rowsf := half_Put_rows) (r := (IntKind.wrap IntKind.u64 (↑(BitVec.toNat (BitVec.ofInt 64 (IntKind.wrap IntKind.u64 (↑(BitVec.toNat (BitVec.ofInt 64 w &&& ~~~BitVec.ofInt 64 (IntKind.wrap IntKind.u64 (half_mask y * (2 : Int) ^ min (Int.toNat x) 64)))) : Int)) ||| BitVec.ofInt 64 (IntKind.wrap IntKind.u64 (v * (2 : Int) ^ min (Int.toNat x) 64)))) : Int), true)) (by first | exact Eq.symm ((cF z1).trans rfl) | (simp only [half_Put, z1, cond_true, cond_false]; done) | (exfalso; simp_all; done) | decide) ⟨[], [], (by decide), rfl, rfl, trivial⟩⟩⟩⟩⟩⟩)
end
def half_Put_e : Entry Sg := fun
  | [(.int .u64 w, _), (.int .i64 x, _), (.int .i64 y, _), (.int .u64 v, _)] => some ⟨(half_Put w x y v), fun (r_ : Int × Bool) => ⟨[], none, [], fun ss => .tuple #[.int .u64 (r_.1), .bool (r_.2)], fun k_ => .no⟩⟩
  | _ => none
theorem half_Put_ok : EntryOk Dg Tryd.prog 23 half_Put_e := by
  intro args c r h hr_
  unfold half_Put_e at h
  split at h
  · injection h with h; subst h; subst hr_
    refine ⟨fun K acs _ => pOk_no, fun hpre E G w hi hS => ?_⟩
    exact entry_post Dg (by exact rfl) (half_Put_calls _ _ _ _  hS)
  · cases h
def T_half_Put : List (Nat × Entry Sg) := (23, half_Put_e) :: T_half_mask
theorem T_half_Put_ok : TableOk Dg Tryd.prog T_half_Put := TableOk.cons Dg half_Put_ok T_half_mask_ok

/- half.Get -/
def half_Get (w : Int) (x : Int) (y : Int) : Int := (bif !half_field x y then (0 : Int) else IntKind.wrap IntKind.u64 (↑(BitVec.toNat (BitVec.ofInt 64 (Int.fdiv w ((2 : Int) ^ min (Int.toNat x) 64)) &&& BitVec.ofInt 64 (half_mask y))) : Int))
def half_Get_out (r_ : Int) : List Value → Value := fun ss => .int .u64 (r_)
def half_Get_nw (r_ : Int) : List (Chunk Sg) := []
def half_Get_rows (r_ : Int) : List (Mk Sg) := []
section
variable (w : Int) (x : Int) (y : Int)
theorem half_Get_calls {E_ : World} {G_ : Hp} {w_ : World} (hS : Sat E_ G_ w_ []) : Calls Tryd.prog 25 #[(.int .u64 w), (.int .i64 x), (.int .i64 y)] w_ (Post Dg E_ G_ (half_Get_out (half_Get w x y)) (half_Get_nw (half_Get w x y)) (half_Get_rows (half_Get w x y))) :=
  calls_post Dg T_half_Put_ok (I := []) Tryd.func25 mix (B := bodyOf Tryd.f25) (by kernel_rfl) [(.int .u64 w), (.int .i64 x), (.int .i64 y)] [.no, .no, .no] (by kernel_rfl) (objs := []) (ros := []) (psOk_cons pOk_no (psOk_cons pOk_no (psOk_cons pOk_no (psOk_nil)))) (by kernel_rfl) (trivial) hS 400
    (t := Tree.br (!half_field x y) (Tree.ret (Value.int IntKind.u64 (0 : Int)) pn_ []) (Tree.need ((0 : Int) ≤ x) (Tree.need ((0 : Int) ≤ IntKind.wrap IntKind.i64 ((64 : Int) - y)) (Tree.ret (Value.int IntKind.u64 (IntKind.wrap IntKind.u64 (↑(BitVec.toNat (BitVec.ofInt 64 (Int.fdiv w ((2 : Int) ^ min (Int.toNat x) 64)) &&& BitVec.ofInt 64 (half_mask y))) : Int))) pn_ []))))
    (by kernel_rfl)
    (⟨fun z0 => RetOk.at (outf := half_Get_out) (nwf := half_Get_nw) (rowsf := half_Get_rows) (r := (0 : Int)) (by first | exact Eq.symm ((cT z0).trans rfl) | (simp only [half_Get, z0, cond_true, cond_false]; done) | (exfalso; simp_all; done) | decide) ⟨[], [], (by decide), rfl, rfl, trivial⟩, fun z0 => ⟨by first | exact half_need1 (by assumption) | exact half_need4 (by assumption), fun y1 => ⟨by first | exact half_need1 (by assumption) | exact half_need4 (by assumption), fun y2 => RetOk.at (outf := half_Get_out) (nwf := half_Get_nw) (rowsf := half_Get_rows) (r := IntKind.wrap IntKind.u64 (↑(BitVec.toNat (BitVec.ofInt 64 (Int.fdiv w ((2 : Int) ^ min (Int.toNat x) 64)) &&& BitVec.ofInt 64 (half_mask y))) : Int)) (by first | exact Eq.symm ((cF z0).trans rfl) | (simp only [half_Get, z0, cond_true, cond_false]; done) | (exfalso; simp_all; done) | decide) ⟨[], [], (by decide), rfl, rfl, trivial⟩⟩⟩⟩)
end
def half_Get_e : Entry Sg := fun
  | [(.int .u64 w, _), (.int .i64 x, _), (.int .i64 y, _)] => some ⟨(half_Get w x y), fun (r_ : Int) => ⟨[], none, [], fun ss => .int .u64 (r_), fun k_ => .no⟩⟩
  | _ => none
theorem half_Get_ok : EntryOk Dg Tryd.prog 25 half_Get_e := by
  intro args c r h hr_
  unfold half_Get_e at h
  split at h
  · injection h with h; subst h; subst hr_
    refine ⟨fun K acs _ => pOk_no, fun hpre E G w hi hS => ?_⟩
    exact entry_post Dg (by exact rfl) (half_Get_calls _ _ _  hS)
  · cases h
def T_half_Get : List (Nat × Entry Sg) := (25, half_Get_e) :: T_half_Put
theorem T_half_Get_ok : TableOk Dg Tryd.prog T_half_Get := TableOk.cons Dg half_Get_ok T_half_Put_ok

/- half.Join -/
def half_Join (h : Int) (l : Int) : Int := IntKind.wrap IntKind.u64 (↑(BitVec.toNat (BitVec.ofInt 64 (IntKind.wrap IntKind.u64 (IntKind.wrap IntKind.u64 h * (4294967296 : Int))) ||| BitVec.ofInt 64 (IntKind.wrap IntKind.u64 l))) : Int)
def half_Join_out (r_ : Int) : List Value → Value := fun ss => .int .u64 (r_)
def half_Join_nw (r_ : Int) : List (Chunk Sg) := []
def half_Join_rows (r_ : Int) : List (Mk Sg) := []
section
variable (h : Int) (l : Int)
theorem half_Join_calls {E_ : World} {G_ : Hp} {w_ : World} (hS : Sat E_ G_ w_ []) : Calls Tryd.prog 7 #[(.int .u32 h), (.int .u32 l)] w_ (Post Dg E_ G_ (half_Join_out (half_Join h l)) (half_Join_nw (half_Join h l)) (half_Join_rows (half_Join h l))) :=
  calls_post Dg T_half_Get_ok (I := []) Tryd.func7 mix (B := bodyOf Tryd.f7) (by kernel_rfl) [(.int .u32 h), (.int .u32 l)] [.no, .no] (by kernel_rfl) (objs := []) (ros := []) (psOk_cons pOk_no (psOk_cons pOk_no (psOk_nil))) (by kernel_rfl) (trivial) hS 400
    (t := Tree.ret (Value.int IntKind.u64 (IntKind.wrap IntKind.u64 (↑(BitVec.toNat (BitVec.ofInt 64 (IntKind.wrap IntKind.u64 (IntKind.wrap IntKind.u64 h * (4294967296 : Int))) ||| BitVec.ofInt 64 (IntKind.wrap IntKind.u64 l))) : Int))) pn_ [])
    (by kernel_rfl)
    (RetOk.at (outf := half_Join_out) (nwf := half_Join_nw) (rowsf := half_Join_rows) (r := IntKind.wrap IntKind.u64 (↑(BitVec.toNat (BitVec.ofInt 64 (IntKind.wrap IntKind.u64 (IntKind.wrap IntKind.u64 h * (4294967296 : Int))) ||| BitVec.ofInt 64 (IntKind.wrap IntKind.u64 l))) : Int)) (by first | exact Eq.symm rfl | (simp only [half_Join, cond_true, cond_false]; done) | (exfalso; simp_all; done) | decide) ⟨[], [], (by decide), rfl, rfl, trivial⟩)
end
def half_Join_e : Entry Sg := fun
  | [(.int .u32 h, _), (.int .u32 l, _)] => some ⟨(half_Join h l), fun (r_ : Int) => ⟨[], none, [], fun ss => .int .u64 (r_), fun k_ => .no⟩⟩
  | _ => none
theorem half_Join_ok : EntryOk Dg Tryd.prog 7 half_Join_e := by
  intro args c r h hr_
  unfold half_Join_e at h
  split at h
  · injection h with h; subst h; subst hr_
    refine ⟨fun K acs _ => pOk_no, fun hpre E G w hi hS => ?_⟩
    exact entry_post Dg (by exact rfl) (half_Join_calls _ _  hS)
  · cases h
def T_half_Join : List (Nat × Entry Sg) := (7, half_Join_e) :: T_half_Get
theorem T_half_Join_ok : TableOk Dg Tryd.prog T_half_Join := TableOk.cons Dg half_Join_ok T_half_Get_ok

/- half.Hi -/
def half_Hi (w : Int) : Int := IntKind.wrap IntKind.u32 (Int.fdiv w (4294967296 : Int))
def half_Hi_out (r_ : Int) : List Value → Value := fun ss => .int .u32 (r_)
def half_Hi_nw (r_ : Int) : List (Chunk Sg) := []
def half_Hi_rows (r_ : Int) : List (Mk Sg) := []
section
variable (w : Int)
theorem half_Hi_calls {E_ : World} {G_ : Hp} {w_ : World} (hS : Sat E_ G_ w_ []) : Calls Tryd.prog 9 #[(.int .u64 w)] w_ (Post Dg E_ G_ (half_Hi_out (half_Hi w)) (half_Hi_nw (half_Hi w)) (half_Hi_rows (half_Hi w))) :=
  calls_post Dg T_half_Join_ok (I := []) Tryd.func9 mix (B := bodyOf Tryd.f9) (by kernel_rfl) [(.int .u64 w)] [.no] (by kernel_rfl) (objs := []) (ros := []) (psOk_cons pOk_no (psOk_nil)) (by kernel_rfl) (trivial) hS 400
    (t := Tree.ret (vu_ (IntKind.wrap IntKind.u32 (Int.fdiv w (4294967296 : Int)))) pn_ [])
    (by kernel_rfl)
    (RetOk.at (outf := half_Hi_out) (nwf := half_Hi_nw) (rowsf := half_Hi_rows) (r := IntKind.wrap IntKind.u32 (Int.fdiv w (4294967296 : Int))) (by first | exact Eq.symm rfl | (simp only [half_Hi, cond_true, cond_false]; done) | (exfalso; simp_all; done) | decide) ⟨[], [], (by decide), rfl, rfl, trivial⟩)
end
def half_Hi_e : Entry Sg := fun
  | [(.int .u64 w, _)] => some ⟨(half_Hi w), fun (r_ : Int) => ⟨[], none, [], fun ss => .int .u32 (r_), fun k_ => .no⟩⟩
  | _ => none
theorem half_Hi_ok : EntryOk Dg Tryd.prog 9 half_Hi_e := by
  intro args c r h hr_
  unfold half_Hi_e at h
  split at h
  · injection h with h; subst h; subst hr_
    refine ⟨fun K acs _ => pOk_no, fun hpre E G w hi hS => ?_⟩
    exact entry_post Dg (by exact rfl) (half_Hi_calls _  hS)
  · cases h
def T_half_Hi : List (Nat × Entry Sg) := (9, half_Hi_e) :: T_half_Join
theorem T_half_Hi_ok : TableOk Dg Tryd.prog T_half_Hi := TableOk.cons Dg half_Hi_ok T_half_Join_ok

/- half.Lo -/
def half_Lo (w : Int) : Int := IntKind.wrap IntKind.u32 w
def half_Lo_out (r_ : Int) : List Value → Value := fun ss => .int .u32 (r_)
def half_Lo_nw (r_ : Int) : List (Chunk Sg) := []
def half_Lo_rows (r_ : Int) : List (Mk Sg) := []
section
variable (w : Int)
theorem half_Lo_calls {E_ : World} {G_ : Hp} {w_ : World} (hS : Sat E_ G_ w_ []) : Calls Tryd.prog 11 #[(.int .u64 w)] w_ (Post Dg E_ G_ (half_Lo_out (half_Lo w)) (half_Lo_nw (half_Lo w)) (half_Lo_rows (half_Lo w))) :=
  calls_post Dg T_half_Hi_ok (I := []) Tryd.func11 mix (B := bodyOf Tryd.f11) (by kernel_rfl) [(.int .u64 w)] [.no] (by kernel_rfl) (objs := []) (ros := []) (psOk_cons pOk_no (psOk_nil)) (by kernel_rfl) (trivial) hS 400
    (t := Tree.ret (vu_ (IntKind.wrap IntKind.u32 w)) pn_ [])
    (by kernel_rfl)
    (RetOk.at (outf := half_Lo_out) (nwf := half_Lo_nw) (rowsf := half_Lo_rows) (r := IntKind.wrap IntKind.u32 w) (by first | exact Eq.symm rfl | (simp only [half_Lo, cond_true, cond_false]; done) | (exfalso; simp_all; done) | decide) ⟨[], [], (by decide), rfl, rfl, trivial⟩)
end
def half_Lo_e : Entry Sg := fun
  | [(.int .u64 w, _)] => some ⟨(half_Lo w), fun (r_ : Int) => ⟨[], none, [], fun ss => .int .u32 (r_), fun k_ => .no⟩⟩
  | _ => none
theorem half_Lo_ok : EntryOk Dg Tryd.prog 11 half_Lo_e := by
  intro args c r h hr_
  unfold half_Lo_e at h
  split at h
  · injection h with h; subst h; subst hr_
    refine ⟨fun K acs _ => pOk_no, fun hpre E G w hi hS => ?_⟩
    exact entry_post Dg (by exact rfl) (half_Lo_calls _  hS)
  · cases h
def T_half_Lo : List (Nat × Entry Sg) := (11, half_Lo_e) :: T_half_Hi
theorem T_half_Lo_ok : TableOk Dg Tryd.prog T_half_Lo := TableOk.cons Dg half_Lo_ok T_half_Hi_ok

/- nacreref01.Join -/
def r01_Join (h : Int) (l : Int) : Int := IntKind.wrap IntKind.u64 (IntKind.wrap IntKind.u64 (IntKind.wrap IntKind.u64 h * (4294967296 : Int)) + IntKind.wrap IntKind.u64 l)
def r01_Join_out (r_ : Int) : List Value → Value := fun ss => .int .u64 (r_)
def r01_Join_nw (r_ : Int) : List (Chunk Sg) := []
def r01_Join_rows (r_ : Int) : List (Mk Sg) := []
section
variable (h : Int) (l : Int)
theorem r01_Join_calls {E_ : World} {G_ : Hp} {w_ : World} (hS : Sat E_ G_ w_ []) : Calls Tryd.prog 8 #[(.int .u32 h), (.int .u32 l)] w_ (Post Dg E_ G_ (r01_Join_out (r01_Join h l)) (r01_Join_nw (r01_Join h l)) (r01_Join_rows (r01_Join h l))) :=
  calls_post Dg T_half_Lo_ok (I := []) Tryd.func8 mix (B := bodyOf Tryd.f8) (by kernel_rfl) [(.int .u32 h), (.int .u32 l)] [.no, .no] (by kernel_rfl) (objs := []) (ros := []) (psOk_cons pOk_no (psOk_cons pOk_no (psOk_nil))) (by kernel_rfl) (trivial) hS 400
    (t := Tree.ret (Value.int IntKind.u64 (IntKind.wrap IntKind.u64 (IntKind.wrap IntKind.u64 (IntKind.wrap IntKind.u64 h * (4294967296 : Int)) + IntKind.wrap IntKind.u64 l))) pn_ [])
    (by kernel_rfl)
    (RetOk.at (outf := r01_Join_out) (nwf := r01_Join_nw) (rowsf := r01_Join_rows) (r := IntKind.wrap IntKind.u64 (IntKind.wrap IntKind.u64 (IntKind.wrap IntKind.u64 h * (4294967296 : Int)) + IntKind.wrap IntKind.u64 l)) (by first | exact Eq.symm rfl | (simp only [r01_Join, cond_true, cond_false]; done) | (exfalso; simp_all; done) | decide) ⟨[], [], (by decide), rfl, rfl, trivial⟩)
end
def r01_Join_e : Entry Sg := fun
  | [(.int .u32 h, _), (.int .u32 l, _)] => some ⟨(r01_Join h l), fun (r_ : Int) => ⟨[], none, [], fun ss => .int .u64 (r_), fun k_ => .no⟩⟩
  | _ => none
theorem r01_Join_ok : EntryOk Dg Tryd.prog 8 r01_Join_e := by
  intro args c r h hr_
  unfold r01_Join_e at h
  split at h
  · injection h with h; subst h; subst hr_
    refine ⟨fun K acs _ => pOk_no, fun hpre E G w hi hS => ?_⟩
    exact entry_post Dg (by exact rfl) (r01_Join_calls _ _  hS)
  · cases h
def T_r01_Join : List (Nat × Entry Sg) := (8, r01_Join_e) :: T_half_Lo
theorem T_r01_Join_ok : TableOk Dg Tryd.prog T_r01_Join := TableOk.cons Dg r01_Join_ok T_half_Lo_ok

/- nacreref01.Hi -/
def r01_Hi (w : Int) : Int := IntKind.wrap IntKind.u32 (IntKind.wrap IntKind.u64 (Int.tdiv w (4294967296 : Int)))
def r01_Hi_out (r_ : Int) : List Value → Value := fun ss => .int .u32 (r_)
def r01_Hi_nw (r_ : Int) : List (Chunk Sg) := []
def r01_Hi_rows (r_ : Int) : List (Mk Sg) := []
section
variable (w : Int)
theorem r01_Hi_calls {E_ : World} {G_ : Hp} {w_ : World} (hS : Sat E_ G_ w_ []) : Calls Tryd.prog 10 #[(.int .u64 w)] w_ (Post Dg E_ G_ (r01_Hi_out (r01_Hi w)) (r01_Hi_nw (r01_Hi w)) (r01_Hi_rows (r01_Hi w))) :=
  calls_post Dg T_r01_Join_ok (I := []) Tryd.func10 mix (B := bodyOf Tryd.f10) (by kernel_rfl) [(.int .u64 w)] [.no] (by kernel_rfl) (objs := []) (ros := []) (psOk_cons pOk_no (psOk_nil)) (by kernel_rfl) (trivial) hS 400
    (t := Tree.ret (vu_ (IntKind.wrap IntKind.u32 (IntKind.wrap IntKind.u64 (Int.tdiv w (4294967296 : Int))))) pn_ [])
    (by kernel_rfl)
    (RetOk.at (outf := r01_Hi_out) (nwf := r01_Hi_nw) (rowsf := r01_Hi_rows) (r := IntKind.wrap IntKind.u32 (IntKind.wrap IntKind.u64 (Int.tdiv w (4294967296 : Int)))) (by first | exact Eq.symm rfl | (simp only [r01_Hi, cond_true, cond_false]; done) | (exfalso; simp_all; done) | decide) ⟨[], [], (by decide), rfl, rfl, trivial⟩)
end
def r01_Hi_e : Entry Sg := fun
  | [(.int .u64 w, _)] => some ⟨(r01_Hi w), fun (r_ : Int) => ⟨[], none, [], fun ss => .int .u32 (r_), fun k_ => .no⟩⟩
  | _ => none
theorem r01_Hi_ok : EntryOk Dg Tryd.prog 10 r01_Hi_e := by
  intro args c r h hr_
  unfold r01_Hi_e at h
  split at h
  · injection h with h; subst h; subst hr_
    refine ⟨fun K acs _ => pOk_no, fun hpre E G w hi hS => ?_⟩
    exact entry_post Dg (by exact rfl) (r01_Hi_calls _  hS)
  · cases h
def T_r01_Hi : List (Nat × Entry Sg) := (10, r01_Hi_e) :: T_r01_Join
theorem T_r01_Hi_ok : TableOk Dg Tryd.prog T_r01_Hi := TableOk.cons Dg r01_Hi_ok T_r01_Join_ok

/- nacreref01.Lo -/
def r01_Lo (w : Int) : Int := IntKind.wrap IntKind.u32 (Int.tmod w (4294967296 : Int))
def r01_Lo_out (r_ : Int) : List Value → Value := fun ss => .int .u32 (r_)
def r01_Lo_nw (r_ : Int) : List (Chunk Sg) := []
def r01_Lo_rows (r_ : Int) : List (Mk Sg) := []
section
variable (w : Int)
theorem r01_Lo_calls {E_ : World} {G_ : Hp} {w_ : World} (hS : Sat E_ G_ w_ []) : Calls Tryd.prog 12 #[(.int .u64 w)] w_ (Post Dg E_ G_ (r01_Lo_out (r01_Lo w)) (r01_Lo_nw (r01_Lo w)) (r01_Lo_rows (r01_Lo w))) :=
  calls_post Dg T_r01_Hi_ok (I := []) Tryd.func12 mix (B := bodyOf Tryd.f12) (by kernel_rfl) [(.int .u64 w)] [.no] (by kernel_rfl) (objs := []) (ros := []) (psOk_cons pOk_no (psOk_nil)) (by kernel_rfl) (trivial) hS 400
    (t := Tree.ret (vu_ (IntKind.wrap IntKind.u32 (Int.tmod w (4294967296 : Int)))) pn_ [])
    (by kernel_rfl)
    (RetOk.at (outf := r01_Lo_out) (nwf := r01_Lo_nw) (rowsf := r01_Lo_rows) (r := IntKind.wrap IntKind.u32 (Int.tmod w (4294967296 : Int))) (by first | exact Eq.symm rfl | (simp only [r01_Lo, cond_true, cond_false]; done) | (exfalso; simp_all; done) | decide) ⟨[], [], (by decide), rfl, rfl, trivial⟩)
end
def r01_Lo_e : Entry Sg := fun
  | [(.int .u64 w, _)] => some ⟨(r01_Lo w), fun (r_ : Int) => ⟨[], none, [], fun ss => .int .u32 (r_), fun k_ => .no⟩⟩
  | _ => none
theorem r01_Lo_ok : EntryOk Dg Tryd.prog 12 r01_Lo_e := by
  intro args c r h hr_
  unfold r01_Lo_e at h
  split at h
  · injection h with h; subst h; subst hr_
    refine ⟨fun K acs _ => pOk_no, fun hpre E G w hi hS => ?_⟩
    exact entry_post Dg (by exact rfl) (r01_Lo_calls _  hS)
  · cases h
def T_r01_Lo : List (Nat × Entry Sg) := (12, r01_Lo_e) :: T_r01_Hi
theorem T_r01_Lo_ok : TableOk Dg Tryd.prog T_r01_Lo := TableOk.cons Dg r01_Lo_ok T_r01_Hi_ok

/- nacreref01.field -/
def r01_field (x : Int) (y : Int) : Bool := decide (x ≥ (0 : Int)) && decide (x < (64 : Int)) && decide (y ≥ (1 : Int)) && decide (y ≤ IntKind.wrap IntKind.i64 ((64 : Int) - x))
def r01_field_out (r_ : Bool) : List Value → Value := fun ss => .bool (r_)
def r01_field_nw (r_ : Bool) : List (Chunk Sg) := []
def r01_field_rows (r_ : Bool) : List (Mk Sg) := []
section
variable (x : Int) (y : Int)
theorem r01_field_calls {E_ : World} {G_ : Hp} {w_ : World} (hS : Sat E_ G_ w_ []) : Calls Tryd.prog 33 #[(.int .i64 x), (.int .i64 y)] w_ (Post Dg E_ G_ (r01_field_out (r01_field x y)) (r01_field_nw (r01_field x y)) (r01_field_rows (r01_field x y))) :=
  calls_post Dg T_r01_Lo_ok (I := []) Tryd.func33 mix (B := bodyOf Tryd.f33) (by kernel_rfl) [(.int .i64 x), (.int .i64 y)] [.no, .no] (by kernel_rfl) (objs := []) (ros := []) (psOk_cons pOk_no (psOk_cons pOk_no (psOk_nil))) (by kernel_rfl) (trivial) hS 400
    (t := Tree.ret (Value.bool (decide (x ≥ (0 : Int)) && decide (x < (64 : Int)) && decide (y ≥ (1 : Int)) && decide (y ≤ IntKind.wrap IntKind.i64 ((64 : Int) - x)))) pn_ [])
    (by kernel_rfl)
    (RetOk.at (outf := r01_field_out) (nwf := r01_field_nw) (rowsf := r01_field_rows) (r := decide (x ≥ (0 : Int)) && decide (x < (64 : Int)) && decide (y ≥ (1 : Int)) && decide (y ≤ IntKind.wrap IntKind.i64 ((64 : Int) - x))) (by first | exact Eq.symm rfl | (simp only [r01_field, cond_true, cond_false]; done) | (exfalso; simp_all; done) | decide) ⟨[], [], (by decide), rfl, rfl, trivial⟩)
end
def r01_field_e : Entry Sg := fun
  | [(.int .i64 x, _), (.int .i64 y, _)] => some ⟨(r01_field x y), fun (r_ : Bool) => ⟨[], none, [], fun ss => .bool (r_), fun k_ => .no⟩⟩
  | _ => none
theorem r01_field_ok : EntryOk Dg Tryd.prog 33 r01_field_e := by
  intro args c r h hr_
  unfold r01_field_e at h
  split at h
  · injection h with h; subst h; subst hr_
    refine ⟨fun K acs _ => pOk_no, fun hpre E G w hi hS => ?_⟩
    exact entry_post Dg (by exact rfl) (r01_field_calls _ _  hS)
  · cases h
def T_r01_field : List (Nat × Entry Sg) := (33, r01_field_e) :: T_r01_Lo
theorem T_r01_field_ok : TableOk Dg Tryd.prog T_r01_field := TableOk.cons Dg r01_field_ok T_r01_Lo_ok

/- nacreref01.bit -/
def r01_bit (w : Int) (i : Int) : Int := Int.tmod (Int.fdiv w ((2 : Int) ^ min (Int.toNat (IntKind.wrap IntKind.u64 i)) 64)) (2 : Int)
def r01_bit_out (r_ : Int) : List Value → Value := fun ss => .int .u64 (r_)
def r01_bit_nw (r_ : Int) : List (Chunk Sg) := []
def r01_bit_rows (r_ : Int) : List (Mk Sg) := []
section
variable (w : Int) (i : Int)
theorem r01_bit_calls {E_ : World} {G_ : Hp} {w_ : World} (hS : Sat E_ G_ w_ []) : Calls Tryd.prog 34 #[(.int .u64 w), (.int .i64 i)] w_ (Post Dg E_ G_ (r01_bit_out (r01_bit w i)) (r01_bit_nw (r01_bit w i)) (r01_bit_rows (r01_bit w i))) :=
  calls_post Dg T_r01_field_ok (I := []) Tryd.func34 mix (B := bodyOf Tryd.f34) (by kernel_rfl) [(.int .u64 w), (.int .i64 i)] [.no, .no] (by kernel_rfl) (objs := []) (ros := []) (psOk_cons pOk_no (psOk_cons pOk_no (psOk_nil))) (by kernel_rfl) (trivial) hS 400
    (t := Tree.need ((0 : Int) ≤ IntKind.wrap IntKind.u64 i) (Tree.ret (Value.int IntKind.u64 (Int.tmod (Int.fdiv w ((2 : Int) ^ min (Int.toNat (IntKind.wrap IntKind.u64 i)) 64)) (2 : Int))) pn_ []))
    (by kernel_rfl)
    (⟨by rw [IntKind.wrap_u64]; omega, fun y0 => RetOk.at (outf := r01_bit_out) (nwf := r01_bit_nw) (rowsf := r01_bit_rows) (r := Int.tmod (Int.fdiv w ((2 : Int) ^ min (Int.toNat (IntKind.wrap IntKind.u64 i)) 64)) (2 : Int)) (by first | exact Eq.symm rfl | (simp only [r01_bit, cond_true, cond_false]; done) | (exfalso; simp_all; done) | decide) ⟨[], [], (by decide), rfl, rfl, trivial⟩⟩)
end
def r01_bit_e : Entry Sg := fun
  | [(.int .u64 w, _), (.int .i64 i, _)] => some ⟨(r01_bit w i), fun (r_ : Int) => ⟨[], none, [], fun ss => .int .u64 (r_), fun k_ => .no⟩⟩
  | _ => none
theorem r01_bit_ok : EntryOk Dg Tryd.prog 34 r01_bit_e := by
  intro args c r h hr_
  unfold r01_bit_e at h
  split at h
  · injection h with h; subst h; subst hr_
    refine ⟨fun K acs _ => pOk_no, fun hpre E G w hi hS => ?_⟩
    exact entry_post Dg (by exact rfl) (r01_bit_calls _ _  hS)
  · cases h
def T_r01_bit : List (Nat × Entry Sg) := (34, r01_bit_e) :: T_r01_field
theorem T_r01_bit_ok : TableOk Dg Tryd.prog T_r01_bit := TableOk.cons Dg r01_bit_ok T_r01_field_ok

/- nacreref01.Bit -/
def r01_Bit (w : Int) (i : Int) : Bool := decide (i ≥ (0 : Int)) && decide (i < (32 : Int)) && Int.tmod (Int.fdiv w ((2 : Int) ^ min (Int.toNat (IntKind.wrap IntKind.u64 i)) 32)) (2 : Int) == (1 : Int)
def r01_Bit_out (r_ : Bool) : List Value → Value := fun ss => .bool (r_)
def r01_Bit_nw (r_ : Bool) : List (Chunk Sg) := []
def r01_Bit_rows (r_ : Bool) : List (Mk Sg) := []
section
variable (w : Int) (i : Int)
theorem r01_Bit_calls {E_ : World} {G_ : Hp} {w_ : World} (hS : Sat E_ G_ w_ []) : Calls Tryd.prog 28 #[(.int .u32 w), (.int .i64 i)] w_ (Post Dg E_ G_ (r01_Bit_out (r01_Bit w i)) (r01_Bit_nw (r01_Bit w i)) (r01_Bit_rows (r01_Bit w i))) :=
  calls_post Dg T_r01_bit_ok (I := []) Tryd.func28 mix (B := bodyOf Tryd.f28) (by kernel_rfl) [(.int .u32 w), (.int .i64 i)] [.no, .no] (by kernel_rfl) (objs := []) (ros := []) (psOk_cons pOk_no (psOk_cons pOk_no (psOk_nil))) (by kernel_rfl) (trivial) hS 400
    (t := Tree.need ((decide (i ≥ (0 : Int)) && decide (i < (32 : Int))) = true → (0 : Int) ≤ IntKind.wrap IntKind.u64 i) (Tree.ret (Value.bool (decide (i ≥ (0 : Int)) && decide (i < (32 : Int)) && Int.tmod (Int.fdiv w ((2 : Int) ^ min (Int.toNat (IntKind.wrap IntKind.u64 i)) 32)) (2 : Int) == (1 : Int))) pn_ []))
    (by kernel_rfl)
    (⟨by first | omega | (rw [IntKind.wrap_u64]; omega) | (intro _; rw [IntKind.wrap_u64]; omega), fun y0 => RetOk.at (outf := r01_Bit_out) (nwf := r01_Bit_nw) (rowsf := r01_Bit_rows) (r := decide (i ≥ (0 : Int)) && decide (i < (32 : Int)) && Int.tmod (Int.fdiv w ((2 : Int) ^ min (Int.toNat (IntKind.wrap IntKind.u64 i)) 32)) (2 : Int) == (1 : Int)) (by first | exact Eq.symm rfl | (simp only [r01_Bit, cond_true, cond_false]; done) | (exfalso; simp_all; done) | decide) ⟨[], [], (by decide), rfl, rfl, trivial⟩⟩)
end
def r01_Bit_e : Entry Sg := fun
  | [(.int .u32 w, _), (.int .i64 i, _)] => some ⟨(r01_Bit w i), fun (r_ : Bool) => ⟨[], none, [], fun ss => .bool (r_), fun k_ => .no⟩⟩
  | _ => none
theorem r01_Bit_ok : EntryOk Dg Tryd.prog 28 r01_Bit_e := by
  intro args c r h hr_
  unfold r01_Bit_e at h
  split at h
  · injection h with h; subst h; subst hr_
    refine ⟨fun K acs _ => pOk_no, fun hpre E G w hi hS => ?_⟩
    exact entry_post Dg (by exact rfl) (r01_Bit_calls _ _  hS)
  · cases h
def T_r01_Bit : List (Nat × Entry Sg) := (28, r01_Bit_e) :: T_r01_bit
theorem T_r01_Bit_ok : TableOk Dg Tryd.prog T_r01_Bit := TableOk.cons Dg r01_Bit_ok T_r01_bit_ok

theorem u8_need (z : Int) : 0 ≤ IntKind.wrap IntKind.u8 z ∧ IntKind.wrap IntKind.u8 z < ((256 : Nat) : Int) := by
  rw [IntKind.wrap_u8]; omega


/- math/bits.Len64 -/
def bits_Len64 (x : Int) : Int := (bif decide (x ≥ (4294967296 : Int)) then (bif decide (Int.fdiv x (4294967296 : Int) ≥ (65536 : Int)) then (bif decide (Int.fdiv (Int.fdiv x (4294967296 : Int)) (65536 : Int) ≥ (256 : Int)) then IntKind.wrap IntKind.i64 ((56 : Int) + IntKind.wrap IntKind.i64 (sAt SlHalf_bytes0 (IntKind.wrap IntKind.u8 (Int.fdiv (Int.fdiv (Int.fdiv x (4294967296 : Int)) (65536 : Int)) (256 : Int))))) else IntKind.wrap IntKind.i64 ((48 : Int) + IntKind.wrap IntKind.i64 (sAt SlHalf_bytes0 (IntKind.wrap IntKind.u8 (Int.fdiv (Int.fdiv x (4294967296 : Int)) (65536 : Int)))))) else (bif decide (Int.fdiv x (4294967296 : Int) ≥ (256 : Int)) then IntKind.wrap IntKind.i64 ((40 : Int) + IntKind.wrap IntKind.i64 (sAt SlHalf_bytes0 (IntKind.wrap IntKind.u8 (Int.fdiv (Int.fdiv x (4294967296 : Int)) (256 : Int))))) else IntKind.wrap IntKind.i64 ((32 : Int) + IntKind.wrap IntKind.i64 (sAt SlHalf_bytes0 (IntKind.wrap IntKind.u8 (Int.fdiv x (4294967296 : Int))))))) else (bif decide (x ≥ (65536 : Int)) then (bif decide (Int.fdiv x (65536 : Int) ≥ (256 : Int)) then IntKind.wrap IntKind.i64 ((24 : Int) + IntKind.wrap IntKind.i64 (sAt SlHalf_bytes0 (IntKind.wrap IntKind.u8 (Int.fdiv (Int.fdiv x (65536 : Int)) (256 : Int))))) else IntKind.wrap IntKind.i64 ((16 : Int) + IntKind.wrap IntKind.i64 (sAt SlHalf_bytes0 (IntKind.wrap IntKind.u8 (Int.fdiv x (65536 : Int)))))) else (bif decide (x ≥ (256 : Int)) then IntKind.wrap IntKind.i64 ((8 : Int) + IntKind.wrap IntKind.i64 (sAt SlHalf_bytes0 (IntKind.wrap IntKind.u8 (Int.fdiv x (256 : Int))))) else IntKind.wrap IntKind.i64 ((0 : Int) + IntKind.wrap IntKind.i64 (sAt SlHalf_bytes0 (IntKind.wrap IntKind.u8 x))))))
def bits_Len64_out (r_ : Int) : List Value → Value := fun ss => .int .i64 (r_)
def bits_Len64_nw (r_ : Int) : List (Chunk Sg) := []
def bits_Len64_rows (r_ : Int) : List (Mk Sg) := []
section
variable (x : Int)
theorem bits_Len64_calls {E_ : World} {G_ : Hp} {w_ : World} (hS : Sat E_ G_ w_ []) : Calls Tryd.prog 30 #[(.int .u64 x)] w_ (Post Dg E_ G_ (bits_Len64_out (bits_Len64 x)) (bits_Len64_nw (bits_Len64 x)) (bits_Len64_rows (bits_Len64 x))) :=
  calls_post Dg T_r01_Bit_ok (I := []) Tryd.func30 mix (B := bodyOf Tryd.f30) (by kernel_rfl) [(.int .u64 x)] [.no] (by kernel_rfl) (objs := []) (ros := []) (psOk_cons pOk_no (psOk_nil)) (by kernel_rfl) (trivial) hS 400
    (t := Tree.br (decide (x ≥ (4294967296 : Int)))
  (Tree.br (decide (Int.fdiv x (4294967296 : Int) ≥ (65536 : Int)))
    (Tree.br (decide (Int.fdiv (Int.fdiv x (4294967296 : Int)) (65536 : Int) ≥ (256 : Int))) (Tree.need ((0 : Int) ≤ IntKind.wrap IntKind.u8 (Int.fdiv (Int.fdiv (Int.fdiv x (4294967296 : Int)) (65536 : Int)) (256 : Int)) ∧ IntKind.wrap IntKind.u8 (Int.fdiv (Int.fdiv (Int.fdiv x (4294967296 : Int)) (65536 : Int)) (256 : Int)) < (256 : Int)) (Tree.ret (vi_ (IntKind.wrap IntKind.i64 ((56 : Int) + IntKind.wrap IntKind.i64 (sAt SlHalf_bytes0 (IntKind.wrap IntKind.u8 (Int.fdiv (Int.fdiv (Int.fdiv x (4294967296 : Int)) (65536 : Int)) (256 : Int))))))) pn_ []))
      (Tree.need ((0 : Int) ≤ IntKind.wrap IntKind.u8 (Int.fdiv (Int.fdiv x (4294967296 : Int)) (65536 : Int)) ∧ IntKind.wrap IntKind.u8 (Int.fdiv (Int.fdiv x (4294967296 : Int)) (65536 : Int)) < (256 : Int)) (Tree.ret (vi_ (IntKind.wrap IntKind.i64 ((48 : Int) + IntKind.wrap IntKind.i64 (sAt SlHalf_bytes0 (IntKind.wrap IntKind.u8 (Int.fdiv (Int.fdiv x (4294967296 : Int)) (65536 : Int))))))) pn_ [])))
    (Tree.br (decide (Int.fdiv x (4294967296 : Int) ≥ (256 : Int))) (Tree.need ((0 : Int) ≤ IntKind.wrap IntKind.u8 (Int.fdiv (Int.fdiv x (4294967296 : Int)) (256 : Int)) ∧ IntKind.wrap IntKind.u8 (Int.fdiv (Int.fdiv x (4294967296 : Int)) (256 : Int)) < (256 : Int)) (Tree.ret (vi_ (IntKind.wrap IntKind.i64 ((40 : Int) + IntKind.wrap IntKind.i64 (sAt SlHalf_bytes0 (IntKind.wrap IntKind.u8 (Int.fdiv (Int.fdiv x (4294967296 : Int)) (256 : Int))))))) pn_ []))
      (Tree.need ((0 : Int) ≤ IntKind.wrap IntKind.u8 (Int.fdiv x (4294967296 : Int)) ∧ IntKind.wrap IntKind.u8 (Int.fdiv x (4294967296 : Int)) < (256 : Int)) (Tree.ret (vi_ (IntKind.wrap IntKind.i64 ((32 : Int) + IntKind.wrap IntKind.i64 (sAt SlHalf_bytes0 (IntKind.wrap IntKind.u8 (Int.fdiv x (4294967296 : Int))))))) pn_ []))))
  (Tree.br (decide (x ≥ (65536 : Int)))
    (Tree.br (decide (Int.fdiv x (65536 : Int) ≥ (256 : Int))) (Tree.need ((0 : Int) ≤ IntKind.wrap IntKind.u8 (Int.fdiv (Int.fdiv x (65536 : Int)) (256 : Int)) ∧ IntKind.wrap IntKind.u8 (Int.fdiv (Int.fdiv x (65536 : Int)) (256 : Int)) < (256 : Int)) (Tree.ret (vi_ (IntKind.wrap IntKind.i64 ((24 : Int) + IntKind.wrap IntKind.i64 (sAt SlHalf_bytes0 (IntKind.wrap IntKind.u8 (Int.fdiv (Int.fdiv x (65536 : Int)) (256 : Int))))))) pn_ []))
      (Tree.need ((0 : Int) ≤ IntKind.wrap IntKind.u8 (Int.fdiv x (65536 : Int)) ∧ IntKind.wrap IntKind.u8 (Int.fdiv x (65536 : Int)) < (256 : Int)) (Tree.ret (vi_ (IntKind.wrap IntKind.i64 ((16 : Int) + IntKind.wrap IntKind.i64 (sAt SlHalf_bytes0 (IntKind.wrap IntKind.u8 (Int.fdiv x (65536 : Int))))))) pn_ [])))
    (Tree.br (decide (x ≥ (256 : Int))) (Tree.need ((0 : Int) ≤ IntKind.wrap IntKind.u8 (Int.fdiv x (256 : Int)) ∧ IntKind.wrap IntKind.u8 (Int.fdiv x (256 : Int)) < (256 : Int)) (Tree.ret (vi_ (IntKind.wrap IntKind.i64 ((8 : Int) + IntKind.wrap IntKind.i64 (sAt SlHalf_bytes0 (IntKind.wrap IntKind.u8 (Int.fdiv x (256 : Int))))))) pn_ []))
      (Tree.need ((0 : Int) ≤ IntKind.wrap IntKind.u8 x ∧ IntKind.wrap IntKind.u8 x < (256 : Int)) (Tree.ret (vi_ (IntKind.wrap IntKind.i64 ((0 : Int) + IntKind.wrap IntKind.i64 (sAt SlHalf_bytes0 (IntKind.wrap IntKind.u8 x))))) pn_ [])))))
    (by kernel_rfl)
    (⟨fun z0 => ⟨fun z1 => ⟨fun z2 => ⟨by exact u8_need _, fun y3 => RetOk.at (outf := bits_Len64_out) (nwf := bits_Len64_nw) (rowsf := bits_Len64_rows) (r := IntKind.wrap IntKind.i64 ((56 : Int) + IntKind.wrap IntKind.i64 (sAt SlHalf_bytes0 (IntKind.wrap IntKind.u8 (Int.fdiv (Int.fdiv (Int.fdiv x (4294967296 : Int)) (65536 : Int)) (256 : Int)))))) (by first | exact Eq.symm ((cT z0).trans ((cT z1).trans ((cT z2).trans rfl))) | (simp only [bits_Len64, z0, z1, z2, cond_true, cond_false]; done) | (exfalso; simp_all; done) | decide) ⟨[], [], (by decide), rfl, rfl, trivial⟩⟩, fun z2 => ⟨by exact u8_need _, fun y3 => RetOk.at (outf := bits_Len64_out) (nwf := bits_Len64_nw) (rowsf := bits_Len64_rows) (r := IntKind.wrap IntKind.i64 ((48 : Int) + IntKind.wrap IntKind.i64 (sAt SlHalf_bytes0 (IntKind.wrap IntKind.u8 (Int.fdiv (Int.fdiv x (4294967296 : Int)) (65536 : Int)))))) (by first | exact Eq.symm ((cT z0).trans ((cT z1).trans ((cF z2).trans rfl))) | (simp only [bits_Len64, z0, z1, z2, cond_true, cond_false]; done) | (exfalso; simp_all; done) | decide) ⟨[], [], (by decide), rfl, rfl, trivial⟩⟩⟩, fun z1 => ⟨fun z2 => ⟨by exact u8_need _, fun y3 => RetOk.at (outf := bits_Len64_out) (nwf := bits_Len64_nw) (rowsf := bits_Len64_rows) (r := IntKind.wrap IntKind.i64 ((40 : Int) + IntKind.wrap IntKind.i64 (sAt SlHalf_bytes0 (IntKind.wrap IntKind.u8 (Int.fdiv (Int.fdiv x (4294967296 : Int)) (256 : Int)))))) (by first | exact Eq.symm ((cT z0).trans ((cF z1).trans ((cT z2).trans rfl))) | (simp only [bits_Len64, z0, z1, z2, cond_true, cond_false]; done) | (exfalso; simp_all; done) | decide) ⟨[], [], (by decide), rfl, rfl, trivial⟩⟩, fun z2 => ⟨by exact u8_need _, fun y3 => RetOk.at (outf := bits_Len64_out) (nwf := bits_Len64_nw) (rowsf := bits_Len64_rows) (r := IntKind.wrap IntKind.i64 ((32 : Int) + IntKind.wrap IntKind.i64 (sAt SlHalf_bytes0 (IntKind.wrap IntKind.u8 (Int.fdiv x (4294967296 : Int)))))) (by first | exact Eq.symm ((cT z0).trans ((cF z1).trans ((cF z2).trans rfl))) | (simp only [bits_Len64, z0, z1, z2, cond_true, cond_false]; done) | (exfalso; simp_all; done) | decide) ⟨[], [], (by decide), rfl, rfl, trivial⟩⟩⟩⟩, fun z0 => ⟨fun z1 => ⟨fun z2 => ⟨by exact u8_need _, fun y3 => RetOk.at (outf := bits_Len64_out) (nwf := bits_Len64_nw) (rowsf := bits_Len64_rows) (r := IntKind.wrap IntKind.i64 ((24 : Int) + IntKind.wrap IntKind.i64 (sAt SlHalf_bytes0 (IntKind.wrap IntKind.u8 (Int.fdiv (Int.fdiv x (65536 : Int)) (256 : Int)))))) (by first | exact Eq.symm ((cF z0).trans ((cT z1).trans ((cT z2).trans rfl))) | (simp only [bits_Len64, z0, z1, z2, cond_true, cond_false]; done) | (exfalso; simp_all; done) | decide) ⟨[], [], (by decide), rfl, rfl, trivial⟩⟩, fun z2 => ⟨by exact u8_need _, fun y3 => RetOk.at (outf := bits_Len64_out) (nwf := bits_Len64_nw) (rowsf := bits_Len64_rows) (r := IntKind.wrap IntKind.i64 ((16 : Int) + IntKind.wrap IntKind.i64 (sAt SlHalf_bytes0 (IntKind.wrap IntKind.u8 (Int.fdiv x (65536 : Int)))))) (by first | exact Eq.symm ((cF z0).trans ((cT z1).trans ((cF z2).trans rfl))) | (simp only [bits_Len64, z0, z1, z2, cond_true, cond_false]; done) | (exfalso; simp_all; done) | decide) ⟨[], [], (by decide), rfl, rfl, trivial⟩⟩⟩, fun z1 => ⟨fun z2 => ⟨by exact u8_need _, fun y3 => RetOk.at (outf := bits_Len64_out) (nwf := bits_Len64_nw) (rowsf := bits_Len64_rows) (r := IntKind.wrap IntKind.i64 ((8 : Int) + IntKind.wrap IntKind.i64 (sAt SlHalf_bytes0 (IntKind.wrap IntKind.u8 (Int.fdiv x (256 : Int)))))) (by first | exact Eq.symm ((cF z0).trans ((cF z1).trans ((cT z2).trans rfl))) | (simp only [bits_Len64, z0, z1, z2, cond_true, cond_false]; done) | (exfalso; simp_all; done) | decide) ⟨[], [], (by decide), rfl, rfl, trivial⟩⟩, fun z2 => ⟨by exact u8_need _, fun y3 => RetOk.at (outf := bits_Len64_out) (nwf := bits_Len64_nw) (rowsf := bits_Len64_rows) (r := IntKind.wrap IntKind.i64 ((0 : Int) + IntKind.wrap IntKind.i64 (sAt SlHalf_bytes0 (IntKind.wrap IntKind.u8 x)))) (by first | exact Eq.symm ((cF z0).trans ((cF z1).trans ((cF z2).trans rfl))) | (simp only [bits_Len64, z0, z1, z2, cond_true, cond_false]; done) | (exfalso; simp_all; done) | decide) ⟨[], [], (by decide), rfl, rfl, trivial⟩⟩⟩⟩⟩)
end
def bits_Len64_e : Entry Sg := fun
  | [(.int .u64 x, _)] => some ⟨(bits_Len64 x), fun (r_ : Int) => ⟨[], none, [], fun ss => .int .i64 (r_), fun k_ => .no⟩⟩
  | _ => none
theorem bits_Len64_ok : EntryOk Dg Tryd.prog 30 bits_Len64_e := by
  intro args c r h hr_
  unfold bits_Len64_e at h
  split at h
  · injection h with h; subst h; subst hr_
    refine ⟨fun K acs _ => pOk_no, fun hpre E G w hi hS => ?_⟩
    exact entry_post Dg (by exact rfl) (bits_Len64_calls _  hS)
  · cases h
def T_bits_Len64 : List (Nat × Entry Sg) := (30, bits_Len64_e) :: T_r01_Bit
theorem T_bits_Len64_ok : TableOk Dg Tryd.prog T_bits_Len64 := TableOk.cons Dg bits_Len64_ok T_r01_Bit_ok

/- half.Log -/
def half_Log (n : Int) : Int := (bif decide (n < (1 : Int)) then (-1 : Int) else IntKind.wrap IntKind.i64 (bits_Len64 (IntKind.wrap IntKind.u64 n) - (1 : Int)))
def half_Log_out (r_ : Int) : List Value → Value := fun ss => .int .i64 (r_)
def half_Log_nw (r_ : Int) : List (Chunk Sg) := []
def half_Log_rows (r_ : Int) : List (Mk Sg) := []
section
variable (n : Int)
theorem half_Log_calls {E_ : World} {G_ : Hp} {w_ : World} (hS : Sat E_ G_ w_ []) : Calls Tryd.prog 18 #[(.int .i64 n)] w_ (Post Dg E_ G_ (half_Log_out (half_Log n)) (half_Log_nw (half_Log n)) (half_Log_rows (half_Log n))) :=
  calls_post Dg T_bits_Len64_ok (I := []) Tryd.func18 mix (B := bodyOf Tryd.f18) (by kernel_rfl) [(.int .i64 n)] [.no] (by kernel_rfl) (objs := []) (ros := []) (psOk_cons pOk_no (psOk_nil)) (by kernel_rfl) (trivial) hS 400
    (t := Tree.br (decide (n < (1 : Int))) (Tree.ret (vi_ (-1 : Int)) pn_ []) (Tree.ret (vi_ (IntKind.wrap IntKind.i64 (bits_Len64 (IntKind.wrap IntKind.u64 n) - (1 : Int)))) pn_ []))
    (by kernel_rfl)
    (⟨fun z0 => RetOk.at (outf := half_Log_out) (nwf := half_Log_nw) (rowsf := half_Log_rows) (r := (-1 : Int)) (by first | exact Eq.symm ((cT z0).trans rfl) | (simp only [half_Log, z0, cond_true, cond_false]; done) | (exfalso; simp_all; done) | decide) ⟨[], [], (by decide), rfl, rfl, trivial⟩, fun z0 => RetOk.at (outf := half_Log_out) (nwf := half_Log_nw) (rowsf := half_Log_rows) (r := IntKind.wrap IntKind.i64 (bits_Len64 (IntKind.wrap IntKind.u64 n) - (1 : Int))) (by first | exact Eq.symm ((cF z0).trans rfl) | (simp only [half_Log, z0, cond_true, cond_false]; done) | (exfalso; simp_all; done) | decide) ⟨[], [], (by decide), rfl, rfl, trivial⟩⟩)
end
def half_Log_e : Entry Sg := fun
  | [(.int .i64 n, _)] => some ⟨(half_Log n), fun (r_ : Int) => ⟨[], none, [], fun ss => .int .i64 (r_), fun k_ => .no⟩⟩
  | _ => none
theorem half_Log_ok : EntryOk Dg Tryd.prog 18 half_Log_e := by
  intro args c r h hr_
  unfold half_Log_e at h
  split at h
  · injection h with h; subst h; subst hr_
    refine ⟨fun K acs _ => pOk_no, fun hpre E G w hi hS => ?_⟩
    exact entry_post Dg (by exact rfl) (half_Log_calls _  hS)
  · cases h
def T_half_Log : List (Nat × Entry Sg) := (18, half_Log_e) :: T_bits_Len64
theorem T_half_Log_ok : TableOk Dg Tryd.prog T_half_Log := TableOk.cons Dg half_Log_ok T_bits_Len64_ok

theorem range_snoc {α : Type} (f : Nat → α) (n : Nat) : (List.range (n + 1)).map f = (List.range n).map f ++ [f n] := by rw [List.range_succ, List.map_append]; rfl
theorem frange_snoc (p : Nat → Bool) (n : Nat) : (List.range (n + 1)).filter p = (List.range n).filter p ++ (if p n = true then [n] else []) := by
  rw [List.range_succ, List.filter_append]
  by_cases h : p n = true
  · rw [if_pos h, List.filter_cons_of_pos h]; rfl
  · rw [if_neg h, List.filter_cons_of_neg h]; rfl
theorem frange_len (p : Nat → Bool) (n : Nat) : ((List.range n).filter p).length ≤ n := by
  have := List.length_filter_le p (List.range n)
  simpa using this
def freeN (v n : Int) (p : Nat → Bool) : List Int := ((List.range (min n.toNat 32)).filter p).map fun (i : Nat) => (i : Int)
def zeroAt (v : Int) (i : Nat) : Bool := IntKind.wrap IntKind.u32 ((BitVec.ofInt 32 (Int.fdiv v ((2 : Int) ^ min (Int.toNat (i : Int)) 32)) &&& BitVec.ofInt 32 1).toNat : Int) == 0


/- half.Free -/
def half_Free (v : Int) (n : Int) : List Int := freeN v n (zeroAt v)
def half_Free_out (r_ : List Int) : List Value → Value := fun ss => ss.getD 0 undef
def half_Free_nw (r_ : List Int) : List (Chunk Sg) := []
def half_Free_rows (r_ : List Int) : List (Mk Sg) := [.row 3 [.ints .i64 (r_)]]
section
variable (v : Int) (n : Int)
abbrev half_Free_T1 : Type := Int → Int → List Int → Option Nat → Nat → Nat → Prop
abbrev half_Free_L1 (v : Int) (n : Int) (i : Int) (m : Int) (xs : List Int) (a : Option Nat) (no : Nat) (c : Nat) : List Ent := [⟨9, none, .int .i64 i, .no⟩, ⟨8, none, .int .i64 m, .no⟩, ⟨5, none, .slice (a.map fun b => ⟨b, 0, none⟩) no c, .pt 0 .slice⟩, ⟨0, none, .int .u32 v, .no⟩]
abbrev half_Free_K1 (v : Int) (n : Int) (i : Int) (m : Int) (xs : List Int) (a : Option Nat) (no : Nat) (c : Nat) : List (Chunk Sg) := [.row a 3 no c [.ints .i64 xs]]
abbrev half_Free_H (E_ : World) (G_ : Hp) (v : Int) (n : Int) (r_ : List Int) (Q1 : half_Free_T1) : Prop := (∀ (i : Int) (m : Int) (xs : List Int) (a : Option Nat) (no : Nat) (c : Nat), Q1 i m xs a no c → SW Dg Tryd.prog 21 (Post Dg E_ G_ (half_Free_out r_) (half_Free_nw r_) (half_Free_rows r_)) (bodyOf Tryd.f21) Tryd.f21.ntmps E_ G_ (.code (0 :: [0,1,0,1,1]) :: .again [0,1,0,1,1] :: [.blk 0, .code [1,1,1]]) (half_Free_L1 v n i m xs a no c) (half_Free_K1 v n i m xs a no c))
abbrev half_Free_wp0 (v : Int) (n : Int) (Q1 : half_Free_T1) (R_ : List Int → Prop) : Prop := (Q1 ((0 : Int)) (if (32 : Int) < n then (32 : Int) else n) ([]) (none) (0) (0))
abbrev half_Free_t0 (v : Int) (n : Int) : Tree Sg := Tree.stuck [Ab.code [0, 1, 0, 1, 1], Ab.blk 0, Ab.code [1, 1, 1]] [e0_ 1000009 (Value.tuple { toList := [] }) pn_, e0_ 9 (vi_ (0 : Int)) pn_, e0_ 8 (vi_ (if (32 : Int) < n then (32 : Int) else n)) pn_, e0_ 7 (vi_ n) pn_, e0_ 1000005 (Value.tuple { toList := [] }) pn_, e0_ 5 (Value.slice none 0 0) pn_, e0_ 1000004 (Value.tuple { toList := [] }) pn_, e0_ 4 (Value.slice none 0 0) pn_, e0_ 0 (vu_ v) pn_, e0_ 1 (vi_ n) pn_] []
theorem half_Free_pc0 {E_ : World} {G_ : Hp} {r_ : List Int} {Q1 : half_Free_T1} (hQ : half_Free_H E_ G_ v n r_ Q1) (h : half_Free_wp0 v n Q1 (fun x => x = r_)) : (half_Free_t0 v n ).holds (RetOk (half_Free_out r_) (half_Free_nw r_) (half_Free_rows r_)) (SW Dg Tryd.prog 21 (Post Dg E_ G_ (half_Free_out r_) (half_Free_nw r_) (half_Free_rows r_)) (bodyOf Tryd.f21) Tryd.f21.ntmps E_ G_) :=
  SW.nil Dg 5 (3 : TypeId) [Col.ints IntKind.i64 []] (by kernel_rfl) (SW.move Dg [9, 8, 5, 0] [0] (by decide) (by kernel_rfl) (by kernel_rfl) (SW.enter Dg (by kernel_rfl) (hQ ((0 : Int)) (if (32 : Int) < n then (32 : Int) else n) ([]) (none) (0) (0) h)))
abbrev half_Free_wp1 (v : Int) (n : Int) (i : Int) (m : Int) (xs : List Int) (a : Option Nat) (no : Nat) (c : Nat) (Q1 : half_Free_T1) (R_ : List Int → Prop) : Prop := (((decide (i < m)) = true → (((0 : Int) ≤ i) ∧ (((0 : Int) ≤ i) → (((IntKind.wrap IntKind.u32 (↑(BitVec.toNat (BitVec.ofInt 32 (Int.fdiv v ((2 : Int) ^ min (Int.toNat i) 32)) &&& BitVec.ofInt 32 (1 : Int))) : Int) == (0 : Int)) = true → (∀ b3_0 : Nat, (((no + 1) * 8 ≤ 140737488355328) ∧ (((no + 1) * 8 ≤ 140737488355328) → (∀ (b5_0 : Option Nat) (b5_1 : Nat), (Q1 (IntKind.wrap IntKind.i64 (i + (1 : Int))) (m) (xs ++ [i]) (b5_0) (no + 1) (b5_1))))))) ∧ ((IntKind.wrap IntKind.u32 (↑(BitVec.toNat (BitVec.ofInt 32 (Int.fdiv v ((2 : Int) ^ min (Int.toNat i) 32)) &&& BitVec.ofInt 32 (1 : Int))) : Int) == (0 : Int)) = false → (Q1 (IntKind.wrap IntKind.i64 (i + (1 : Int))) (m) (xs) (a) (no) (c))))))) ∧ ((decide (i < m)) = false → (R_ (xs))))
abbrev half_Free_t1 (v : Int) (n : Int) (i : Int) (m : Int) (xs : List Int) (a : Option Nat) (no : Nat) (c : Nat) : Tree Sg := Tree.br (decide (i < m)) (Tree.need ((0 : Int) ≤ i) (Tree.br (IntKind.wrap IntKind.u32 (↑(BitVec.toNat (BitVec.ofInt 32 (Int.fdiv v ((2 : Int) ^ min (Int.toNat i) 32)) &&& BitVec.ofInt 32 (1 : Int))) : Int) == (0 : Int)) (Tree.fresh fun b => Tree.need ((no + 1) * 8 ≤ 140737488355328) (Tree.freshS fun a_1 cap => Tree.stuck [Ab.again [0, 1, 0, 1, 1], Ab.blk 0, Ab.code [1, 1, 1]] [e0_ 9 (vi_ (IntKind.wrap IntKind.i64 (i + (1 : Int)))) pn_, e0_ 21 (vi_ (IntKind.wrap IntKind.i64 (i + (1 : Int)))) pn_, e0_ 5 (vs_ (ob_ a_1) (no + 1) cap) (ps_ 2), e0_ 20 (vs_ (ob_ a_1) (no + 1) cap) (ps_ 2), e0_ 19 (Value.slice (some { block := b, off := 0 }) 1 1) (ps_ 1), e0_ 18 (vi_ i) pn_, e0_ 17 (vs_ (ob_ a) no c) (ps_ 0), e0_ 16 (Value.bool (IntKind.wrap IntKind.u32 (↑(BitVec.toNat (BitVec.ofInt 32 (Int.fdiv v ((2 : Int) ^ min (Int.toNat i) 32)) &&& BitVec.ofInt 32 (1 : Int))) : Int) == (0 : Int))) pn_, e0_ 15 (vu_ (IntKind.wrap IntKind.u32 (↑(BitVec.toNat (BitVec.ofInt 32 (Int.fdiv v ((2 : Int) ^ min (Int.toNat i) 32)) &&& BitVec.ofInt 32 (1 : Int))) : Int))) pn_, e0_ 14 (vu_ (Int.fdiv v ((2 : Int) ^ min (Int.toNat i) 32))) pn_, e0_ 13 (vi_ i) pn_, e0_ 12 (vu_ v) pn_, e0_ 6 (vi_ i) pn_, e0_ 11 (vi_ i) pn_, e0_ 10 (Value.bool (decide (i < m))) pn_, e0_ 8 (vi_ m) pn_, e0_ 0 (vu_ v) pn_] [Chunk.dead, kr_ (some b) 3 1 1 [ci_ [i]], kr_ a_1 3 (no + 1) cap [ci_ (xs ++ [i])]])) (Tree.stuck [Ab.again [0, 1, 0, 1, 1], Ab.blk 0, Ab.code [1, 1, 1]] [e0_ 9 (vi_ (IntKind.wrap IntKind.i64 (i + (1 : Int)))) pn_, e0_ 21 (vi_ (IntKind.wrap IntKind.i64 (i + (1 : Int)))) pn_, e0_ 16 (Value.bool (IntKind.wrap IntKind.u32 (↑(BitVec.toNat (BitVec.ofInt 32 (Int.fdiv v ((2 : Int) ^ min (Int.toNat i) 32)) &&& BitVec.ofInt 32 (1 : Int))) : Int) == (0 : Int))) pn_, e0_ 15 (vu_ (IntKind.wrap IntKind.u32 (↑(BitVec.toNat (BitVec.ofInt 32 (Int.fdiv v ((2 : Int) ^ min (Int.toNat i) 32)) &&& BitVec.ofInt 32 (1 : Int))) : Int))) pn_, e0_ 14 (vu_ (Int.fdiv v ((2 : Int) ^ min (Int.toNat i) 32))) pn_, e0_ 13 (vi_ i) pn_, e0_ 12 (vu_ v) pn_, e0_ 6 (vi_ i) pn_, e0_ 11 (vi_ i) pn_, e0_ 10 (Value.bool (decide (i < m))) pn_, e0_ 8 (vi_ m) pn_, e0_ 5 (vs_ (ob_ a) no c) (ps_ 0), e0_ 0 (vu_ v) pn_] [kr_ a 3 no c [ci_ xs]]))) (Tree.ret (vs_ (ob_ a) no c) (ps_ 0) [kr_ a 3 no c [ci_ xs]])
theorem half_Free_pc1 {E_ : World} {G_ : Hp} (i : Int) (m : Int) (xs : List Int) (a : Option Nat) (no : Nat) (c : Nat) {r_ : List Int} {Q1 : half_Free_T1} (hQ : half_Free_H E_ G_ v n r_ Q1) (h : half_Free_wp1 v n i m xs a no c Q1 (fun x => x = r_)) : (half_Free_t1 v n i m xs a no c ).holds (RetOk (half_Free_out r_) (half_Free_nw r_) (half_Free_rows r_)) (SW Dg Tryd.prog 21 (Post Dg E_ G_ (half_Free_out r_) (half_Free_nw r_) (half_Free_rows r_)) (bodyOf Tryd.f21) Tryd.f21.ntmps E_ G_) :=
  ⟨fun z0 => ⟨(h.1 z0).1, fun z1 => ⟨fun z2 => fun b3_0 => ⟨((((h.1 z0).2 z1).1 z2) b3_0).1, fun z4 => fun b5_0 b5_1 => SW.move Dg [9, 8, 5, 0] [2] (by decide) (by kernel_rfl) (by kernel_rfl) (SW.again Dg (hQ (IntKind.wrap IntKind.i64 (i + (1 : Int))) (m) (xs ++ [i]) (b5_0) (no + 1) (b5_1) ((((((h.1 z0).2 z1).1 z2) b3_0).2 z4) b5_0 b5_1)))⟩, fun z2 => SW.move Dg [9, 8, 5, 0] [0] (by decide) (by kernel_rfl) (by kernel_rfl) (SW.again Dg (hQ (IntKind.wrap IntKind.i64 (i + (1 : Int))) (m) (xs) (a) (no) (c) (((h.1 z0).2 z1).2 z2)))⟩⟩, fun z0 => RetOk.at (outf := half_Free_out) (nwf := half_Free_nw) (rowsf := half_Free_rows) (r := xs) (h.2 z0) ⟨[(a, no, c)], [0], (by decide), rfl, rfl, ⟨.inl rfl, trivial⟩⟩⟩
theorem half_Free_go1 {E_ : World} {G_ : Hp} (i : Int) (m : Int) (xs : List Int) (a : Option Nat) (no : Nat) (c : Nat) {r_ : List Int} {Q1 : half_Free_T1} (hQ : half_Free_H E_ G_ v n r_ Q1) (h : half_Free_wp1 v n i m xs a no c Q1 (fun x => x = r_)) : SW Dg Tryd.prog 21 (Post Dg E_ G_ (half_Free_out r_) (half_Free_nw r_) (half_Free_rows r_)) (bodyOf Tryd.f21) Tryd.f21.ntmps E_ G_ (.code (0 :: [0,1,0,1,1]) :: .again [0,1,0,1,1] :: [.blk 0, .code [1,1,1]]) (half_Free_L1 v n i m xs a no c) (half_Free_K1 v n i m xs a no c) :=
  SW.go Dg T_half_Log_ok (I := []) Tryd.func21 mix 400 (t := half_Free_t1 v n i m xs a no c ) (by kernel_rfl) (half_Free_pc1 v n i m xs a no c hQ h)
theorem half_Free_start {E_ : World} {G_ : Hp} {w_ : World} {r_ : List Int} {Q1 : half_Free_T1} (hQ : half_Free_H E_ G_ v n r_ Q1) (hS : Sat E_ G_ w_ []) (h : half_Free_wp0 v n Q1 (fun x => x = r_)) : Calls Tryd.prog 21 #[(.int .u32 v), (.int .i64 n)] w_ (Post Dg E_ G_ (half_Free_out r_) (half_Free_nw r_) (half_Free_rows r_)) :=
  calls_post Dg T_half_Log_ok (I := []) Tryd.func21 mix (B := bodyOf Tryd.f21) (by kernel_rfl) [(.int .u32 v), (.int .i64 n)] [.no, .no] (by kernel_rfl) (objs := []) (ros := []) (psOk_cons pOk_no (psOk_cons pOk_no (psOk_nil))) (by kernel_rfl) (trivial) hS 400
    (t := half_Free_t0 v n)
    (by kernel_rfl)
    (half_Free_pc0 v n hQ h)
def half_Free_I (v : Int) (n : Int) (i : Int) (m : Int) (xs : List Int) (a : Option Nat) (no : Nat) (c : Nat) (r_ : List Int) : Prop := 0 ≤ i ∧ (i ≤ m ∨ i = 0) ∧ m ≤ 32 ∧ m.toNat = min n.toNat 32 ∧ no = xs.length ∧ xs = ((List.range i.toNat).filter (zeroAt v)).map (fun (i : Nat) => (i : Int)) ∧ r_ = freeN v n (zeroAt v)
theorem half_Free_step (i : Int) (m : Int) (xs : List Int) (a : Option Nat) (no : Nat) (c : Nat) {r_ : List Int} (hI : half_Free_I v n i m xs a no c r_) : half_Free_wp1 v n i m xs a no c (fun i' m' xs' a' no' c' => half_Free_I v n i' m' xs' a' no' c' r_ ∧ ((m' - i').toNat) < ((m - i).toNat)) (fun x => x = r_) := by
  unfold half_Free_I at hI
  unfold half_Free_wp1 half_Free_I
  obtain ⟨h0, h1, hm, hn, h2, h3, hr⟩ := hI
  refine ⟨fun h => ⟨h0, fun _ => ?_⟩, fun h => ?_⟩
  · simp only [decide_eq_true_eq] at h
    have hi : ((i.toNat : Nat) : Int) = i := by omega
    have hl := frange_len (zeroAt v) i.toNat
    have hx : xs.length = ((List.range i.toNat).filter (zeroAt v)).length := by rw [h3, List.length_map]
    rw [w64 (by omega)]
    refine ⟨fun hc b => ⟨by omega, fun _ a' c' => ⟨⟨by omega, by omega, hm, hn, by simp [h2], ?_, hr⟩, by omega⟩⟩, fun hc => ⟨⟨by omega, by omega, hm, hn, h2, ?_, hr⟩, by omega⟩⟩
    · have hz : zeroAt v i.toNat = true := by unfold zeroAt; rw [hi]; exact hc
      rw [toNat_succ h0, frange_snoc, if_pos hz, List.map_append, ← h3]
      simp [hi]
    · have hz : ¬ zeroAt v i.toNat = true := by unfold zeroAt; rw [hi, hc]; simp
      rw [toNat_succ h0, frange_snoc, if_neg hz, List.append_nil]
      exact h3
  · simp only [decide_eq_false_iff_not] at h
    show xs = r_
    rw [hr, h3, freeN, show i.toNat = min n.toNat 32 by omega]
theorem half_Free_loop {E_ : World} {G_ : Hp} {r_ : List Int} : ∀ s_ : Int × Int × List Int × Option Nat × Nat × Nat, half_Free_I v n s_.1 s_.2.1 s_.2.2.1 s_.2.2.2.1 s_.2.2.2.2.1 s_.2.2.2.2.2 r_ → SW Dg Tryd.prog 21 (Post Dg E_ G_ (half_Free_out r_) (half_Free_nw r_) (half_Free_rows r_)) (bodyOf Tryd.f21) Tryd.f21.ntmps E_ G_ (.code (0 :: [0,1,0,1,1]) :: .again [0,1,0,1,1] :: [.blk 0, .code [1,1,1]]) (half_Free_L1 v n s_.1 s_.2.1 s_.2.2.1 s_.2.2.2.1 s_.2.2.2.2.1 s_.2.2.2.2.2) (half_Free_K1 v n s_.1 s_.2.1 s_.2.2.1 s_.2.2.2.1 s_.2.2.2.2.1 s_.2.2.2.2.2) :=
  SW.loop Dg (α := Int × Int × List Int × Option Nat × Nat × Nat) (fun s_ => half_Free_L1 v n s_.1 s_.2.1 s_.2.2.1 s_.2.2.2.1 s_.2.2.2.2.1 s_.2.2.2.2.2) (fun s_ => half_Free_K1 v n s_.1 s_.2.1 s_.2.2.1 s_.2.2.2.1 s_.2.2.2.2.1 s_.2.2.2.2.2) (fun s_ => (s_.2.1 - s_.1).toNat) (fun s_ => half_Free_I v n s_.1 s_.2.1 s_.2.2.1 s_.2.2.2.1 s_.2.2.2.2.1 s_.2.2.2.2.2 r_) (fun ⟨i, m, xs, a, no, c⟩ hI ih => half_Free_go1 v n i m xs a no c (fun i' m' xs' a' no' c' h => ih (i', m', xs', a', no', c') h.1 h.2) (half_Free_step v n i m xs a no c hI))
theorem half_Free_begin : half_Free_wp0 v n (fun i m xs a no c => half_Free_I v n i m xs a no c (half_Free v n)) (fun x => x = (half_Free v n)) := by
  unfold half_Free_wp0 half_Free_I
  exact ⟨by omega, .inr rfl, by split <;> omega, by split <;> omega, rfl, rfl, rfl⟩
theorem half_Free_calls {E_ : World} {G_ : Hp} {w_ : World} (hS : Sat E_ G_ w_ []) : Calls Tryd.prog 21 #[(.int .u32 v), (.int .i64 n)] w_ (Post Dg E_ G_ (half_Free_out (half_Free v n)) (half_Free_nw (half_Free v n)) (half_Free_rows (half_Free v n))) :=
  half_Free_start v n (fun i m xs a no c h => half_Free_loop v n (i, m, xs, a, no, c) h) hS (half_Free_begin v n )
end
def half_Free_e : Entry Sg := fun
  | [(.int .u32 v, _), (.int .i64 n, _)] => some ⟨(half_Free v n), fun (r_ : List Int) => ⟨[], none, [.row 3 [.ints .i64 (r_)]], fun ss => ss.getD 0 undef, fun k_ => .pt k_ .slice⟩⟩
  | _ => none
theorem half_Free_ok : EntryOk Dg Tryd.prog 21 half_Free_e := by
  intro args c r h hr_
  unfold half_Free_e at h
  split at h
  · injection h with h; subst h; subst hr_
    refine ⟨(by
    intro K acs hl
    match acs, hl with
    | [a0_], hl =>
      simp only [acsOk, acOk] at hl
      simp [pOk, psOk, cOk, sliceC, sliceV, sliceVal, lenC, Col.len]), fun hpre E G w hi hS => ?_⟩
    exact entry_post Dg (by exact rfl) (half_Free_calls _ _  hS)
  · cases h
def T_half_Free : List (Nat × Entry Sg) := (21, half_Free_e) :: T_half_Log
theorem T_half_Free_ok : TableOk Dg Tryd.prog T_half_Free := TableOk.cons Dg half_Free_ok T_half_Log_ok

/- nacreref01.Ints -/
def r01_Ints (xs : List Int) (ys : List Int) : Bool := decide (xs = ys)
def r01_Ints_out (r_ : Bool) : List Value → Value := fun ss => .bool (r_)
def r01_Ints_nw (r_ : Bool) : List (Chunk Sg) := []
def r01_Ints_rows (r_ : Bool) : List (Mk Sg) := []
section
variable (xs : List Int) (ys : List Int) (a_0 : Option Addr) (c_0 : Nat) (a_1 : Option Addr) (c_1 : Nat)
abbrev r01_Ints_T1 : Type := Int → Prop
abbrev r01_Ints_L1 (xs : List Int) (ys : List Int) (a_0 : Option Addr) (c_0 : Nat) (a_1 : Option Addr) (c_1 : Nat) (i : Int) : List Ent := [⟨5, none, .int .i64 i, .no⟩, ⟨0, none, .slice a_0 xs.length c_0, .pt 0 .slice⟩, ⟨1, none, .slice a_1 ys.length c_1, .pt 1 .slice⟩]
abbrev r01_Ints_K1 (xs : List Int) (ys : List Int) (a_0 : Option Addr) (c_0 : Nat) (a_1 : Option Addr) (c_1 : Nat) (i : Int) : List (Chunk Sg) := [.ro a_0 xs.length c_0 [.ints .i64 xs], .ro a_1 ys.length c_1 [.ints .i64 ys]]
abbrev r01_Ints_H (E_ : World) (G_ : Hp) (xs : List Int) (ys : List Int) (a_0 : Option Addr) (c_0 : Nat) (a_1 : Option Addr) (c_1 : Nat) (r_ : Bool) (Q1 : r01_Ints_T1) : Prop := (∀ (i : Int), Q1 i → SW Dg Tryd.prog 20 (Post Dg E_ G_ (r01_Ints_out r_) (r01_Ints_nw r_) (r01_Ints_rows r_)) (bodyOf Tryd.f20) Tryd.f20.ntmps E_ G_ (.code (0 :: [0,1,0,1,1]) :: .again [0,1,0,1,1] :: [.blk 0, .code [1,1,1]]) (r01_Ints_L1 xs ys a_0 c_0 a_1 c_1 i) (r01_Ints_K1 xs ys a_0 c_0 a_1 c_1 i))
abbrev r01_Ints_wp0 (xs : List Int) (ys : List Int) (a_0 : Option Addr) (c_0 : Nat) (a_1 : Option Addr) (c_1 : Nat) (Q1 : r01_Ints_T1) (R_ : Bool → Prop) : Prop := ((((↑(List.length xs) : Int) != (↑(List.length ys) : Int)) = true → (R_ (false))) ∧ (((↑(List.length xs) : Int) != (↑(List.length ys) : Int)) = false → (Q1 ((0 : Int)))))
abbrev r01_Ints_t0 (xs : List Int) (ys : List Int) (a_0 : Option Addr) (c_0 : Nat) (a_1 : Option Addr) (c_1 : Nat) : Tree Sg := Tree.br ((↑(List.length xs) : Int) != (↑(List.length ys) : Int)) (Tree.ret (Value.bool false) pn_ [Chunk.ro a_0 (List.length xs) c_0 [ci_ xs], Chunk.ro a_1 (List.length ys) c_1 [ci_ ys]]) (Tree.stuck [Ab.code [0, 1, 0, 1, 1], Ab.blk 0, Ab.code [1, 1, 1]] [e0_ 1000005 (Value.tuple { toList := [] }) pn_, e0_ 5 (vi_ (0 : Int)) pn_, e0_ 10 (Value.bool ((↑(List.length xs) : Int) != (↑(List.length ys) : Int))) pn_, e0_ 9 (vi_ (↑(List.length ys) : Int)) pn_, e0_ 8 (Value.slice a_1 (List.length ys) c_1) (ps_ 1), e0_ 7 (vi_ (↑(List.length xs) : Int)) pn_, e0_ 6 (Value.slice a_0 (List.length xs) c_0) (ps_ 0), e0_ 1000004 (Value.tuple { toList := [] }) pn_, e0_ 4 (Value.bool false) pn_, e0_ 0 (Value.slice a_0 (List.length xs) c_0) (ps_ 0), e0_ 1 (Value.slice a_1 (List.length ys) c_1) (ps_ 1)] [Chunk.ro a_0 (List.length xs) c_0 [ci_ xs], Chunk.ro a_1 (List.length ys) c_1 [ci_ ys]])
theorem r01_Ints_pc0 {E_ : World} {G_ : Hp} {r_ : Bool} {Q1 : r01_Ints_T1} (hQ : r01_Ints_H E_ G_ xs ys a_0 c_0 a_1 c_1 r_ Q1) (h : r01_Ints_wp0 xs ys a_0 c_0 a_1 c_1 Q1 (fun x => x = r_)) : (r01_Ints_t0 xs ys a_0 c_0 a_1 c_1 ).holds (RetOk (r01_Ints_out r_) (r01_Ints_nw r_) (r01_Ints_rows r_)) (SW Dg Tryd.prog 20 (Post Dg E_ G_ (r01_Ints_out r_) (r01_Ints_nw r_) (r01_Ints_rows r_)) (bodyOf Tryd.f20) Tryd.f20.ntmps E_ G_) :=
  ⟨fun z0 => RetOk.at (outf := r01_Ints_out) (nwf := r01_Ints_nw) (rowsf := r01_Ints_rows) (r := false) (h.1 z0) ⟨[], [], (by decide), rfl, rfl, trivial⟩, fun z0 => SW.move Dg [5, 0, 1] [0, 1] (by decide) (by kernel_rfl) (by kernel_rfl) (SW.enter Dg (by kernel_rfl) (hQ ((0 : Int)) (h.2 z0)))⟩
abbrev r01_Ints_wp1 (xs : List Int) (ys : List Int) (a_0 : Option Addr) (c_0 : Nat) (a_1 : Option Addr) (c_1 : Nat) (i : Int) (Q1 : r01_Ints_T1) (R_ : Bool → Prop) : Prop := (((decide (i < (↑(List.length xs) : Int))) = true → (((0 : Int) ≤ i ∧ i < (↑(List.length xs) : Int)) ∧ (((0 : Int) ≤ i ∧ i < (↑(List.length xs) : Int)) → (((0 : Int) ≤ i ∧ i < (↑(List.length ys) : Int)) ∧ (((0 : Int) ≤ i ∧ i < (↑(List.length ys) : Int)) → (((List.getD xs (Int.toNat i) (0 : Int) != List.getD ys (Int.toNat i) (0 : Int)) = true → (R_ (false))) ∧ ((List.getD xs (Int.toNat i) (0 : Int) != List.getD ys (Int.toNat i) (0 : Int)) = false → (Q1 (IntKind.wrap IntKind.i64 (i + (1 : Int))))))))))) ∧ ((decide (i < (↑(List.length xs) : Int))) = false → (R_ (true))))
abbrev r01_Ints_t1 (xs : List Int) (ys : List Int) (a_0 : Option Addr) (c_0 : Nat) (a_1 : Option Addr) (c_1 : Nat) (i : Int) : Tree Sg := Tree.br (decide (i < (↑(List.length xs) : Int))) (Tree.need ((0 : Int) ≤ i ∧ i < (↑(List.length xs) : Int)) (Tree.need ((0 : Int) ≤ i ∧ i < (↑(List.length ys) : Int)) (Tree.br (List.getD xs (Int.toNat i) (0 : Int) != List.getD ys (Int.toNat i) (0 : Int)) (Tree.ret (Value.bool false) pn_ [Chunk.ro a_0 (List.length xs) c_0 [ci_ xs], Chunk.ro a_1 (List.length ys) c_1 [ci_ ys]]) (Tree.stuck [Ab.again [0, 1, 0, 1, 1], Ab.blk 0, Ab.code [1, 1, 1]] [e0_ 5 (vi_ (IntKind.wrap IntKind.i64 (i + (1 : Int)))) pn_, e0_ 16 (vi_ (IntKind.wrap IntKind.i64 (i + (1 : Int)))) pn_, e0_ 15 (vi_ i) pn_, e0_ 25 (Value.bool (List.getD xs (Int.toNat i) (0 : Int) != List.getD ys (Int.toNat i) (0 : Int))) pn_, e0_ 24 (vi_ (List.getD ys (Int.toNat i) (0 : Int))) pn_, e0_ 23 (Value.pointer (Option.map (fun a => Addr.add a (Int.toNat i * 1)) a_1)) (Pr.pt 1 (PK.elem (Int.toNat i) 0)), e0_ 22 (vi_ i) pn_, e0_ 21 (Value.slice a_1 (List.length ys) c_1) (ps_ 1), e0_ 20 (vi_ (List.getD xs (Int.toNat i) (0 : Int))) pn_, e0_ 19 (Value.pointer (Option.map (fun a => Addr.add a (Int.toNat i * 1)) a_0)) (Pr.pt 0 (PK.elem (Int.toNat i) 0)), e0_ 18 (vi_ i) pn_, e0_ 17 (Value.slice a_0 (List.length xs) c_0) (ps_ 0), e0_ 14 (Value.bool (decide (i < (↑(List.length xs) : Int)))) pn_, e0_ 13 (vi_ (↑(List.length xs) : Int)) pn_, e0_ 12 (Value.slice a_0 (List.length xs) c_0) (ps_ 0), e0_ 11 (vi_ i) pn_, e0_ 0 (Value.slice a_0 (List.length xs) c_0) (ps_ 0), e0_ 1 (Value.slice a_1 (List.length ys) c_1) (ps_ 1)] [Chunk.ro a_0 (List.length xs) c_0 [ci_ xs], Chunk.ro a_1 (List.length ys) c_1 [ci_ ys]])))) (Tree.ret (Value.bool true) pn_ [Chunk.ro a_0 (List.length xs) c_0 [ci_ xs], Chunk.ro a_1 (List.length ys) c_1 [ci_ ys]])
theorem r01_Ints_pc1 {E_ : World} {G_ : Hp} (i : Int) {r_ : Bool} {Q1 : r01_Ints_T1} (hQ : r01_Ints_H E_ G_ xs ys a_0 c_0 a_1 c_1 r_ Q1) (h : r01_Ints_wp1 xs ys a_0 c_0 a_1 c_1 i Q1 (fun x => x = r_)) : (r01_Ints_t1 xs ys a_0 c_0 a_1 c_1 i ).holds (RetOk (r01_Ints_out r_) (r01_Ints_nw r_) (r01_Ints_rows r_)) (SW Dg Tryd.prog 20 (Post Dg E_ G_ (r01_Ints_out r_) (r01_Ints_nw r_) (r01_Ints_rows r_)) (bodyOf Tryd.f20) Tryd.f20.ntmps E_ G_) :=
  ⟨fun z0 => ⟨(h.1 z0).1, fun z1 => ⟨((h.1 z0).2 z1).1, fun z2 => ⟨fun z3 => RetOk.at (outf := r01_Ints_out) (nwf := r01_Ints_nw) (rowsf := r01_Ints_rows) (r := false) ((((h.1 z0).2 z1).2 z2).1 z3) ⟨[], [], (by decide), rfl, rfl, trivial⟩, fun z3 => SW.move Dg [5, 0, 1] [0, 1] (by decide) (by kernel_rfl) (by kernel_rfl) (SW.again Dg (hQ (IntKind.wrap IntKind.i64 (i + (1 : Int))) ((((h.1 z0).2 z1).2 z2).2 z3)))⟩⟩⟩, fun z0 => RetOk.at (outf := r01_Ints_out) (nwf := r01_Ints_nw) (rowsf := r01_Ints_rows) (r := true) (h.2 z0) ⟨[], [], (by decide), rfl, rfl, trivial⟩⟩
theorem r01_Ints_go1 {E_ : World} {G_ : Hp} (i : Int) {r_ : Bool} {Q1 : r01_Ints_T1} (hQ : r01_Ints_H E_ G_ xs ys a_0 c_0 a_1 c_1 r_ Q1) (h : r01_Ints_wp1 xs ys a_0 c_0 a_1 c_1 i Q1 (fun x => x = r_)) : SW Dg Tryd.prog 20 (Post Dg E_ G_ (r01_Ints_out r_) (r01_Ints_nw r_) (r01_Ints_rows r_)) (bodyOf Tryd.f20) Tryd.f20.ntmps E_ G_ (.code (0 :: [0,1,0,1,1]) :: .again [0,1,0,1,1] :: [.blk 0, .code [1,1,1]]) (r01_Ints_L1 xs ys a_0 c_0 a_1 c_1 i) (r01_Ints_K1 xs ys a_0 c_0 a_1 c_1 i) :=
  SW.go Dg T_half_Free_ok (I := []) Tryd.func20 mix 400 (t := r01_Ints_t1 xs ys a_0 c_0 a_1 c_1 i ) (by kernel_rfl) (r01_Ints_pc1 xs ys a_0 c_0 a_1 c_1 i hQ h)
theorem r01_Ints_start {E_ : World} {G_ : Hp} {w_ : World} (hr0 : RowAt G_ a_0 xs.length [.ints .i64 xs]) (hr1 : RowAt G_ a_1 ys.length [.ints .i64 ys]) {r_ : Bool} {Q1 : r01_Ints_T1} (hQ : r01_Ints_H E_ G_ xs ys a_0 c_0 a_1 c_1 r_ Q1) (hS : Sat E_ G_ w_ []) (h : r01_Ints_wp0 xs ys a_0 c_0 a_1 c_1 Q1 (fun x => x = r_)) : Calls Tryd.prog 20 #[(.slice a_0 xs.length c_0), (.slice a_1 ys.length c_1)] w_ (Post Dg E_ G_ (r01_Ints_out r_) (r01_Ints_nw r_) (r01_Ints_rows r_)) :=
  calls_post Dg T_half_Free_ok (I := []) Tryd.func20 mix (B := bodyOf Tryd.f20) (by kernel_rfl) [(.slice a_0 xs.length c_0), (.slice a_1 ys.length c_1)] [.pt 0 .slice, .pt 1 .slice] (by kernel_rfl) (objs := []) (ros := [.ro a_0 xs.length c_0 [.ints .i64 xs], .ro a_1 ys.length c_1 [.ints .i64 ys]]) (psOk_cons (pOk_at rfl rfl) (psOk_cons (pOk_at rfl rfl) (psOk_nil))) (by kernel_rfl) (⟨hr0, hr1, trivial⟩) hS 400
    (t := r01_Ints_t0 xs ys a_0 c_0 a_1 c_1)
    (by kernel_rfl)
    (r01_Ints_pc0 xs ys a_0 c_0 a_1 c_1 hQ h)
def r01_Ints_I (xs : List Int) (ys : List Int) (a_0 : Option Addr) (c_0 : Nat) (a_1 : Option Addr) (c_1 : Nat) (i : Int) (r_ : Bool) : Prop := 0 ≤ i ∧ i ≤ xs.length ∧ xs.length = ys.length ∧ (∀ j : Nat, j < i.toNat → xs.getD j 0 = ys.getD j 0) ∧ r_ = decide (xs = ys) ∧ xs.length ≤ 9223372036854775807
theorem r01_Ints_step (i : Int) {r_ : Bool} (hI : r01_Ints_I xs ys a_0 c_0 a_1 c_1 i r_) : r01_Ints_wp1 xs ys a_0 c_0 a_1 c_1 i (fun i' => r01_Ints_I xs ys a_0 c_0 a_1 c_1 i' r_ ∧ ((xs.length - i').toNat) < ((xs.length - i).toNat)) (fun x => x = r_) := by
  unfold r01_Ints_I at hI
  unfold r01_Ints_wp1 r01_Ints_I
  obtain ⟨h0, h1, h2, h3, h4, h5⟩ := hI
  refine ⟨fun h => ?_, fun h => ?_⟩
  · simp only [decide_eq_true_eq] at h
    rw [w64 (by omega)]
    refine ⟨⟨h0, h⟩, fun _ => ⟨⟨h0, by omega⟩, fun _ => ⟨fun hn => ?_, fun hn => ?_⟩⟩⟩
    · show false = r_
      rw [h4]
      symm
      simp only [decide_eq_false_iff_not]
      rintro rfl
      simp at hn
    · refine ⟨⟨by omega, by omega, h2, fun j hj => ?_, h4, h5⟩, by omega⟩
      by_cases hji : j = i.toNat
      · subst hji; simpa using hn
      · exact h3 j (by omega)
  · simp only [decide_eq_false_iff_not] at h
    show true = r_
    rw [h4]
    symm
    simp only [decide_eq_true_eq]
    exact ext_getD h2 fun j hj => h3 j (by omega)
theorem r01_Ints_loop {E_ : World} {G_ : Hp} {r_ : Bool} : ∀ s_ : Int, r01_Ints_I xs ys a_0 c_0 a_1 c_1 s_ r_ → SW Dg Tryd.prog 20 (Post Dg E_ G_ (r01_Ints_out r_) (r01_Ints_nw r_) (r01_Ints_rows r_)) (bodyOf Tryd.f20) Tryd.f20.ntmps E_ G_ (.code (0 :: [0,1,0,1,1]) :: .again [0,1,0,1,1] :: [.blk 0, .code [1,1,1]]) (r01_Ints_L1 xs ys a_0 c_0 a_1 c_1 s_) (r01_Ints_K1 xs ys a_0 c_0 a_1 c_1 s_) :=
  SW.loop Dg (α := Int) (fun s_ => r01_Ints_L1 xs ys a_0 c_0 a_1 c_1 s_) (fun s_ => r01_Ints_K1 xs ys a_0 c_0 a_1 c_1 s_) (fun s_ => (xs.length - s_).toNat) (fun s_ => r01_Ints_I xs ys a_0 c_0 a_1 c_1 s_ r_) (fun i hI ih => r01_Ints_go1 xs ys a_0 c_0 a_1 c_1 i (fun i' h => ih i' h.1 h.2) (r01_Ints_step xs ys a_0 c_0 a_1 c_1 i hI))
theorem r01_Ints_begin (hl0 : xs.length ≤ 9223372036854775807) (hl1 : ys.length ≤ 9223372036854775807) : r01_Ints_wp0 xs ys a_0 c_0 a_1 c_1 (fun i => r01_Ints_I xs ys a_0 c_0 a_1 c_1 i (r01_Ints xs ys)) (fun x => x = (r01_Ints xs ys)) := by
  unfold r01_Ints_wp0 r01_Ints_I
  refine ⟨fun h => ?_, fun h => ?_⟩
  · simp only [bne_iff_ne, ne_eq] at h
    show false = r01_Ints xs ys
    symm
    simp only [r01_Ints, decide_eq_false_iff_not]
    rintro rfl
    exact h rfl
  · simp only [bne_eq_false_iff_eq] at h
    exact ⟨by omega, by omega, by omega, fun j hj => absurd hj (Nat.not_lt_zero j), rfl, hl0⟩
theorem r01_Ints_calls {E_ : World} {G_ : Hp} {w_ : World} (hr0 : RowAt G_ a_0 xs.length [.ints .i64 xs]) (hr1 : RowAt G_ a_1 ys.length [.ints .i64 ys]) (hS : Sat E_ G_ w_ []) : Calls Tryd.prog 20 #[(.slice a_0 xs.length c_0), (.slice a_1 ys.length c_1)] w_ (Post Dg E_ G_ (r01_Ints_out (r01_Ints xs ys)) (r01_Ints_nw (r01_Ints xs ys)) (r01_Ints_rows (r01_Ints xs ys))) :=
  r01_Ints_start xs ys a_0 c_0 a_1 c_1 hr0 hr1 (fun i h => r01_Ints_loop xs ys a_0 c_0 a_1 c_1 i h) hS (r01_Ints_begin xs ys a_0 c_0 a_1 c_1 hr0.bound hr1.bound )
end
def r01_Ints_e : Entry Sg := fun
  | [(_, .row n_0 [.ints .i64 xs]), (_, .row n_1 [.ints .i64 ys])] => some ⟨(r01_Ints xs ys), fun (r_ : Bool) => ⟨[], none, [], fun ss => .bool (r_), fun k_ => .no⟩⟩
  | _ => none
theorem r01_Ints_ok : EntryOk Dg Tryd.prog 20 r01_Ints_e := by
  intro args c r h hr_
  unfold r01_Ints_e at h
  split at h
  · injection h with h; subst h; subst hr_
    refine ⟨fun K acs _ => pOk_no, fun hpre E G w hi hS => ?_⟩
    have hi_0 := hi _ (List.mem_of_getElem? (i := 0) rfl)
    simp only [iOk] at hi_0
    obtain ⟨a_0, c_0, e_0, hr0⟩ := hi_0
    have l_0 := hr0.len
    simp only [Col.len] at l_0
    subst l_0
    subst e_0
    have hi_1 := hi _ (List.mem_of_getElem? (i := 1) rfl)
    simp only [iOk] at hi_1
    obtain ⟨a_1, c_1, e_1, hr1⟩ := hi_1
    have l_1 := hr1.len
    simp only [Col.len] at l_1
    subst l_1
    subst e_1
    exact entry_post Dg (by exact rfl) (r01_Ints_calls _ _ _ _ _ _ hr0 hr1  hS)
  · cases h
def T_r01_Ints : List (Nat × Entry Sg) := (20, r01_Ints_e) :: T_half_Free
theorem T_r01_Ints_ok : TableOk Dg Tryd.prog T_r01_Ints := TableOk.cons Dg r01_Ints_ok T_half_Free_ok

/- nacrelaw01.live -/
def l01_live : Bool := true
def l01_live_out (r_ : Bool) : List Value → Value := fun ss => .bool (r_)
def l01_live_nw (r_ : Bool) : List (Chunk Sg) := []
def l01_live_rows (r_ : Bool) : List (Mk Sg) := []
def l01_live_wp0 (R_ : Bool → Prop) : Prop := (((Prod.snd (half_Put (0 : Int) (4 : Int) (4 : Int) (15 : Int)) && Prod.fst (half_Put (0 : Int) (4 : Int) (4 : Int) (15 : Int)) == (240 : Int) && !Prod.snd (half_Put (0 : Int) (4 : Int) (4 : Int) (16 : Int))) = true → (∀ r1 : List Int, r1 = (half_Free (11 : Int) (4 : Int)) → (∀ (b2_0 : Option Nat) (b2_1 : Nat), (∀ b3_0 : Nat, (((r01_Ints r1 [(2 : Int)] && half_Log (9 : Int) == (3 : Int)) = true → (((true) = true → (R_ (true && half_Join (1 : Int) (0 : Int) == (4294967296 : Int)))) ∧ ((true) = false → ((False) ∧ ((False) → False))))) ∧ ((r01_Ints r1 [(2 : Int)] && half_Log (9 : Int) == (3 : Int)) = false → (R_ (false)))))))) ∧ ((Prod.snd (half_Put (0 : Int) (4 : Int) (4 : Int) (15 : Int)) && Prod.fst (half_Put (0 : Int) (4 : Int) (4 : Int) (15 : Int)) == (240 : Int) && !Prod.snd (half_Put (0 : Int) (4 : Int) (4 : Int) (16 : Int))) = false → (R_ (false))))
theorem l01_live_calls {E_ : World} {G_ : Hp} {w_ : World} (hS : Sat E_ G_ w_ []) : Calls Tryd.prog 13 #[] w_ (Post Dg E_ G_ (l01_live_out l01_live) (l01_live_nw l01_live) (l01_live_rows l01_live)) := by
  have h : l01_live_wp0  (fun x => x = l01_live) := by
    unfold l01_live_wp0
    have hf : half_Free 11 4 = [2] := by decide +kernel
    refine ⟨fun _ r1 e b c d => ⟨fun _ => ⟨fun _ => ?_, fun h => by cases h⟩, fun h => ?_⟩, fun h => ?_⟩
    · show (true && half_Join 1 0 == 4294967296) = true
      decide +kernel
    · rw [e, hf] at h; exact absurd h (by decide +kernel)
    · exact absurd h (by decide +kernel)
  exact calls_post Dg T_r01_Ints_ok (I := [16]) Tryd.func13 mix (B := bodyOf Tryd.f13) (by kernel_rfl) [] [] (by kernel_rfl) (objs := []) (ros := []) (psOk_nil) (by kernel_rfl) (trivial) hS 400
    (t := Tree.br (Prod.snd (half_Put (0 : Int) (4 : Int) (4 : Int) (15 : Int)) && Prod.fst (half_Put (0 : Int) (4 : Int) (4 : Int) (15 : Int)) == (240 : Int) && !Prod.snd (half_Put (0 : Int) (4 : Int) (4 : Int) (16 : Int))) (Tree.bind (half_Free (11 : Int) (4 : Int)) fun a => Tree.freshS fun a_1 cap => Tree.fresh fun b => Tree.br (r01_Ints a [(2 : Int)] && half_Log (9 : Int) == (3 : Int)) (Tree.br true (Tree.ret (Value.bool (true && half_Join (1 : Int) (0 : Int) == (4294967296 : Int))) pn_ [kr_ a_1 3 (List.length a) cap [ci_ a], kr_ (some b) 3 1 1 [ci_ [(2 : Int)]]]) (Tree.need False (Tree.stuck [Ab.ops [0, 1, 1] 1, Ab.code [1, 1, 1]] [e0_ 5 (vu_ (0 : Int)) pn_, e0_ 4 (Value.bool true) pn_, e0_ 3 (vu_ (0 : Int)) pn_, e0_ 1000002 (Value.tuple { toList := [] }) pn_, e0_ 2 (vi_ (0 : Int)) pn_, e0_ 0 (vu_ (0 : Int)) pn_] [kr_ a_1 3 (List.length a) cap [ci_ a], kr_ (some b) 3 1 1 [ci_ [(2 : Int)]]]))) (Tree.ret (Value.bool false) pn_ [kr_ a_1 3 (List.length a) cap [ci_ a], kr_ (some b) 3 1 1 [ci_ [(2 : Int)]]])) (Tree.ret (Value.bool false) pn_ []))
    (by kernel_rfl)
    (⟨fun z0 => fun r1 e1 => fun b2_0 b2_1 => fun b3_0 => ⟨fun z4 => ⟨fun z5 => RetOk.at (outf := l01_live_out) (nwf := l01_live_nw) (rowsf := l01_live_rows) (r := true && half_Join (1 : Int) (0 : Int) == (4294967296 : Int)) ((((((h.1 z0) r1 e1) b2_0 b2_1) b3_0).1 z4).1 z5) ⟨[], [], (by decide), rfl, rfl, trivial⟩, fun z5 => ⟨((((((h.1 z0) r1 e1) b2_0 b2_1) b3_0).1 z4).2 z5).1, fun z6 => ((((((((h.1 z0) r1 e1) b2_0 b2_1) b3_0).1 z4).2 z5).2 z6)).elim⟩⟩, fun z4 => RetOk.at (outf := l01_live_out) (nwf := l01_live_nw) (rowsf := l01_live_rows) (r := false) (((((h.1 z0) r1 e1) b2_0 b2_1) b3_0).2 z4) ⟨[], [], (by decide), rfl, rfl, trivial⟩⟩, fun z0 => RetOk.at (outf := l01_live_out) (nwf := l01_live_nw) (rowsf := l01_live_rows) (r := false) (h.2 z0) ⟨[], [], (by decide), rfl, rfl, trivial⟩⟩)
def l01_live_e : Entry Sg := fun
  | [] => some ⟨l01_live, fun (r_ : Bool) => ⟨[], none, [], fun ss => .bool (r_), fun k_ => .no⟩⟩
  | _ => none
theorem l01_live_ok : EntryOk Dg Tryd.prog 13 l01_live_e := by
  intro args c r h hr_
  unfold l01_live_e at h
  split at h
  · injection h with h; subst h; subst hr_
    refine ⟨fun K acs _ => pOk_no, fun hpre E G w hi hS => ?_⟩
    exact entry_post Dg (by exact rfl) (l01_live_calls  hS)
  · cases h
def T_l01_live : List (Nat × Entry Sg) := (13, l01_live_e) :: T_r01_Ints
theorem T_l01_live_ok : TableOk Dg Tryd.prog T_l01_live := TableOk.cons Dg l01_live_ok T_r01_Ints_ok

/- nacrelaw01.HalfJoins -/
def HalfJoins (w : Int) (x : Int) (y : Int) : Bool := half_Join x y == r01_Join x y && half_Hi w == r01_Hi w && half_Lo w == r01_Lo w && half_Hi (half_Join x y) == x && half_Lo (half_Join x y) == y && half_Join (half_Hi w) (half_Lo w) == w && l01_live
def HalfJoins_out (r_ : Bool) : List Value → Value := fun ss => .bool (r_)
def HalfJoins_nw (r_ : Bool) : List (Chunk Sg) := []
def HalfJoins_rows (r_ : Bool) : List (Mk Sg) := []
section
variable (w : Int) (x : Int) (y : Int)
theorem HalfJoins_calls {E_ : World} {G_ : Hp} {w_ : World} (hS : Sat E_ G_ w_ []) : Calls Tryd.prog 3 #[(.int .u64 w), (.int .u32 x), (.int .u32 y)] w_ (Post Dg E_ G_ (HalfJoins_out (HalfJoins w x y)) (HalfJoins_nw (HalfJoins w x y)) (HalfJoins_rows (HalfJoins w x y))) :=
  calls_post Dg T_l01_live_ok (I := []) Tryd.func3 mix (B := bodyOf Tryd.f3) (by kernel_rfl) [(.int .u64 w), (.int .u32 x), (.int .u32 y)] [.no, .no, .no] (by kernel_rfl) (objs := []) (ros := []) (psOk_cons pOk_no (psOk_cons pOk_no (psOk_cons pOk_no (psOk_nil)))) (by kernel_rfl) (trivial) hS 400
    (t := Tree.ret (Value.bool (half_Join x y == r01_Join x y && half_Hi w == r01_Hi w && half_Lo w == r01_Lo w && half_Hi (half_Join x y) == x && half_Lo (half_Join x y) == y && half_Join (half_Hi w) (half_Lo w) == w && l01_live)) pn_ [])
    (by kernel_rfl)
    (RetOk.at (outf := HalfJoins_out) (nwf := HalfJoins_nw) (rowsf := HalfJoins_rows) (r := half_Join x y == r01_Join x y && half_Hi w == r01_Hi w && half_Lo w == r01_Lo w && half_Hi (half_Join x y) == x && half_Lo (half_Join x y) == y && half_Join (half_Hi w) (half_Lo w) == w && l01_live) (by first | exact Eq.symm rfl | (simp only [HalfJoins, cond_true, cond_false]; done) | (exfalso; simp_all; done) | decide) ⟨[], [], (by decide), rfl, rfl, trivial⟩)
theorem HalfJoins_plain {E_ : World} {G_ : Hp} {w_ : World} (hS : Sat E_ G_ w_ []) : Calls Tryd.prog 3 #[(.int .u64 w), (.int .u32 x), (.int .u32 y)] w_ (fun en w' => en = .returned (.bool ((HalfJoins w x y))) ∧ Sat E_ G_ w' []) := by
  have h := HalfJoins_calls (E_ := E_) (G_ := G_) w x y  hS
  refine h.mono fun en w' hp => ?_
  have hp' : Post Dg E_ G_ (fun _ => .bool ((HalfJoins w x y))) ([] : List (Chunk Sg)) [] en w' := hp
  rw [Post.plain] at hp'
  exact hp'
end
def HalfJoins_e : Entry Sg := fun
  | [(.int .u64 w, _), (.int .u32 x, _), (.int .u32 y, _)] => some ⟨(HalfJoins w x y), fun (r_ : Bool) => ⟨[], none, [], fun ss => .bool (r_), fun k_ => .no⟩⟩
  | _ => none
theorem HalfJoins_ok : EntryOk Dg Tryd.prog 3 HalfJoins_e := by
  intro args c r h hr_
  unfold HalfJoins_e at h
  split at h
  · injection h with h; subst h; subst hr_
    refine ⟨fun K acs _ => pOk_no, fun hpre E G w hi hS => ?_⟩
    exact entry_post Dg (by exact rfl) (HalfJoins_calls _ _ _  hS)
  · cases h
def T_HalfJoins : List (Nat × Entry Sg) := (3, HalfJoins_e) :: T_l01_live
theorem T_HalfJoins_ok : TableOk Dg Tryd.prog T_HalfJoins := TableOk.cons Dg HalfJoins_ok T_l01_live_ok
end Go.Proofs.YtaenbinoejnecaaDoor

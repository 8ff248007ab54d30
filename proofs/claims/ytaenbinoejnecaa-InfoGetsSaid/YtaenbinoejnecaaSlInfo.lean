/-
  DERIVED. What functions of the program compute, read off their bodies by the machine of SlB, and that it is so. Printed by a program of this claim's own (wip/gen/gen.py).
-/
import Derived.Test.YtaenbinoejnecaaSlHd
namespace Go.Proofs.Ytaenbinoejnecaa
open Go.Sl
set_option linter.unusedSimpArgs false
set_option linter.unusedVariables false

/-- half.field -/
def half_field (x : Int) (y : Int) : Bool := decide (x ≥ 0) && decide (y ≥ 1) && decide (y ≤ 64) && decide (x ≤ IntKind.wrap IntKind.i64 (64 - y))
def half_field_e : Entry Sg := fun
  | [(.int .i64 x, _), (.int .i64 y, _)] => some ⟨[], none, [], fun _ => .bool ((half_field x y))⟩
  | _ => none
theorem half_field_calls {E_ : World} {G_ : Hp} {w_ : World} (x : Int) (y : Int) (hS : Sat E_ G_ w_ []) : Calls Try.prog 55 #[.int .i64 x, .int .i64 y] w_ (fun en w' => en = .returned (.bool ((half_field x y))) ∧ Sat E_ G_ w' []) :=
  calls_plain Dg T_nil_ok Try.func55 mix (B := bodyOf Try.f55) (by kernel_rfl) [(.int .i64 x), (.int .i64 y)] (by kernel_rfl) hS 400
    (t := Tree.ret (Value.bool (decide (x ≥ 0) && decide (y ≥ 1) && decide (y ≤ 64) && decide (x ≤ IntKind.wrap IntKind.i64 (64 - y)))) [])
    (by kernel_rfl)
    (ret_ok (by first | (simp only [half_field, cond_true, cond_false]; done) | (exfalso; simp_all; done)))
theorem half_field_ok : EntryOk Dg Try.prog 55 half_field_e := entry_pure Dg (by
  intro args r h
  unfold half_field_e at h
  split at h
  · injection h with h; subst h
    exact ⟨rfl, rfl, fun _ E G w _ hS => half_field_calls _ _ hS⟩
  · cases h)
def T_half_field : List (Nat × Entry Sg) := (55, half_field_e) :: T_nil
theorem T_half_field_ok : TableOk Dg Try.prog T_half_field := TableOk.cons Dg half_field_ok T_nil_ok

/-- half.mask -/
def half_mask (x : Int) : Int := Int.fdiv 18446744073709551615 (2 ^ min (Int.toNat (IntKind.wrap IntKind.i64 (64 - x))) 64)
def half_mask_e : Entry Sg := fun
  | [(.int .i64 x, _)] => some ⟨[(0 ≤ IntKind.wrap IntKind.i64 (64 - x) : Prop)], none, [], fun _ => .int .u64 ((half_mask x))⟩
  | _ => none
theorem half_mask_calls {E_ : World} {G_ : Hp} {w_ : World} (x : Int) (hp0 : 0 ≤ IntKind.wrap IntKind.i64 (64 - x)) (hS : Sat E_ G_ w_ []) : Calls Try.prog 56 #[.int .i64 x] w_ (fun en w' => en = .returned (.int .u64 ((half_mask x))) ∧ Sat E_ G_ w' []) :=
  calls_plain Dg T_half_field_ok Try.func56 mix (B := bodyOf Try.f56) (by kernel_rfl) [(.int .i64 x)] (by kernel_rfl) hS 400
    (t := Tree.need (0 ≤ IntKind.wrap IntKind.i64 (64 - x)) (Tree.ret (Value.int IntKind.u64 (Int.fdiv 18446744073709551615 (2 ^ min (Int.toNat (IntKind.wrap IntKind.i64 (64 - x))) 64))) []))
    (by kernel_rfl)
    (⟨by exact hp0, fun _ => ret_ok (by first | (simp only [half_mask, cond_true, cond_false]; done) | (exfalso; simp_all; done))⟩)
theorem half_mask_ok : EntryOk Dg Try.prog 56 half_mask_e := entry_pure Dg (by
  intro args r h
  unfold half_mask_e at h
  split at h
  · injection h with h; subst h
    exact ⟨rfl, rfl, fun hpre E G w _ hS => half_mask_calls _ (hpre _ (by simp)) hS⟩
  · cases h)
def T_half_mask : List (Nat × Entry Sg) := (56, half_mask_e) :: T_half_field
theorem T_half_mask_ok : TableOk Dg Try.prog T_half_mask := TableOk.cons Dg half_mask_ok T_half_field_ok
theorem half_field_iff {x y : Int} : half_field x y = true ↔ 0 ≤ x ∧ 1 ≤ y ∧ y ≤ 64 ∧ x ≤ 64 - y := by
  simp only [half_field, Bool.and_eq_true, decide_eq_true_eq, IntKind.wrap_i64]
  omega
theorem half_need1 {x y : Int} (h : (!half_field x y) = false) : 0 ≤ IntKind.wrap IntKind.i64 (64 - y) := by
  have := half_field_iff.1 (by simpa using h)
  rw [IntKind.wrap_i64]; omega
theorem half_need2 {x y : Int} {b : Bool} (h : (!half_field x y || b) = false) : 0 ≤ IntKind.wrap IntKind.i64 (64 - y) := half_need1 (Bool.or_eq_false_iff.1 h).1
theorem half_need3 {x y : Int} {b : Bool} (h : (!half_field x y || b) = false) : 0 ≤ x := (half_field_iff.1 (by simpa using (Bool.or_eq_false_iff.1 h).1)).1
theorem half_need4 {x y : Int} (h : (!half_field x y) = false) : 0 ≤ x := (half_field_iff.1 (by simpa using h)).1


/-- half.Put -/
def half_Put (w : Int) (x : Int) (y : Int) (v : Int) : Int × Bool := (bif !half_field x y || decide (v > half_mask y) then (0, false) else (IntKind.wrap IntKind.u64 ↑(BitVec.toNat (BitVec.ofInt 64 (IntKind.wrap IntKind.u64 ↑(BitVec.toNat (BitVec.ofInt 64 w &&& ~~~BitVec.ofInt 64 (IntKind.wrap IntKind.u64 (half_mask y * 2 ^ min (Int.toNat x) 64))))) ||| BitVec.ofInt 64 (IntKind.wrap IntKind.u64 (v * 2 ^ min (Int.toNat x) 64)))), true))
def half_Put_e : Entry Sg := fun
  | [(.int .u64 w, _), (.int .i64 x, _), (.int .i64 y, _), (.int .u64 v, _)] => some ⟨[], none, [], fun _ => .tuple #[.int .u64 ((half_Put w x y v).1), .bool ((half_Put w x y v).2)]⟩
  | _ => none
theorem half_Put_calls {E_ : World} {G_ : Hp} {w_ : World} (w : Int) (x : Int) (y : Int) (v : Int) (hS : Sat E_ G_ w_ []) : Calls Try.prog 41 #[.int .u64 w, .int .i64 x, .int .i64 y, .int .u64 v] w_ (fun en w' => en = .returned (.tuple #[.int .u64 ((half_Put w x y v).1), .bool ((half_Put w x y v).2)]) ∧ Sat E_ G_ w' []) :=
  calls_plain Dg T_half_mask_ok Try.func41 mix (B := bodyOf Try.f41) (by kernel_rfl) [(.int .u64 w), (.int .i64 x), (.int .i64 y), (.int .u64 v)] (by kernel_rfl) hS 400
    (t := Tree.need ((!half_field x y) = false → 0 ≤ IntKind.wrap IntKind.i64 (64 - y)) (Tree.br (!half_field x y || decide (v > half_mask y)) (Tree.ret (Value.tuple { toList := [Value.int IntKind.u64 0, Value.bool false] }) []) (Tree.need (0 ≤ IntKind.wrap IntKind.i64 (64 - y)) (Tree.need (0 ≤ x) (Tree.need (0 ≤ x) (Tree.ret (Value.tuple { toList := [Value.int IntKind.u64 (IntKind.wrap IntKind.u64 ↑(BitVec.toNat (BitVec.ofInt 64 (IntKind.wrap IntKind.u64 ↑(BitVec.toNat (BitVec.ofInt 64 w &&& ~~~BitVec.ofInt 64 (IntKind.wrap IntKind.u64 (half_mask y * 2 ^ min (Int.toNat x) 64))))) ||| BitVec.ofInt 64 (IntKind.wrap IntKind.u64 (v * 2 ^ min (Int.toNat x) 64))))), Value.bool true] }) []))))))
    (by kernel_rfl)
    (⟨by first | exact half_need1 | exact half_need2 h1 | exact half_need3 h1, fun _ => ⟨fun h1 => ret_ok (by first | (simp only [half_Put, h1, cond_true, cond_false]; done) | (exfalso; simp_all; done)), fun h1 => ⟨by first | exact half_need1 | exact half_need2 h1 | exact half_need3 h1, fun _ => ⟨by first | exact half_need1 | exact half_need2 h1 | exact half_need3 h1, fun _ => ⟨by first | exact half_need1 | exact half_need2 h1 | exact half_need3 h1, fun _ => ret_ok (by first | (simp only [half_Put, h1, cond_true, cond_false]; done) | (exfalso; simp_all; done))⟩⟩⟩⟩⟩)
theorem half_Put_ok : EntryOk Dg Try.prog 41 half_Put_e := entry_pure Dg (by
  intro args r h
  unfold half_Put_e at h
  split at h
  · injection h with h; subst h
    exact ⟨rfl, rfl, fun _ E G w _ hS => half_Put_calls _ _ _ _ hS⟩
  · cases h)
def T_half_Put : List (Nat × Entry Sg) := (41, half_Put_e) :: T_half_mask
theorem T_half_Put_ok : TableOk Dg Try.prog T_half_Put := TableOk.cons Dg half_Put_ok T_half_mask_ok

/-- half.Get -/
def half_Get (w : Int) (x : Int) (y : Int) : Int := (bif !half_field x y then 0 else IntKind.wrap IntKind.u64 ↑(BitVec.toNat (BitVec.ofInt 64 (Int.fdiv w (2 ^ min (Int.toNat x) 64)) &&& BitVec.ofInt 64 (half_mask y))))
def half_Get_e : Entry Sg := fun
  | [(.int .u64 w, _), (.int .i64 x, _), (.int .i64 y, _)] => some ⟨[], none, [], fun _ => .int .u64 ((half_Get w x y))⟩
  | _ => none
theorem half_Get_calls {E_ : World} {G_ : Hp} {w_ : World} (w : Int) (x : Int) (y : Int) (hS : Sat E_ G_ w_ []) : Calls Try.prog 48 #[.int .u64 w, .int .i64 x, .int .i64 y] w_ (fun en w' => en = .returned (.int .u64 ((half_Get w x y))) ∧ Sat E_ G_ w' []) :=
  calls_plain Dg T_half_Put_ok Try.func48 mix (B := bodyOf Try.f48) (by kernel_rfl) [(.int .u64 w), (.int .i64 x), (.int .i64 y)] (by kernel_rfl) hS 400
    (t := Tree.br (!half_field x y) (Tree.ret (Value.int IntKind.u64 0) []) (Tree.need (0 ≤ x) (Tree.need (0 ≤ IntKind.wrap IntKind.i64 (64 - y)) (Tree.ret (Value.int IntKind.u64 (IntKind.wrap IntKind.u64 ↑(BitVec.toNat (BitVec.ofInt 64 (Int.fdiv w (2 ^ min (Int.toNat x) 64)) &&& BitVec.ofInt 64 (half_mask y))))) []))))
    (by kernel_rfl)
    (⟨fun h1 => ret_ok (by first | (simp only [half_Get, h1, cond_true, cond_false]; done) | (exfalso; simp_all; done)), fun h1 => ⟨by first | exact half_need1 h1 | exact half_need4 h1, fun _ => ⟨by first | exact half_need1 h1 | exact half_need4 h1, fun _ => ret_ok (by first | (simp only [half_Get, h1, cond_true, cond_false]; done) | (exfalso; simp_all; done))⟩⟩⟩)
theorem half_Get_ok : EntryOk Dg Try.prog 48 half_Get_e := entry_pure Dg (by
  intro args r h
  unfold half_Get_e at h
  split at h
  · injection h with h; subst h
    exact ⟨rfl, rfl, fun _ E G w _ hS => half_Get_calls _ _ _ hS⟩
  · cases h)
def T_half_Get : List (Nat × Entry Sg) := (48, half_Get_e) :: T_half_Put
theorem T_half_Get_ok : TableOk Dg Try.prog T_half_Get := TableOk.cons Dg half_Get_ok T_half_Put_ok

/-- half.Lo -/
def half_Lo (w : Int) : Int := IntKind.wrap IntKind.u32 w
def half_Lo_e : Entry Sg := fun
  | [(.int .u64 w, _)] => some ⟨[], none, [], fun _ => .int .u32 ((half_Lo w))⟩
  | _ => none
theorem half_Lo_calls {E_ : World} {G_ : Hp} {w_ : World} (w : Int) (hS : Sat E_ G_ w_ []) : Calls Try.prog 42 #[.int .u64 w] w_ (fun en w' => en = .returned (.int .u32 ((half_Lo w))) ∧ Sat E_ G_ w' []) :=
  calls_plain Dg T_half_Get_ok Try.func42 mix (B := bodyOf Try.f42) (by kernel_rfl) [(.int .u64 w)] (by kernel_rfl) hS 400
    (t := Tree.ret (Value.int IntKind.u32 (IntKind.wrap IntKind.u32 w)) [])
    (by kernel_rfl)
    (ret_ok (by first | (simp only [half_Lo, cond_true, cond_false]; done) | (exfalso; simp_all; done)))
theorem half_Lo_ok : EntryOk Dg Try.prog 42 half_Lo_e := entry_pure Dg (by
  intro args r h
  unfold half_Lo_e at h
  split at h
  · injection h with h; subst h
    exact ⟨rfl, rfl, fun _ E G w _ hS => half_Lo_calls _ hS⟩
  · cases h)
def T_half_Lo : List (Nat × Entry Sg) := (42, half_Lo_e) :: T_half_Get
theorem T_half_Lo_ok : TableOk Dg Try.prog T_half_Lo := TableOk.cons Dg half_Lo_ok T_half_Get_ok

/-- info.right -/
def info_right (k : Int) (l : Int) (c : Int) : Bool := (bif k == 0 then k == 0 && (l == 0 && (c == 0 && true)) else (bif k == 3 then (bif decide (c < 0) || decide (c ≥ 9) then false else decide (l ≥ 1) && decide (l ≤ 1) && true) else (bif k == 1 then (bif k == 1 then decide (l ≥ 1) && decide (l ≤ 1024) && c == 0 else false) else (bif k == 2 then decide (l ≥ 1) && decide (l ≤ 1024) && c == 0 else false))))
def info_right_e : Entry Sg := fun
  | [(.agg ⟨[.int .i64 k, .int .i64 l, .int .i64 c]⟩, _)] => some ⟨[], none, [], fun _ => .bool ((info_right k l c))⟩
  | _ => none
theorem info_right_calls {E_ : World} {G_ : Hp} {w_ : World} (k : Int) (l : Int) (c : Int) (hS : Sat E_ G_ w_ []) : Calls Try.prog 40 #[.agg #[.int .i64 k, .int .i64 l, .int .i64 c]] w_ (fun en w' => en = .returned (.bool ((info_right k l c))) ∧ Sat E_ G_ w' []) :=
  calls_plain Dg T_half_Lo_ok Try.func40 mix (B := bodyOf Try.f40) (by kernel_rfl) [(.agg #[.int .i64 k, .int .i64 l, .int .i64 c])] (by kernel_rfl) hS 400
    (t := Tree.fresh fun b => Tree.br (k == 0) (Tree.ret (Value.bool (k == 0 && (l == 0 && (c == 0 && true)))) [Chunk.cells b 23 [Value.int IntKind.i64 k, Value.int IntKind.i64 l, Value.int IntKind.i64 c]]) (Tree.br (k == 3) (Tree.br (decide (c < 0) || decide (c ≥ 9)) (Tree.ret (Value.bool false) [Chunk.cells b 23 [Value.int IntKind.i64 k, Value.int IntKind.i64 l, Value.int IntKind.i64 c]]) (Tree.ret (Value.bool (decide (l ≥ 1) && decide (l ≤ 1) && true)) [Chunk.cells b 23 [Value.int IntKind.i64 k, Value.int IntKind.i64 l, Value.int IntKind.i64 0]])) (Tree.br (k == 1) (Tree.br (k == 1) (Tree.ret (Value.bool (decide (l ≥ 1) && decide (l ≤ 1024) && c == 0)) [Chunk.cells b 23 [Value.int IntKind.i64 k, Value.int IntKind.i64 l, Value.int IntKind.i64 c]]) (Tree.ret (Value.bool false) [Chunk.cells b 23 [Value.int IntKind.i64 k, Value.int IntKind.i64 l, Value.int IntKind.i64 c]])) (Tree.br (k == 2) (Tree.ret (Value.bool (decide (l ≥ 1) && decide (l ≤ 1024) && c == 0)) [Chunk.cells b 23 [Value.int IntKind.i64 k, Value.int IntKind.i64 l, Value.int IntKind.i64 c]]) (Tree.ret (Value.bool false) [Chunk.cells b 23 [Value.int IntKind.i64 k, Value.int IntKind.i64 l, Value.int IntKind.i64 c]])))))
    (by kernel_rfl)
    (fun _ => ⟨fun h1 => ret_ok (by first | (simp only [info_right, h1, cond_true, cond_false]; done) | (exfalso; simp_all; done)), fun h1 => ⟨fun h2 => ⟨fun h3 => ret_ok (by first | (simp only [info_right, h1, h2, h3, cond_true, cond_false]; done) | (exfalso; simp_all; done)), fun h3 => ret_ok (by first | (simp only [info_right, h1, h2, h3, cond_true, cond_false]; done) | (exfalso; simp_all; done))⟩, fun h2 => ⟨fun h3 => ⟨fun h4 => ret_ok (by first | (simp only [info_right, h1, h2, h3, h4, cond_true, cond_false]; done) | (exfalso; simp_all; done)), fun h4 => ret_ok (by first | (simp only [info_right, h1, h2, h3, h4, cond_true, cond_false]; done) | (exfalso; simp_all; done))⟩, fun h3 => ⟨fun h4 => ret_ok (by first | (simp only [info_right, h1, h2, h3, h4, cond_true, cond_false]; done) | (exfalso; simp_all; done)), fun h4 => ret_ok (by first | (simp only [info_right, h1, h2, h3, h4, cond_true, cond_false]; done) | (exfalso; simp_all; done))⟩⟩⟩⟩)
theorem info_right_ok : EntryOk Dg Try.prog 40 info_right_e := entry_pure Dg (by
  intro args r h
  unfold info_right_e at h
  split at h
  · injection h with h; subst h
    exact ⟨rfl, rfl, fun _ E G w _ hS => info_right_calls _ _ _ hS⟩
  · cases h)
def T_info_right : List (Nat × Entry Sg) := (40, info_right_e) :: T_half_Lo
theorem T_info_right_ok : TableOk Dg Try.prog T_info_right := TableOk.cons Dg info_right_ok T_half_Lo_ok

/-- info.Put -/
def info_Put (k : Int) (l : Int) (c : Int) : Int × Bool := (bif !info_right k l c then (0, false) else (half_Lo (Prod.fst (half_Put (Prod.fst (half_Put (IntKind.wrap IntKind.u64 k) 4 12 (IntKind.wrap IntKind.u64 l))) 16 4 (IntKind.wrap IntKind.u64 c))), true))
def info_Put_e : Entry Sg := fun
  | [(.agg ⟨[.int .i64 k, .int .i64 l, .int .i64 c]⟩, _)] => some ⟨[], none, [], fun _ => .tuple #[.int .u32 ((info_Put k l c).1), .bool ((info_Put k l c).2)]⟩
  | _ => none
theorem info_Put_calls {E_ : World} {G_ : Hp} {w_ : World} (k : Int) (l : Int) (c : Int) (hS : Sat E_ G_ w_ []) : Calls Try.prog 13 #[.agg #[.int .i64 k, .int .i64 l, .int .i64 c]] w_ (fun en w' => en = .returned (.tuple #[.int .u32 ((info_Put k l c).1), .bool ((info_Put k l c).2)]) ∧ Sat E_ G_ w' []) :=
  calls_plain Dg T_info_right_ok Try.func13 mix (B := bodyOf Try.f13) (by kernel_rfl) [(.agg #[.int .i64 k, .int .i64 l, .int .i64 c])] (by kernel_rfl) hS 400
    (t := Tree.fresh fun b => Tree.br (!info_right k l c) (Tree.ret (Value.tuple { toList := [Value.int IntKind.u32 0, Value.bool false] }) [Chunk.cells b 23 [Value.int IntKind.i64 k, Value.int IntKind.i64 l, Value.int IntKind.i64 c]]) (Tree.ret (Value.tuple { toList := [Value.int IntKind.u32 (half_Lo (Prod.fst (half_Put (Prod.fst (half_Put (IntKind.wrap IntKind.u64 k) 4 12 (IntKind.wrap IntKind.u64 l))) 16 4 (IntKind.wrap IntKind.u64 c)))), Value.bool true] }) [Chunk.cells b 23 [Value.int IntKind.i64 k, Value.int IntKind.i64 l, Value.int IntKind.i64 c]]))
    (by kernel_rfl)
    (fun _ => ⟨fun h1 => ret_ok (by first | (simp only [info_Put, h1, cond_true, cond_false]; done) | (exfalso; simp_all; done)), fun h1 => ret_ok (by first | (simp only [info_Put, h1, cond_true, cond_false]; done) | (exfalso; simp_all; done))⟩)
theorem info_Put_ok : EntryOk Dg Try.prog 13 info_Put_e := entry_pure Dg (by
  intro args r h
  unfold info_Put_e at h
  split at h
  · injection h with h; subst h
    exact ⟨rfl, rfl, fun _ E G w _ hS => info_Put_calls _ _ _ hS⟩
  · cases h)
def T_info_Put : List (Nat × Entry Sg) := (13, info_Put_e) :: T_info_right
theorem T_info_Put_ok : TableOk Dg Try.prog T_info_Put := TableOk.cons Dg info_Put_ok T_info_right_ok

/-- info.Get -/
def info_Get (v : Int) : Int × Int × Int × Bool := (bif half_Get (IntKind.wrap IntKind.u64 v) 20 44 != 0 || !info_right (IntKind.wrap IntKind.i64 (half_Get (IntKind.wrap IntKind.u64 v) 0 4)) (IntKind.wrap IntKind.i64 (half_Get (IntKind.wrap IntKind.u64 v) 4 12)) (IntKind.wrap IntKind.i64 (half_Get (IntKind.wrap IntKind.u64 v) 16 4)) then (0, 0, 0, false) else (IntKind.wrap IntKind.i64 (half_Get (IntKind.wrap IntKind.u64 v) 0 4), IntKind.wrap IntKind.i64 (half_Get (IntKind.wrap IntKind.u64 v) 4 12), IntKind.wrap IntKind.i64 (half_Get (IntKind.wrap IntKind.u64 v) 16 4), true))
def info_Get_e : Entry Sg := fun
  | [(.int .u32 v, _)] => some ⟨[], none, [], fun _ => .tuple #[.agg #[.int .i64 ((info_Get v).1), .int .i64 ((info_Get v).2.1), .int .i64 ((info_Get v).2.2.1)], .bool ((info_Get v).2.2.2)]⟩
  | _ => none
theorem info_Get_calls {E_ : World} {G_ : Hp} {w_ : World} (v : Int) (hS : Sat E_ G_ w_ []) : Calls Try.prog 26 #[.int .u32 v] w_ (fun en w' => en = .returned (.tuple #[.agg #[.int .i64 ((info_Get v).1), .int .i64 ((info_Get v).2.1), .int .i64 ((info_Get v).2.2.1)], .bool ((info_Get v).2.2.2)]) ∧ Sat E_ G_ w' []) :=
  calls_plain Dg T_info_Put_ok Try.func26 mix (B := bodyOf Try.f26) (by kernel_rfl) [(.int .u32 v)] (by kernel_rfl) hS 400
    (t := Tree.fresh fun b => Tree.fresh fun b_1 => Tree.br (half_Get (IntKind.wrap IntKind.u64 v) 20 44 != 0 || !info_right (IntKind.wrap IntKind.i64 (half_Get (IntKind.wrap IntKind.u64 v) 0 4)) (IntKind.wrap IntKind.i64 (half_Get (IntKind.wrap IntKind.u64 v) 4 12)) (IntKind.wrap IntKind.i64 (half_Get (IntKind.wrap IntKind.u64 v) 16 4))) (Tree.ret (Value.tuple { toList := [Value.agg { toList := [Value.int IntKind.i64 0, Value.int IntKind.i64 0, Value.int IntKind.i64 0] }, Value.bool false] }) [Chunk.cells b 23 [Value.int IntKind.i64 0, Value.int IntKind.i64 0, Value.int IntKind.i64 0], Chunk.cells b_1 23 [Value.int IntKind.i64 (IntKind.wrap IntKind.i64 (half_Get (IntKind.wrap IntKind.u64 v) 0 4)), Value.int IntKind.i64 (IntKind.wrap IntKind.i64 (half_Get (IntKind.wrap IntKind.u64 v) 4 12)), Value.int IntKind.i64 (IntKind.wrap IntKind.i64 (half_Get (IntKind.wrap IntKind.u64 v) 16 4))]]) (Tree.ret (Value.tuple { toList := [Value.agg { toList := [Value.int IntKind.i64 (IntKind.wrap IntKind.i64 (half_Get (IntKind.wrap IntKind.u64 v) 0 4)), Value.int IntKind.i64 (IntKind.wrap IntKind.i64 (half_Get (IntKind.wrap IntKind.u64 v) 4 12)), Value.int IntKind.i64 (IntKind.wrap IntKind.i64 (half_Get (IntKind.wrap IntKind.u64 v) 16 4))] }, Value.bool true] }) [Chunk.cells b 23 [Value.int IntKind.i64 (IntKind.wrap IntKind.i64 (half_Get (IntKind.wrap IntKind.u64 v) 0 4)), Value.int IntKind.i64 (IntKind.wrap IntKind.i64 (half_Get (IntKind.wrap IntKind.u64 v) 4 12)), Value.int IntKind.i64 (IntKind.wrap IntKind.i64 (half_Get (IntKind.wrap IntKind.u64 v) 16 4))], Chunk.cells b_1 23 [Value.int IntKind.i64 (IntKind.wrap IntKind.i64 (half_Get (IntKind.wrap IntKind.u64 v) 0 4)), Value.int IntKind.i64 (IntKind.wrap IntKind.i64 (half_Get (IntKind.wrap IntKind.u64 v) 4 12)), Value.int IntKind.i64 (IntKind.wrap IntKind.i64 (half_Get (IntKind.wrap IntKind.u64 v) 16 4))]]))
    (by kernel_rfl)
    (fun _ => fun _ => ⟨fun h1 => ret_ok (by first | (simp only [info_Get, h1, cond_true, cond_false]; done) | (exfalso; simp_all; done)), fun h1 => ret_ok (by first | (simp only [info_Get, h1, cond_true, cond_false]; done) | (exfalso; simp_all; done))⟩)
theorem info_Get_ok : EntryOk Dg Try.prog 26 info_Get_e := entry_pure Dg (by
  intro args r h
  unfold info_Get_e at h
  split at h
  · injection h with h; subst h
    exact ⟨rfl, rfl, fun _ E G w _ hS => info_Get_calls _ hS⟩
  · cases h)
def T_info_Get : List (Nat × Entry Sg) := (26, info_Get_e) :: T_info_Put
theorem T_info_Get_ok : TableOk Dg Try.prog T_info_Get := TableOk.cons Dg info_Get_ok T_info_Put_ok

/-- nacreref09.Right -/
def r09_Right (k : Int) (l : Int) (c : Int) : Bool := (bif k == 0 then l == 0 && c == 0 else (bif k == 1 then (bif k == 1 then decide (l ≥ 1) && decide (l ≤ 1024) && c == 0 else (bif k == 3 then l == 1 && decide (c ≥ 0) && decide (c ≤ 8) else false)) else (bif k == 2 then decide (l ≥ 1) && decide (l ≤ 1024) && c == 0 else (bif k == 3 then l == 1 && decide (c ≥ 0) && decide (c ≤ 8) else false))))
def r09_Right_e : Entry Sg := fun
  | [(.agg ⟨[.int .i64 k, .int .i64 l, .int .i64 c]⟩, _)] => some ⟨[], none, [], fun _ => .bool ((r09_Right k l c))⟩
  | _ => none
theorem r09_Right_calls {E_ : World} {G_ : Hp} {w_ : World} (k : Int) (l : Int) (c : Int) (hS : Sat E_ G_ w_ []) : Calls Try.prog 43 #[.agg #[.int .i64 k, .int .i64 l, .int .i64 c]] w_ (fun en w' => en = .returned (.bool ((r09_Right k l c))) ∧ Sat E_ G_ w' []) :=
  calls_plain Dg T_info_Get_ok Try.func43 mix (B := bodyOf Try.f43) (by kernel_rfl) [(.agg #[.int .i64 k, .int .i64 l, .int .i64 c])] (by kernel_rfl) hS 400
    (t := Tree.fresh fun b => Tree.br (k == 0) (Tree.ret (Value.bool (l == 0 && c == 0)) [Chunk.cells b 23 [Value.int IntKind.i64 k, Value.int IntKind.i64 l, Value.int IntKind.i64 c]]) (Tree.br (k == 1) (Tree.br (k == 1) (Tree.ret (Value.bool (decide (l ≥ 1) && decide (l ≤ 1024) && c == 0)) [Chunk.cells b 23 [Value.int IntKind.i64 k, Value.int IntKind.i64 l, Value.int IntKind.i64 c]]) (Tree.br (k == 3) (Tree.ret (Value.bool (l == 1 && decide (c ≥ 0) && decide (c ≤ 8))) [Chunk.cells b 23 [Value.int IntKind.i64 k, Value.int IntKind.i64 l, Value.int IntKind.i64 c]]) (Tree.ret (Value.bool false) [Chunk.cells b 23 [Value.int IntKind.i64 k, Value.int IntKind.i64 l, Value.int IntKind.i64 c]]))) (Tree.br (k == 2) (Tree.ret (Value.bool (decide (l ≥ 1) && decide (l ≤ 1024) && c == 0)) [Chunk.cells b 23 [Value.int IntKind.i64 k, Value.int IntKind.i64 l, Value.int IntKind.i64 c]]) (Tree.br (k == 3) (Tree.ret (Value.bool (l == 1 && decide (c ≥ 0) && decide (c ≤ 8))) [Chunk.cells b 23 [Value.int IntKind.i64 k, Value.int IntKind.i64 l, Value.int IntKind.i64 c]]) (Tree.ret (Value.bool false) [Chunk.cells b 23 [Value.int IntKind.i64 k, Value.int IntKind.i64 l, Value.int IntKind.i64 c]])))))
    (by kernel_rfl)
    (fun _ => ⟨fun h1 => ret_ok (by first | (simp only [r09_Right, h1, cond_true, cond_false]; done) | (exfalso; simp_all; done)), fun h1 => ⟨fun h2 => ⟨fun h3 => ret_ok (by first | (simp only [r09_Right, h1, h2, h3, cond_true, cond_false]; done) | (exfalso; simp_all; done)), fun h3 => ⟨fun h4 => ret_ok (by first | (simp only [r09_Right, h1, h2, h3, h4, cond_true, cond_false]; done) | (exfalso; simp_all; done)), fun h4 => ret_ok (by first | (simp only [r09_Right, h1, h2, h3, h4, cond_true, cond_false]; done) | (exfalso; simp_all; done))⟩⟩, fun h2 => ⟨fun h3 => ret_ok (by first | (simp only [r09_Right, h1, h2, h3, cond_true, cond_false]; done) | (exfalso; simp_all; done)), fun h3 => ⟨fun h4 => ret_ok (by first | (simp only [r09_Right, h1, h2, h3, h4, cond_true, cond_false]; done) | (exfalso; simp_all; done)), fun h4 => ret_ok (by first | (simp only [r09_Right, h1, h2, h3, h4, cond_true, cond_false]; done) | (exfalso; simp_all; done))⟩⟩⟩⟩)
theorem r09_Right_ok : EntryOk Dg Try.prog 43 r09_Right_e := entry_pure Dg (by
  intro args r h
  unfold r09_Right_e at h
  split at h
  · injection h with h; subst h
    exact ⟨rfl, rfl, fun _ E G w _ hS => r09_Right_calls _ _ _ hS⟩
  · cases h)
def T_r09_Right : List (Nat × Entry Sg) := (43, r09_Right_e) :: T_info_Get
theorem T_r09_Right_ok : TableOk Dg Try.prog T_r09_Right := TableOk.cons Dg r09_Right_ok T_info_Get_ok

/-- nacreref09.Put -/
def r09_Put (k : Int) (l : Int) (c : Int) : Int × Bool := (bif !r09_Right k l c then (0, false) else (IntKind.wrap IntKind.u32 (IntKind.wrap IntKind.i64 (IntKind.wrap IntKind.i64 (k + IntKind.wrap IntKind.i64 (16 * l)) + IntKind.wrap IntKind.i64 (65536 * c))), true))
def r09_Put_e : Entry Sg := fun
  | [(.agg ⟨[.int .i64 k, .int .i64 l, .int .i64 c]⟩, _)] => some ⟨[], none, [], fun _ => .tuple #[.int .u32 ((r09_Put k l c).1), .bool ((r09_Put k l c).2)]⟩
  | _ => none
theorem r09_Put_calls {E_ : World} {G_ : Hp} {w_ : World} (k : Int) (l : Int) (c : Int) (hS : Sat E_ G_ w_ []) : Calls Try.prog 14 #[.agg #[.int .i64 k, .int .i64 l, .int .i64 c]] w_ (fun en w' => en = .returned (.tuple #[.int .u32 ((r09_Put k l c).1), .bool ((r09_Put k l c).2)]) ∧ Sat E_ G_ w' []) :=
  calls_plain Dg T_r09_Right_ok Try.func14 mix (B := bodyOf Try.f14) (by kernel_rfl) [(.agg #[.int .i64 k, .int .i64 l, .int .i64 c])] (by kernel_rfl) hS 400
    (t := Tree.fresh fun b => Tree.br (!r09_Right k l c) (Tree.ret (Value.tuple { toList := [Value.int IntKind.u32 0, Value.bool false] }) [Chunk.cells b 23 [Value.int IntKind.i64 k, Value.int IntKind.i64 l, Value.int IntKind.i64 c]]) (Tree.ret (Value.tuple { toList := [Value.int IntKind.u32 (IntKind.wrap IntKind.u32 (IntKind.wrap IntKind.i64 (IntKind.wrap IntKind.i64 (k + IntKind.wrap IntKind.i64 (16 * l)) + IntKind.wrap IntKind.i64 (65536 * c)))), Value.bool true] }) [Chunk.cells b 23 [Value.int IntKind.i64 k, Value.int IntKind.i64 l, Value.int IntKind.i64 c]]))
    (by kernel_rfl)
    (fun _ => ⟨fun h1 => ret_ok (by first | (simp only [r09_Put, h1, cond_true, cond_false]; done) | (exfalso; simp_all; done)), fun h1 => ret_ok (by first | (simp only [r09_Put, h1, cond_true, cond_false]; done) | (exfalso; simp_all; done))⟩)
theorem r09_Put_ok : EntryOk Dg Try.prog 14 r09_Put_e := entry_pure Dg (by
  intro args r h
  unfold r09_Put_e at h
  split at h
  · injection h with h; subst h
    exact ⟨rfl, rfl, fun _ E G w _ hS => r09_Put_calls _ _ _ hS⟩
  · cases h)
def T_r09_Put : List (Nat × Entry Sg) := (14, r09_Put_e) :: T_r09_Right
theorem T_r09_Put_ok : TableOk Dg Try.prog T_r09_Put := TableOk.cons Dg r09_Put_ok T_r09_Right_ok

/-- nacreref09.Get -/
def r09_Get (v : Int) : Int × Int × Int × Bool := (bif !r09_Right (IntKind.wrap IntKind.i64 (Int.tmod v 16)) (IntKind.wrap IntKind.i64 (Int.tmod (IntKind.wrap IntKind.u32 (Int.tdiv v 16)) 4096)) (IntKind.wrap IntKind.i64 (IntKind.wrap IntKind.u32 (Int.tdiv v 65536))) then (0, 0, 0, false) else (IntKind.wrap IntKind.i64 (Int.tmod v 16), IntKind.wrap IntKind.i64 (Int.tmod (IntKind.wrap IntKind.u32 (Int.tdiv v 16)) 4096), IntKind.wrap IntKind.i64 (IntKind.wrap IntKind.u32 (Int.tdiv v 65536)), true))
def r09_Get_e : Entry Sg := fun
  | [(.int .u32 v, _)] => some ⟨[], none, [], fun _ => .tuple #[.agg #[.int .i64 ((r09_Get v).1), .int .i64 ((r09_Get v).2.1), .int .i64 ((r09_Get v).2.2.1)], .bool ((r09_Get v).2.2.2)]⟩
  | _ => none
theorem r09_Get_calls {E_ : World} {G_ : Hp} {w_ : World} (v : Int) (hS : Sat E_ G_ w_ []) : Calls Try.prog 27 #[.int .u32 v] w_ (fun en w' => en = .returned (.tuple #[.agg #[.int .i64 ((r09_Get v).1), .int .i64 ((r09_Get v).2.1), .int .i64 ((r09_Get v).2.2.1)], .bool ((r09_Get v).2.2.2)]) ∧ Sat E_ G_ w' []) :=
  calls_plain Dg T_r09_Put_ok Try.func27 mix (B := bodyOf Try.f27) (by kernel_rfl) [(.int .u32 v)] (by kernel_rfl) hS 400
    (t := Tree.fresh fun b => Tree.fresh fun b_1 => Tree.br (!r09_Right (IntKind.wrap IntKind.i64 (Int.tmod v 16)) (IntKind.wrap IntKind.i64 (Int.tmod (IntKind.wrap IntKind.u32 (Int.tdiv v 16)) 4096)) (IntKind.wrap IntKind.i64 (IntKind.wrap IntKind.u32 (Int.tdiv v 65536)))) (Tree.ret (Value.tuple { toList := [Value.agg { toList := [Value.int IntKind.i64 0, Value.int IntKind.i64 0, Value.int IntKind.i64 0] }, Value.bool false] }) [Chunk.cells b 23 [Value.int IntKind.i64 0, Value.int IntKind.i64 0, Value.int IntKind.i64 0], Chunk.cells b_1 23 [Value.int IntKind.i64 (IntKind.wrap IntKind.i64 (Int.tmod v 16)), Value.int IntKind.i64 (IntKind.wrap IntKind.i64 (Int.tmod (IntKind.wrap IntKind.u32 (Int.tdiv v 16)) 4096)), Value.int IntKind.i64 (IntKind.wrap IntKind.i64 (IntKind.wrap IntKind.u32 (Int.tdiv v 65536)))]]) (Tree.ret (Value.tuple { toList := [Value.agg { toList := [Value.int IntKind.i64 (IntKind.wrap IntKind.i64 (Int.tmod v 16)), Value.int IntKind.i64 (IntKind.wrap IntKind.i64 (Int.tmod (IntKind.wrap IntKind.u32 (Int.tdiv v 16)) 4096)), Value.int IntKind.i64 (IntKind.wrap IntKind.i64 (IntKind.wrap IntKind.u32 (Int.tdiv v 65536)))] }, Value.bool true] }) [Chunk.cells b 23 [Value.int IntKind.i64 (IntKind.wrap IntKind.i64 (Int.tmod v 16)), Value.int IntKind.i64 (IntKind.wrap IntKind.i64 (Int.tmod (IntKind.wrap IntKind.u32 (Int.tdiv v 16)) 4096)), Value.int IntKind.i64 (IntKind.wrap IntKind.i64 (IntKind.wrap IntKind.u32 (Int.tdiv v 65536)))], Chunk.cells b_1 23 [Value.int IntKind.i64 (IntKind.wrap IntKind.i64 (Int.tmod v 16)), Value.int IntKind.i64 (IntKind.wrap IntKind.i64 (Int.tmod (IntKind.wrap IntKind.u32 (Int.tdiv v 16)) 4096)), Value.int IntKind.i64 (IntKind.wrap IntKind.i64 (IntKind.wrap IntKind.u32 (Int.tdiv v 65536)))]]))
    (by kernel_rfl)
    (fun _ => fun _ => ⟨fun h1 => ret_ok (by first | (simp only [r09_Get, h1, cond_true, cond_false]; done) | (exfalso; simp_all; done)), fun h1 => ret_ok (by first | (simp only [r09_Get, h1, cond_true, cond_false]; done) | (exfalso; simp_all; done))⟩)
theorem r09_Get_ok : EntryOk Dg Try.prog 27 r09_Get_e := entry_pure Dg (by
  intro args r h
  unfold r09_Get_e at h
  split at h
  · injection h with h; subst h
    exact ⟨rfl, rfl, fun _ E G w _ hS => r09_Get_calls _ hS⟩
  · cases h)
def T_r09_Get : List (Nat × Entry Sg) := (27, r09_Get_e) :: T_r09_Put
theorem T_r09_Get_ok : TableOk Dg Try.prog T_r09_Get := TableOk.cons Dg r09_Get_ok T_r09_Put_ok

/-- nacrelaw09.live -/
def l09_live : Bool := Prod.snd (info_Put 1 4 0) && Prod.fst (info_Put 1 4 0) == 65 && Prod.snd (info_Put 3 1 2) && Prod.fst (info_Put 3 1 2) == 131091
def l09_live_e : Entry Sg := fun
  | [] => some ⟨[], none, [], fun _ => .bool (l09_live)⟩
  | _ => none
theorem l09_live_calls {E_ : World} {G_ : Hp} {w_ : World} (hS : Sat E_ G_ w_ []) : Calls Try.prog 15 #[] w_ (fun en w' => en = .returned (.bool (l09_live)) ∧ Sat E_ G_ w' []) :=
  calls_plain Dg T_r09_Get_ok Try.func15 mix (B := bodyOf Try.f15) (by kernel_rfl) [] (by kernel_rfl) hS 400
    (t := Tree.ret (Value.bool (Prod.snd (info_Put 1 4 0) && Prod.fst (info_Put 1 4 0) == 65 && Prod.snd (info_Put 3 1 2) && Prod.fst (info_Put 3 1 2) == 131091)) [])
    (by kernel_rfl)
    (ret_ok (by first | (simp only [l09_live, cond_true, cond_false]; done) | (exfalso; simp_all; done)))
theorem l09_live_ok : EntryOk Dg Try.prog 15 l09_live_e := entry_pure Dg (by
  intro args r h
  unfold l09_live_e at h
  split at h
  · injection h with h; subst h
    exact ⟨rfl, rfl, fun _ E G w _ hS => l09_live_calls hS⟩
  · cases h)
def T_l09_live : List (Nat × Entry Sg) := (15, l09_live_e) :: T_r09_Get
theorem T_l09_live_ok : TableOk Dg Try.prog T_l09_live := TableOk.cons Dg l09_live_ok T_r09_Get_ok

/-- nacrelaw09.InfoPuts -/
def InfoPuts (k : Int) (l : Int) (c : Int) : Bool := Prod.fst (info_Put k l c) == Prod.fst (r09_Put k l c) && Prod.snd (info_Put k l c) == Prod.snd (r09_Put k l c) && l09_live
def InfoPuts_e : Entry Sg := fun
  | [(.agg ⟨[.int .i64 k, .int .i64 l, .int .i64 c]⟩, _)] => some ⟨[], none, [], fun _ => .bool ((InfoPuts k l c))⟩
  | _ => none
theorem InfoPuts_calls {E_ : World} {G_ : Hp} {w_ : World} (k : Int) (l : Int) (c : Int) (hS : Sat E_ G_ w_ []) : Calls Try.prog 3 #[.agg #[.int .i64 k, .int .i64 l, .int .i64 c]] w_ (fun en w' => en = .returned (.bool ((InfoPuts k l c))) ∧ Sat E_ G_ w' []) :=
  calls_plain Dg T_l09_live_ok Try.func3 mix (B := bodyOf Try.f3) (by kernel_rfl) [(.agg #[.int .i64 k, .int .i64 l, .int .i64 c])] (by kernel_rfl) hS 400
    (t := Tree.fresh fun b => Tree.ret (Value.bool (Prod.fst (info_Put k l c) == Prod.fst (r09_Put k l c) && Prod.snd (info_Put k l c) == Prod.snd (r09_Put k l c) && l09_live)) [Chunk.cells b 23 [Value.int IntKind.i64 k, Value.int IntKind.i64 l, Value.int IntKind.i64 c]])
    (by kernel_rfl)
    (fun _ => ret_ok (by first | (simp only [InfoPuts, cond_true, cond_false]; done) | (exfalso; simp_all; done)))
theorem InfoPuts_ok : EntryOk Dg Try.prog 3 InfoPuts_e := entry_pure Dg (by
  intro args r h
  unfold InfoPuts_e at h
  split at h
  · injection h with h; subst h
    exact ⟨rfl, rfl, fun _ E G w _ hS => InfoPuts_calls _ _ _ hS⟩
  · cases h)
def T_InfoPuts : List (Nat × Entry Sg) := (3, InfoPuts_e) :: T_l09_live
theorem T_InfoPuts_ok : TableOk Dg Try.prog T_InfoPuts := TableOk.cons Dg InfoPuts_ok T_l09_live_ok

/-- nacrelaw09.InfoGets -/
def InfoGets (v : Int) : Bool := Prod.fst (info_Get v) == Prod.fst (r09_Get v) && (Prod.fst (Prod.snd (info_Get v)) == Prod.fst (Prod.snd (r09_Get v)) && (Prod.fst (Prod.snd (Prod.snd (info_Get v))) == Prod.fst (Prod.snd (Prod.snd (r09_Get v))) && true)) && Prod.snd (Prod.snd (Prod.snd (info_Get v))) == Prod.snd (Prod.snd (Prod.snd (r09_Get v))) && l09_live
def InfoGets_e : Entry Sg := fun
  | [(.int .u32 v, _)] => some ⟨[], none, [], fun _ => .bool ((InfoGets v))⟩
  | _ => none
theorem InfoGets_calls {E_ : World} {G_ : Hp} {w_ : World} (v : Int) (hS : Sat E_ G_ w_ []) : Calls Try.prog 7 #[.int .u32 v] w_ (fun en w' => en = .returned (.bool ((InfoGets v))) ∧ Sat E_ G_ w' []) :=
  calls_plain Dg T_InfoPuts_ok Try.func7 mix (B := bodyOf Try.f7) (by kernel_rfl) [(.int .u32 v)] (by kernel_rfl) hS 400
    (t := Tree.fresh fun b => Tree.fresh fun b_1 => Tree.ret (Value.bool (Prod.fst (info_Get v) == Prod.fst (r09_Get v) && (Prod.fst (Prod.snd (info_Get v)) == Prod.fst (Prod.snd (r09_Get v)) && (Prod.fst (Prod.snd (Prod.snd (info_Get v))) == Prod.fst (Prod.snd (Prod.snd (r09_Get v))) && true)) && Prod.snd (Prod.snd (Prod.snd (info_Get v))) == Prod.snd (Prod.snd (Prod.snd (r09_Get v))) && l09_live)) [Chunk.cells b 23 [Value.int IntKind.i64 (Prod.fst (info_Get v)), Value.int IntKind.i64 (Prod.fst (Prod.snd (info_Get v))), Value.int IntKind.i64 (Prod.fst (Prod.snd (Prod.snd (info_Get v))))], Chunk.cells b_1 23 [Value.int IntKind.i64 (Prod.fst (r09_Get v)), Value.int IntKind.i64 (Prod.fst (Prod.snd (r09_Get v))), Value.int IntKind.i64 (Prod.fst (Prod.snd (Prod.snd (r09_Get v))))]])
    (by kernel_rfl)
    (fun _ => fun _ => ret_ok (by first | (simp only [InfoGets, cond_true, cond_false]; done) | (exfalso; simp_all; done)))
theorem InfoGets_ok : EntryOk Dg Try.prog 7 InfoGets_e := entry_pure Dg (by
  intro args r h
  unfold InfoGets_e at h
  split at h
  · injection h with h; subst h
    exact ⟨rfl, rfl, fun _ E G w _ hS => InfoGets_calls _ hS⟩
  · cases h)
def T_InfoGets : List (Nat × Entry Sg) := (7, InfoGets_e) :: T_InfoPuts
theorem T_InfoGets_ok : TableOk Dg Try.prog T_InfoGets := TableOk.cons Dg InfoGets_ok T_InfoPuts_ok

/-- nacrelaw09.InfoBack -/
def InfoBack (k : Int) (l : Int) (c : Int) (v : Int) : Bool := (bif Prod.snd (info_Put k l c) then (bif !Prod.snd (Prod.snd (Prod.snd (info_Get (Prod.fst (info_Put k l c))))) || !(Prod.fst (info_Get (Prod.fst (info_Put k l c))) == k && (Prod.fst (Prod.snd (info_Get (Prod.fst (info_Put k l c)))) == l && (Prod.fst (Prod.snd (Prod.snd (info_Get (Prod.fst (info_Put k l c))))) == c && true))) then false else (bif Prod.snd (Prod.snd (Prod.snd (info_Get v))) then Prod.snd (info_Put (Prod.fst (info_Get v)) (Prod.fst (Prod.snd (info_Get v))) (Prod.fst (Prod.snd (Prod.snd (info_Get v))))) && Prod.fst (info_Put (Prod.fst (info_Get v)) (Prod.fst (Prod.snd (info_Get v))) (Prod.fst (Prod.snd (Prod.snd (info_Get v))))) == v && l09_live else Prod.fst (info_Get v) == 0 && (Prod.fst (Prod.snd (info_Get v)) == 0 && (Prod.fst (Prod.snd (Prod.snd (info_Get v))) == 0 && true)) && l09_live)) else (bif Prod.snd (Prod.snd (Prod.snd (info_Get v))) then Prod.snd (info_Put (Prod.fst (info_Get v)) (Prod.fst (Prod.snd (info_Get v))) (Prod.fst (Prod.snd (Prod.snd (info_Get v))))) && Prod.fst (info_Put (Prod.fst (info_Get v)) (Prod.fst (Prod.snd (info_Get v))) (Prod.fst (Prod.snd (Prod.snd (info_Get v))))) == v && l09_live else Prod.fst (info_Get v) == 0 && (Prod.fst (Prod.snd (info_Get v)) == 0 && (Prod.fst (Prod.snd (Prod.snd (info_Get v))) == 0 && true)) && l09_live))
def InfoBack_e : Entry Sg := fun
  | [(.agg ⟨[.int .i64 k, .int .i64 l, .int .i64 c]⟩, _), (.int .u32 v, _)] => some ⟨[], none, [], fun _ => .bool ((InfoBack k l c v))⟩
  | _ => none
theorem InfoBack_calls {E_ : World} {G_ : Hp} {w_ : World} (k : Int) (l : Int) (c : Int) (v : Int) (hS : Sat E_ G_ w_ []) : Calls Try.prog 8 #[.agg #[.int .i64 k, .int .i64 l, .int .i64 c], .int .u32 v] w_ (fun en w' => en = .returned (.bool ((InfoBack k l c v))) ∧ Sat E_ G_ w' []) :=
  calls_plain Dg T_InfoGets_ok Try.func8 mix (B := bodyOf Try.f8) (by kernel_rfl) [(.agg #[.int .i64 k, .int .i64 l, .int .i64 c]), (.int .u32 v)] (by kernel_rfl) hS 400
    (t := Tree.fresh fun b => Tree.br (Prod.snd (info_Put k l c)) (Tree.fresh fun b_1 => Tree.br (!Prod.snd (Prod.snd (Prod.snd (info_Get (Prod.fst (info_Put k l c))))) || !(Prod.fst (info_Get (Prod.fst (info_Put k l c))) == k && (Prod.fst (Prod.snd (info_Get (Prod.fst (info_Put k l c)))) == l && (Prod.fst (Prod.snd (Prod.snd (info_Get (Prod.fst (info_Put k l c))))) == c && true)))) (Tree.ret (Value.bool false) [Chunk.cells b 23 [Value.int IntKind.i64 k, Value.int IntKind.i64 l, Value.int IntKind.i64 c], Chunk.cells b_1 23 [Value.int IntKind.i64 (Prod.fst (info_Get (Prod.fst (info_Put k l c)))), Value.int IntKind.i64 (Prod.fst (Prod.snd (info_Get (Prod.fst (info_Put k l c))))), Value.int IntKind.i64 (Prod.fst (Prod.snd (Prod.snd (info_Get (Prod.fst (info_Put k l c))))))]]) (Tree.fresh fun b_2 => Tree.br (Prod.snd (Prod.snd (Prod.snd (info_Get v)))) (Tree.ret (Value.bool (Prod.snd (info_Put (Prod.fst (info_Get v)) (Prod.fst (Prod.snd (info_Get v))) (Prod.fst (Prod.snd (Prod.snd (info_Get v))))) && Prod.fst (info_Put (Prod.fst (info_Get v)) (Prod.fst (Prod.snd (info_Get v))) (Prod.fst (Prod.snd (Prod.snd (info_Get v))))) == v && l09_live)) [Chunk.cells b 23 [Value.int IntKind.i64 k, Value.int IntKind.i64 l, Value.int IntKind.i64 c], Chunk.cells b_1 23 [Value.int IntKind.i64 (Prod.fst (info_Get (Prod.fst (info_Put k l c)))), Value.int IntKind.i64 (Prod.fst (Prod.snd (info_Get (Prod.fst (info_Put k l c))))), Value.int IntKind.i64 (Prod.fst (Prod.snd (Prod.snd (info_Get (Prod.fst (info_Put k l c))))))], Chunk.cells b_2 23 [Value.int IntKind.i64 (Prod.fst (info_Get v)), Value.int IntKind.i64 (Prod.fst (Prod.snd (info_Get v))), Value.int IntKind.i64 (Prod.fst (Prod.snd (Prod.snd (info_Get v))))]]) (Tree.ret (Value.bool (Prod.fst (info_Get v) == 0 && (Prod.fst (Prod.snd (info_Get v)) == 0 && (Prod.fst (Prod.snd (Prod.snd (info_Get v))) == 0 && true)) && l09_live)) [Chunk.cells b 23 [Value.int IntKind.i64 k, Value.int IntKind.i64 l, Value.int IntKind.i64 c], Chunk.cells b_1 23 [Value.int IntKind.i64 (Prod.fst (info_Get (Prod.fst (info_Put k l c)))), Value.int IntKind.i64 (Prod.fst (Prod.snd (info_Get (Prod.fst (info_Put k l c))))), Value.int IntKind.i64 (Prod.fst (Prod.snd (Prod.snd (info_Get (Prod.fst (info_Put k l c))))))], Chunk.cells b_2 23 [Value.int IntKind.i64 (Prod.fst (info_Get v)), Value.int IntKind.i64 (Prod.fst (Prod.snd (info_Get v))), Value.int IntKind.i64 (Prod.fst (Prod.snd (Prod.snd (info_Get v))))]]))) (Tree.fresh fun b_1 => Tree.br (Prod.snd (Prod.snd (Prod.snd (info_Get v)))) (Tree.ret (Value.bool (Prod.snd (info_Put (Prod.fst (info_Get v)) (Prod.fst (Prod.snd (info_Get v))) (Prod.fst (Prod.snd (Prod.snd (info_Get v))))) && Prod.fst (info_Put (Prod.fst (info_Get v)) (Prod.fst (Prod.snd (info_Get v))) (Prod.fst (Prod.snd (Prod.snd (info_Get v))))) == v && l09_live)) [Chunk.cells b 23 [Value.int IntKind.i64 k, Value.int IntKind.i64 l, Value.int IntKind.i64 c], Chunk.cells b_1 23 [Value.int IntKind.i64 (Prod.fst (info_Get v)), Value.int IntKind.i64 (Prod.fst (Prod.snd (info_Get v))), Value.int IntKind.i64 (Prod.fst (Prod.snd (Prod.snd (info_Get v))))]]) (Tree.ret (Value.bool (Prod.fst (info_Get v) == 0 && (Prod.fst (Prod.snd (info_Get v)) == 0 && (Prod.fst (Prod.snd (Prod.snd (info_Get v))) == 0 && true)) && l09_live)) [Chunk.cells b 23 [Value.int IntKind.i64 k, Value.int IntKind.i64 l, Value.int IntKind.i64 c], Chunk.cells b_1 23 [Value.int IntKind.i64 (Prod.fst (info_Get v)), Value.int IntKind.i64 (Prod.fst (Prod.snd (info_Get v))), Value.int IntKind.i64 (Prod.fst (Prod.snd (Prod.snd (info_Get v))))]])))
    (by kernel_rfl)
    (fun _ => ⟨fun h1 => fun _ => ⟨fun h2 => ret_ok (by first | (simp only [InfoBack, h1, h2, cond_true, cond_false]; done) | (exfalso; simp_all; done)), fun h2 => fun _ => ⟨fun h3 => ret_ok (by first | (simp only [InfoBack, h1, h2, h3, cond_true, cond_false]; done) | (exfalso; simp_all; done)), fun h3 => ret_ok (by first | (simp only [InfoBack, h1, h2, h3, cond_true, cond_false]; done) | (exfalso; simp_all; done))⟩⟩, fun h1 => fun _ => ⟨fun h2 => ret_ok (by first | (simp only [InfoBack, h1, h2, cond_true, cond_false]; done) | (exfalso; simp_all; done)), fun h2 => ret_ok (by first | (simp only [InfoBack, h1, h2, cond_true, cond_false]; done) | (exfalso; simp_all; done))⟩⟩)
theorem InfoBack_ok : EntryOk Dg Try.prog 8 InfoBack_e := entry_pure Dg (by
  intro args r h
  unfold InfoBack_e at h
  split at h
  · injection h with h; subst h
    exact ⟨rfl, rfl, fun _ E G w _ hS => InfoBack_calls _ _ _ _ hS⟩
  · cases h)
def T_InfoBack : List (Nat × Entry Sg) := (8, InfoBack_e) :: T_InfoGets
theorem T_InfoBack_ok : TableOk Dg Try.prog T_InfoBack := TableOk.cons Dg InfoBack_ok T_InfoGets_ok
end Go.Proofs.Ytaenbinoejnecaa

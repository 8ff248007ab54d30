/-
  DERIVED. What functions of the program compute, read off their bodies by the machine of SlB, and that it is so. Printed by a program of this claim's own (wip/gen/gen2.py).
-/
import Derived.Test.YtaenbinoejnecaaSlHd
import Derived.Test.YtaenbinoejnecaaPlNum
namespace Go.Proofs.Ytaenbinoejnecaa
open Go.Sl
set_option linter.unusedSimpArgs false
set_option linter.unusedVariables false

/-- class.slots -/
def class_slots : Int × Int × Int × Int × Int × Int × Int × Int × Int := ((32 : Int), (21 : Int), (16 : Int), (10 : Int), (8 : Int), (5 : Int), (4 : Int), (3 : Int), (2 : Int))
def class_slots_out (r_ : Int × Int × Int × Int × Int × Int × Int × Int × Int) : List Value → Value := fun ss => .agg #[.int .i64 (r_.1), .int .i64 (r_.2.1), .int .i64 (r_.2.2.1), .int .i64 (r_.2.2.2.1), .int .i64 (r_.2.2.2.2.1), .int .i64 (r_.2.2.2.2.2.1), .int .i64 (r_.2.2.2.2.2.2.1), .int .i64 (r_.2.2.2.2.2.2.2.1), .int .i64 (r_.2.2.2.2.2.2.2.2)]
def class_slots_nw (r_ : Int × Int × Int × Int × Int × Int × Int × Int × Int) : List (Chunk Sg) := []
def class_slots_rows (r_ : Int × Int × Int × Int × Int × Int × Int × Int × Int) : List (TypeId × List Col) := []
theorem class_slots_calls {E_ : World} {G_ : Hp} {w_ : World} (hS : Sat E_ G_ w_ []) : Calls Try.prog 44 #[] w_ (Post Dg E_ G_ (class_slots_out class_slots) (class_slots_nw class_slots) (class_slots_rows class_slots)) :=
  calls_post Dg T_nil_ok Try.func44 mix (B := bodyOf Try.f44) (by kernel_rfl) [] [] (by kernel_rfl) (objs := []) (ros := []) (psOk_nil) (by kernel_rfl) (trivial) hS 400
    (t := Tree.fresh fun b => Tree.ret (Value.agg { toList := [Value.int IntKind.i64 (32 : Int), Value.int IntKind.i64 (21 : Int), Value.int IntKind.i64 (16 : Int), Value.int IntKind.i64 (10 : Int), Value.int IntKind.i64 (8 : Int), Value.int IntKind.i64 (5 : Int), Value.int IntKind.i64 (4 : Int), Value.int IntKind.i64 (3 : Int), Value.int IntKind.i64 (2 : Int)] }) [Chunk.cells b 61 [(Value.int IntKind.i64 (32 : Int), Pr.no), (Value.int IntKind.i64 (21 : Int), Pr.no), (Value.int IntKind.i64 (16 : Int), Pr.no), (Value.int IntKind.i64 (10 : Int), Pr.no), (Value.int IntKind.i64 (8 : Int), Pr.no), (Value.int IntKind.i64 (5 : Int), Pr.no), (Value.int IntKind.i64 (4 : Int), Pr.no), (Value.int IntKind.i64 (3 : Int), Pr.no), (Value.int IntKind.i64 (2 : Int), Pr.no)]])
    (by kernel_rfl)
    (fun b0_0 => RetOk.at (outf := class_slots_out) (nwf := class_slots_nw) (rowsf := class_slots_rows) (r := ((32 : Int), (21 : Int), (16 : Int), (10 : Int), (8 : Int), (5 : Int), (4 : Int), (3 : Int), (2 : Int))) (by first | exact Eq.symm rfl | (simp only [class_slots, cond_true, cond_false]; done) | (exfalso; simp_all; done) | decide) ⟨[], [], (by decide), rfl, rfl, trivial⟩)
def class_slots_e : Entry Sg := fun
  | [] => some ⟨[], none, rowsR [], fun ss => .agg #[.int .i64 (class_slots.1), .int .i64 (class_slots.2.1), .int .i64 (class_slots.2.2.1), .int .i64 (class_slots.2.2.2.1), .int .i64 (class_slots.2.2.2.2.1), .int .i64 (class_slots.2.2.2.2.2.1), .int .i64 (class_slots.2.2.2.2.2.2.1), .int .i64 (class_slots.2.2.2.2.2.2.2.1), .int .i64 (class_slots.2.2.2.2.2.2.2.2)], fun k_ => .no⟩
  | _ => none
theorem class_slots_ok : EntryOk Dg Try.prog 44 class_slots_e := by
  intro args r h
  unfold class_slots_e at h
  split at h
  · injection h with h; subst h
    refine ⟨fun K acs _ => pOk_no, fun hpre E G w hi hS => ?_⟩
    exact entry_post Dg (nw := []) rfl (class_slots_calls  hS)
  · cases h
def T_class_slots : List (Nat × Entry Sg) := (44, class_slots_e) :: T_nil
theorem T_class_slots_ok : TableOk Dg Try.prog T_class_slots := TableOk.cons Dg class_slots_ok T_nil_ok

/-- class.Slots -/
def class_Slots (k : Int) : Int := bif decide (k < 0) || decide (k ≥ 9) then 0 else [32, 21, 16, 10, 8, 5, 4, 3, 2].getD k.toNat 0
def class_Slots_out (r_ : Int) : List Value → Value := fun ss => .int .i64 (r_)
def class_Slots_nw (r_ : Int) : List (Chunk Sg) := []
def class_Slots_rows (r_ : Int) : List (TypeId × List Col) := []
theorem class_Slots_c0 {E_ : World} {G_ : Hp} {w_ : World}  (hS : Sat E_ G_ w_ []) : Calls Try.prog 16 #[(.int .i64 (0))] w_ (Post Dg E_ G_ (class_Slots_out (class_Slots (0))) (class_Slots_nw (class_Slots (0))) (class_Slots_rows (class_Slots (0)))) :=
  calls_post Dg T_class_slots_ok Try.func16 mix (B := bodyOf Try.f16) (by kernel_rfl) [(.int .i64 (0))] [.no] (by kernel_rfl) (objs := []) (ros := []) (psOk_cons pOk_no (psOk_nil)) (by kernel_rfl) (trivial) hS 400
    (t := Tree.fresh fun b => Tree.br false (Tree.ret (Value.int IntKind.i64 (0 : Int)) [Chunk.cells b 61 [(Value.int IntKind.i64 (Prod.fst class_slots), Pr.no), (Value.int IntKind.i64 (Prod.fst (Prod.snd class_slots)), Pr.no), (Value.int IntKind.i64 (Prod.fst (Prod.snd (Prod.snd class_slots))), Pr.no), (Value.int IntKind.i64 (Prod.fst (Prod.snd (Prod.snd (Prod.snd class_slots)))), Pr.no), (Value.int IntKind.i64 (Prod.fst (Prod.snd (Prod.snd (Prod.snd (Prod.snd class_slots))))), Pr.no), (Value.int IntKind.i64 (Prod.fst (Prod.snd (Prod.snd (Prod.snd (Prod.snd (Prod.snd class_slots)))))), Pr.no), (Value.int IntKind.i64 (Prod.fst (Prod.snd (Prod.snd (Prod.snd (Prod.snd (Prod.snd (Prod.snd class_slots))))))), Pr.no), (Value.int IntKind.i64 (Prod.fst (Prod.snd (Prod.snd (Prod.snd (Prod.snd (Prod.snd (Prod.snd (Prod.snd class_slots)))))))), Pr.no), (Value.int IntKind.i64 (Prod.snd (Prod.snd (Prod.snd (Prod.snd (Prod.snd (Prod.snd (Prod.snd (Prod.snd class_slots)))))))), Pr.no)]]) (Tree.need ((0 : Int) ≤ (0 : Int) ∧ (0 : Int) < (↑9 : Int)) (Tree.ret (Value.int IntKind.i64 (Prod.fst class_slots)) [Chunk.cells b 61 [(Value.int IntKind.i64 (Prod.fst class_slots), Pr.no), (Value.int IntKind.i64 (Prod.fst (Prod.snd class_slots)), Pr.no), (Value.int IntKind.i64 (Prod.fst (Prod.snd (Prod.snd class_slots))), Pr.no), (Value.int IntKind.i64 (Prod.fst (Prod.snd (Prod.snd (Prod.snd class_slots)))), Pr.no), (Value.int IntKind.i64 (Prod.fst (Prod.snd (Prod.snd (Prod.snd (Prod.snd class_slots))))), Pr.no), (Value.int IntKind.i64 (Prod.fst (Prod.snd (Prod.snd (Prod.snd (Prod.snd (Prod.snd class_slots)))))), Pr.no), (Value.int IntKind.i64 (Prod.fst (Prod.snd (Prod.snd (Prod.snd (Prod.snd (Prod.snd (Prod.snd class_slots))))))), Pr.no), (Value.int IntKind.i64 (Prod.fst (Prod.snd (Prod.snd (Prod.snd (Prod.snd (Prod.snd (Prod.snd (Prod.snd class_slots)))))))), Pr.no), (Value.int IntKind.i64 (Prod.snd (Prod.snd (Prod.snd (Prod.snd (Prod.snd (Prod.snd (Prod.snd (Prod.snd class_slots)))))))), Pr.no)]])))
    (by kernel_rfl)
    (fun b0_0 => ⟨fun z1 => RetOk.at (outf := class_Slots_out) (nwf := class_Slots_nw) (rowsf := class_Slots_rows) (r := (0 : Int)) (by first | exact Eq.symm ((cT z1).trans rfl) | (simp only [class_Slots, z1, cond_true, cond_false]; done) | (exfalso; simp_all; done) | decide) ⟨[], [], (by decide), rfl, rfl, trivial⟩, fun z1 => ⟨by decide, fun y2 => RetOk.at (outf := class_Slots_out) (nwf := class_Slots_nw) (rowsf := class_Slots_rows) (r := Prod.fst class_slots) (by first | exact Eq.symm ((cF z1).trans rfl) | (simp only [class_Slots, z1, cond_true, cond_false]; done) | (exfalso; simp_all; done) | decide) ⟨[], [], (by decide), rfl, rfl, trivial⟩⟩⟩)
theorem class_Slots_c1 {E_ : World} {G_ : Hp} {w_ : World}  (hS : Sat E_ G_ w_ []) : Calls Try.prog 16 #[(.int .i64 (1))] w_ (Post Dg E_ G_ (class_Slots_out (class_Slots (1))) (class_Slots_nw (class_Slots (1))) (class_Slots_rows (class_Slots (1)))) :=
  calls_post Dg T_class_slots_ok Try.func16 mix (B := bodyOf Try.f16) (by kernel_rfl) [(.int .i64 (1))] [.no] (by kernel_rfl) (objs := []) (ros := []) (psOk_cons pOk_no (psOk_nil)) (by kernel_rfl) (trivial) hS 400
    (t := Tree.fresh fun b => Tree.br false (Tree.ret (Value.int IntKind.i64 (0 : Int)) [Chunk.cells b 61 [(Value.int IntKind.i64 (Prod.fst class_slots), Pr.no), (Value.int IntKind.i64 (Prod.fst (Prod.snd class_slots)), Pr.no), (Value.int IntKind.i64 (Prod.fst (Prod.snd (Prod.snd class_slots))), Pr.no), (Value.int IntKind.i64 (Prod.fst (Prod.snd (Prod.snd (Prod.snd class_slots)))), Pr.no), (Value.int IntKind.i64 (Prod.fst (Prod.snd (Prod.snd (Prod.snd (Prod.snd class_slots))))), Pr.no), (Value.int IntKind.i64 (Prod.fst (Prod.snd (Prod.snd (Prod.snd (Prod.snd (Prod.snd class_slots)))))), Pr.no), (Value.int IntKind.i64 (Prod.fst (Prod.snd (Prod.snd (Prod.snd (Prod.snd (Prod.snd (Prod.snd class_slots))))))), Pr.no), (Value.int IntKind.i64 (Prod.fst (Prod.snd (Prod.snd (Prod.snd (Prod.snd (Prod.snd (Prod.snd (Prod.snd class_slots)))))))), Pr.no), (Value.int IntKind.i64 (Prod.snd (Prod.snd (Prod.snd (Prod.snd (Prod.snd (Prod.snd (Prod.snd (Prod.snd class_slots)))))))), Pr.no)]]) (Tree.need ((0 : Int) ≤ (1 : Int) ∧ (1 : Int) < (↑9 : Int)) (Tree.ret (Value.int IntKind.i64 (Prod.fst (Prod.snd class_slots))) [Chunk.cells b 61 [(Value.int IntKind.i64 (Prod.fst class_slots), Pr.no), (Value.int IntKind.i64 (Prod.fst (Prod.snd class_slots)), Pr.no), (Value.int IntKind.i64 (Prod.fst (Prod.snd (Prod.snd class_slots))), Pr.no), (Value.int IntKind.i64 (Prod.fst (Prod.snd (Prod.snd (Prod.snd class_slots)))), Pr.no), (Value.int IntKind.i64 (Prod.fst (Prod.snd (Prod.snd (Prod.snd (Prod.snd class_slots))))), Pr.no), (Value.int IntKind.i64 (Prod.fst (Prod.snd (Prod.snd (Prod.snd (Prod.snd (Prod.snd class_slots)))))), Pr.no), (Value.int IntKind.i64 (Prod.fst (Prod.snd (Prod.snd (Prod.snd (Prod.snd (Prod.snd (Prod.snd class_slots))))))), Pr.no), (Value.int IntKind.i64 (Prod.fst (Prod.snd (Prod.snd (Prod.snd (Prod.snd (Prod.snd (Prod.snd (Prod.snd class_slots)))))))), Pr.no), (Value.int IntKind.i64 (Prod.snd (Prod.snd (Prod.snd (Prod.snd (Prod.snd (Prod.snd (Prod.snd (Prod.snd class_slots)))))))), Pr.no)]])))
    (by kernel_rfl)
    (fun b0_0 => ⟨fun z1 => RetOk.at (outf := class_Slots_out) (nwf := class_Slots_nw) (rowsf := class_Slots_rows) (r := (0 : Int)) (by first | exact Eq.symm ((cT z1).trans rfl) | (simp only [class_Slots, z1, cond_true, cond_false]; done) | (exfalso; simp_all; done) | decide) ⟨[], [], (by decide), rfl, rfl, trivial⟩, fun z1 => ⟨by decide, fun y2 => RetOk.at (outf := class_Slots_out) (nwf := class_Slots_nw) (rowsf := class_Slots_rows) (r := Prod.fst (Prod.snd class_slots)) (by first | exact Eq.symm ((cF z1).trans rfl) | (simp only [class_Slots, z1, cond_true, cond_false]; done) | (exfalso; simp_all; done) | decide) ⟨[], [], (by decide), rfl, rfl, trivial⟩⟩⟩)
theorem class_Slots_c2 {E_ : World} {G_ : Hp} {w_ : World}  (hS : Sat E_ G_ w_ []) : Calls Try.prog 16 #[(.int .i64 (2))] w_ (Post Dg E_ G_ (class_Slots_out (class_Slots (2))) (class_Slots_nw (class_Slots (2))) (class_Slots_rows (class_Slots (2)))) :=
  calls_post Dg T_class_slots_ok Try.func16 mix (B := bodyOf Try.f16) (by kernel_rfl) [(.int .i64 (2))] [.no] (by kernel_rfl) (objs := []) (ros := []) (psOk_cons pOk_no (psOk_nil)) (by kernel_rfl) (trivial) hS 400
    (t := Tree.fresh fun b => Tree.br false (Tree.ret (Value.int IntKind.i64 (0 : Int)) [Chunk.cells b 61 [(Value.int IntKind.i64 (Prod.fst class_slots), Pr.no), (Value.int IntKind.i64 (Prod.fst (Prod.snd class_slots)), Pr.no), (Value.int IntKind.i64 (Prod.fst (Prod.snd (Prod.snd class_slots))), Pr.no), (Value.int IntKind.i64 (Prod.fst (Prod.snd (Prod.snd (Prod.snd class_slots)))), Pr.no), (Value.int IntKind.i64 (Prod.fst (Prod.snd (Prod.snd (Prod.snd (Prod.snd class_slots))))), Pr.no), (Value.int IntKind.i64 (Prod.fst (Prod.snd (Prod.snd (Prod.snd (Prod.snd (Prod.snd class_slots)))))), Pr.no), (Value.int IntKind.i64 (Prod.fst (Prod.snd (Prod.snd (Prod.snd (Prod.snd (Prod.snd (Prod.snd class_slots))))))), Pr.no), (Value.int IntKind.i64 (Prod.fst (Prod.snd (Prod.snd (Prod.snd (Prod.snd (Prod.snd (Prod.snd (Prod.snd class_slots)))))))), Pr.no), (Value.int IntKind.i64 (Prod.snd (Prod.snd (Prod.snd (Prod.snd (Prod.snd (Prod.snd (Prod.snd (Prod.snd class_slots)))))))), Pr.no)]]) (Tree.need ((0 : Int) ≤ (2 : Int) ∧ (2 : Int) < (↑9 : Int)) (Tree.ret (Value.int IntKind.i64 (Prod.fst (Prod.snd (Prod.snd class_slots)))) [Chunk.cells b 61 [(Value.int IntKind.i64 (Prod.fst class_slots), Pr.no), (Value.int IntKind.i64 (Prod.fst (Prod.snd class_slots)), Pr.no), (Value.int IntKind.i64 (Prod.fst (Prod.snd (Prod.snd class_slots))), Pr.no), (Value.int IntKind.i64 (Prod.fst (Prod.snd (Prod.snd (Prod.snd class_slots)))), Pr.no), (Value.int IntKind.i64 (Prod.fst (Prod.snd (Prod.snd (Prod.snd (Prod.snd class_slots))))), Pr.no), (Value.int IntKind.i64 (Prod.fst (Prod.snd (Prod.snd (Prod.snd (Prod.snd (Prod.snd class_slots)))))), Pr.no), (Value.int IntKind.i64 (Prod.fst (Prod.snd (Prod.snd (Prod.snd (Prod.snd (Prod.snd (Prod.snd class_slots))))))), Pr.no), (Value.int IntKind.i64 (Prod.fst (Prod.snd (Prod.snd (Prod.snd (Prod.snd (Prod.snd (Prod.snd (Prod.snd class_slots)))))))), Pr.no), (Value.int IntKind.i64 (Prod.snd (Prod.snd (Prod.snd (Prod.snd (Prod.snd (Prod.snd (Prod.snd (Prod.snd class_slots)))))))), Pr.no)]])))
    (by kernel_rfl)
    (fun b0_0 => ⟨fun z1 => RetOk.at (outf := class_Slots_out) (nwf := class_Slots_nw) (rowsf := class_Slots_rows) (r := (0 : Int)) (by first | exact Eq.symm ((cT z1).trans rfl) | (simp only [class_Slots, z1, cond_true, cond_false]; done) | (exfalso; simp_all; done) | decide) ⟨[], [], (by decide), rfl, rfl, trivial⟩, fun z1 => ⟨by decide, fun y2 => RetOk.at (outf := class_Slots_out) (nwf := class_Slots_nw) (rowsf := class_Slots_rows) (r := Prod.fst (Prod.snd (Prod.snd class_slots))) (by first | exact Eq.symm ((cF z1).trans rfl) | (simp only [class_Slots, z1, cond_true, cond_false]; done) | (exfalso; simp_all; done) | decide) ⟨[], [], (by decide), rfl, rfl, trivial⟩⟩⟩)
theorem class_Slots_c3 {E_ : World} {G_ : Hp} {w_ : World}  (hS : Sat E_ G_ w_ []) : Calls Try.prog 16 #[(.int .i64 (3))] w_ (Post Dg E_ G_ (class_Slots_out (class_Slots (3))) (class_Slots_nw (class_Slots (3))) (class_Slots_rows (class_Slots (3)))) :=
  calls_post Dg T_class_slots_ok Try.func16 mix (B := bodyOf Try.f16) (by kernel_rfl) [(.int .i64 (3))] [.no] (by kernel_rfl) (objs := []) (ros := []) (psOk_cons pOk_no (psOk_nil)) (by kernel_rfl) (trivial) hS 400
    (t := Tree.fresh fun b => Tree.br false (Tree.ret (Value.int IntKind.i64 (0 : Int)) [Chunk.cells b 61 [(Value.int IntKind.i64 (Prod.fst class_slots), Pr.no), (Value.int IntKind.i64 (Prod.fst (Prod.snd class_slots)), Pr.no), (Value.int IntKind.i64 (Prod.fst (Prod.snd (Prod.snd class_slots))), Pr.no), (Value.int IntKind.i64 (Prod.fst (Prod.snd (Prod.snd (Prod.snd class_slots)))), Pr.no), (Value.int IntKind.i64 (Prod.fst (Prod.snd (Prod.snd (Prod.snd (Prod.snd class_slots))))), Pr.no), (Value.int IntKind.i64 (Prod.fst (Prod.snd (Prod.snd (Prod.snd (Prod.snd (Prod.snd class_slots)))))), Pr.no), (Value.int IntKind.i64 (Prod.fst (Prod.snd (Prod.snd (Prod.snd (Prod.snd (Prod.snd (Prod.snd class_slots))))))), Pr.no), (Value.int IntKind.i64 (Prod.fst (Prod.snd (Prod.snd (Prod.snd (Prod.snd (Prod.snd (Prod.snd (Prod.snd class_slots)))))))), Pr.no), (Value.int IntKind.i64 (Prod.snd (Prod.snd (Prod.snd (Prod.snd (Prod.snd (Prod.snd (Prod.snd (Prod.snd class_slots)))))))), Pr.no)]]) (Tree.need ((0 : Int) ≤ (3 : Int) ∧ (3 : Int) < (↑9 : Int)) (Tree.ret (Value.int IntKind.i64 (Prod.fst (Prod.snd (Prod.snd (Prod.snd class_slots))))) [Chunk.cells b 61 [(Value.int IntKind.i64 (Prod.fst class_slots), Pr.no), (Value.int IntKind.i64 (Prod.fst (Prod.snd class_slots)), Pr.no), (Value.int IntKind.i64 (Prod.fst (Prod.snd (Prod.snd class_slots))), Pr.no), (Value.int IntKind.i64 (Prod.fst (Prod.snd (Prod.snd (Prod.snd class_slots)))), Pr.no), (Value.int IntKind.i64 (Prod.fst (Prod.snd (Prod.snd (Prod.snd (Prod.snd class_slots))))), Pr.no), (Value.int IntKind.i64 (Prod.fst (Prod.snd (Prod.snd (Prod.snd (Prod.snd (Prod.snd class_slots)))))), Pr.no), (Value.int IntKind.i64 (Prod.fst (Prod.snd (Prod.snd (Prod.snd (Prod.snd (Prod.snd (Prod.snd class_slots))))))), Pr.no), (Value.int IntKind.i64 (Prod.fst (Prod.snd (Prod.snd (Prod.snd (Prod.snd (Prod.snd (Prod.snd (Prod.snd class_slots)))))))), Pr.no), (Value.int IntKind.i64 (Prod.snd (Prod.snd (Prod.snd (Prod.snd (Prod.snd (Prod.snd (Prod.snd (Prod.snd class_slots)))))))), Pr.no)]])))
    (by kernel_rfl)
    (fun b0_0 => ⟨fun z1 => RetOk.at (outf := class_Slots_out) (nwf := class_Slots_nw) (rowsf := class_Slots_rows) (r := (0 : Int)) (by first | exact Eq.symm ((cT z1).trans rfl) | (simp only [class_Slots, z1, cond_true, cond_false]; done) | (exfalso; simp_all; done) | decide) ⟨[], [], (by decide), rfl, rfl, trivial⟩, fun z1 => ⟨by decide, fun y2 => RetOk.at (outf := class_Slots_out) (nwf := class_Slots_nw) (rowsf := class_Slots_rows) (r := Prod.fst (Prod.snd (Prod.snd (Prod.snd class_slots)))) (by first | exact Eq.symm ((cF z1).trans rfl) | (simp only [class_Slots, z1, cond_true, cond_false]; done) | (exfalso; simp_all; done) | decide) ⟨[], [], (by decide), rfl, rfl, trivial⟩⟩⟩)
theorem class_Slots_c4 {E_ : World} {G_ : Hp} {w_ : World}  (hS : Sat E_ G_ w_ []) : Calls Try.prog 16 #[(.int .i64 (4))] w_ (Post Dg E_ G_ (class_Slots_out (class_Slots (4))) (class_Slots_nw (class_Slots (4))) (class_Slots_rows (class_Slots (4)))) :=
  calls_post Dg T_class_slots_ok Try.func16 mix (B := bodyOf Try.f16) (by kernel_rfl) [(.int .i64 (4))] [.no] (by kernel_rfl) (objs := []) (ros := []) (psOk_cons pOk_no (psOk_nil)) (by kernel_rfl) (trivial) hS 400
    (t := Tree.fresh fun b => Tree.br false (Tree.ret (Value.int IntKind.i64 (0 : Int)) [Chunk.cells b 61 [(Value.int IntKind.i64 (Prod.fst class_slots), Pr.no), (Value.int IntKind.i64 (Prod.fst (Prod.snd class_slots)), Pr.no), (Value.int IntKind.i64 (Prod.fst (Prod.snd (Prod.snd class_slots))), Pr.no), (Value.int IntKind.i64 (Prod.fst (Prod.snd (Prod.snd (Prod.snd class_slots)))), Pr.no), (Value.int IntKind.i64 (Prod.fst (Prod.snd (Prod.snd (Prod.snd (Prod.snd class_slots))))), Pr.no), (Value.int IntKind.i64 (Prod.fst (Prod.snd (Prod.snd (Prod.snd (Prod.snd (Prod.snd class_slots)))))), Pr.no), (Value.int IntKind.i64 (Prod.fst (Prod.snd (Prod.snd (Prod.snd (Prod.snd (Prod.snd (Prod.snd class_slots))))))), Pr.no), (Value.int IntKind.i64 (Prod.fst (Prod.snd (Prod.snd (Prod.snd (Prod.snd (Prod.snd (Prod.snd (Prod.snd class_slots)))))))), Pr.no), (Value.int IntKind.i64 (Prod.snd (Prod.snd (Prod.snd (Prod.snd (Prod.snd (Prod.snd (Prod.snd (Prod.snd class_slots)))))))), Pr.no)]]) (Tree.need ((0 : Int) ≤ (4 : Int) ∧ (4 : Int) < (↑9 : Int)) (Tree.ret (Value.int IntKind.i64 (Prod.fst (Prod.snd (Prod.snd (Prod.snd (Prod.snd class_slots)))))) [Chunk.cells b 61 [(Value.int IntKind.i64 (Prod.fst class_slots), Pr.no), (Value.int IntKind.i64 (Prod.fst (Prod.snd class_slots)), Pr.no), (Value.int IntKind.i64 (Prod.fst (Prod.snd (Prod.snd class_slots))), Pr.no), (Value.int IntKind.i64 (Prod.fst (Prod.snd (Prod.snd (Prod.snd class_slots)))), Pr.no), (Value.int IntKind.i64 (Prod.fst (Prod.snd (Prod.snd (Prod.snd (Prod.snd class_slots))))), Pr.no), (Value.int IntKind.i64 (Prod.fst (Prod.snd (Prod.snd (Prod.snd (Prod.snd (Prod.snd class_slots)))))), Pr.no), (Value.int IntKind.i64 (Prod.fst (Prod.snd (Prod.snd (Prod.snd (Prod.snd (Prod.snd (Prod.snd class_slots))))))), Pr.no), (Value.int IntKind.i64 (Prod.fst (Prod.snd (Prod.snd (Prod.snd (Prod.snd (Prod.snd (Prod.snd (Prod.snd class_slots)))))))), Pr.no), (Value.int IntKind.i64 (Prod.snd (Prod.snd (Prod.snd (Prod.snd (Prod.snd (Prod.snd (Prod.snd (Prod.snd class_slots)))))))), Pr.no)]])))
    (by kernel_rfl)
    (fun b0_0 => ⟨fun z1 => RetOk.at (outf := class_Slots_out) (nwf := class_Slots_nw) (rowsf := class_Slots_rows) (r := (0 : Int)) (by first | exact Eq.symm ((cT z1).trans rfl) | (simp only [class_Slots, z1, cond_true, cond_false]; done) | (exfalso; simp_all; done) | decide) ⟨[], [], (by decide), rfl, rfl, trivial⟩, fun z1 => ⟨by decide, fun y2 => RetOk.at (outf := class_Slots_out) (nwf := class_Slots_nw) (rowsf := class_Slots_rows) (r := Prod.fst (Prod.snd (Prod.snd (Prod.snd (Prod.snd class_slots))))) (by first | exact Eq.symm ((cF z1).trans rfl) | (simp only [class_Slots, z1, cond_true, cond_false]; done) | (exfalso; simp_all; done) | decide) ⟨[], [], (by decide), rfl, rfl, trivial⟩⟩⟩)
theorem class_Slots_c5 {E_ : World} {G_ : Hp} {w_ : World}  (hS : Sat E_ G_ w_ []) : Calls Try.prog 16 #[(.int .i64 (5))] w_ (Post Dg E_ G_ (class_Slots_out (class_Slots (5))) (class_Slots_nw (class_Slots (5))) (class_Slots_rows (class_Slots (5)))) :=
  calls_post Dg T_class_slots_ok Try.func16 mix (B := bodyOf Try.f16) (by kernel_rfl) [(.int .i64 (5))] [.no] (by kernel_rfl) (objs := []) (ros := []) (psOk_cons pOk_no (psOk_nil)) (by kernel_rfl) (trivial) hS 400
    (t := Tree.fresh fun b => Tree.br false (Tree.ret (Value.int IntKind.i64 (0 : Int)) [Chunk.cells b 61 [(Value.int IntKind.i64 (Prod.fst class_slots), Pr.no), (Value.int IntKind.i64 (Prod.fst (Prod.snd class_slots)), Pr.no), (Value.int IntKind.i64 (Prod.fst (Prod.snd (Prod.snd class_slots))), Pr.no), (Value.int IntKind.i64 (Prod.fst (Prod.snd (Prod.snd (Prod.snd class_slots)))), Pr.no), (Value.int IntKind.i64 (Prod.fst (Prod.snd (Prod.snd (Prod.snd (Prod.snd class_slots))))), Pr.no), (Value.int IntKind.i64 (Prod.fst (Prod.snd (Prod.snd (Prod.snd (Prod.snd (Prod.snd class_slots)))))), Pr.no), (Value.int IntKind.i64 (Prod.fst (Prod.snd (Prod.snd (Prod.snd (Prod.snd (Prod.snd (Prod.snd class_slots))))))), Pr.no), (Value.int IntKind.i64 (Prod.fst (Prod.snd (Prod.snd (Prod.snd (Prod.snd (Prod.snd (Prod.snd (Prod.snd class_slots)))))))), Pr.no), (Value.int IntKind.i64 (Prod.snd (Prod.snd (Prod.snd (Prod.snd (Prod.snd (Prod.snd (Prod.snd (Prod.snd class_slots)))))))), Pr.no)]]) (Tree.need ((0 : Int) ≤ (5 : Int) ∧ (5 : Int) < (↑9 : Int)) (Tree.ret (Value.int IntKind.i64 (Prod.fst (Prod.snd (Prod.snd (Prod.snd (Prod.snd (Prod.snd class_slots))))))) [Chunk.cells b 61 [(Value.int IntKind.i64 (Prod.fst class_slots), Pr.no), (Value.int IntKind.i64 (Prod.fst (Prod.snd class_slots)), Pr.no), (Value.int IntKind.i64 (Prod.fst (Prod.snd (Prod.snd class_slots))), Pr.no), (Value.int IntKind.i64 (Prod.fst (Prod.snd (Prod.snd (Prod.snd class_slots)))), Pr.no), (Value.int IntKind.i64 (Prod.fst (Prod.snd (Prod.snd (Prod.snd (Prod.snd class_slots))))), Pr.no), (Value.int IntKind.i64 (Prod.fst (Prod.snd (Prod.snd (Prod.snd (Prod.snd (Prod.snd class_slots)))))), Pr.no), (Value.int IntKind.i64 (Prod.fst (Prod.snd (Prod.snd (Prod.snd (Prod.snd (Prod.snd (Prod.snd class_slots))))))), Pr.no), (Value.int IntKind.i64 (Prod.fst (Prod.snd (Prod.snd (Prod.snd (Prod.snd (Prod.snd (Prod.snd (Prod.snd class_slots)))))))), Pr.no), (Value.int IntKind.i64 (Prod.snd (Prod.snd (Prod.snd (Prod.snd (Prod.snd (Prod.snd (Prod.snd (Prod.snd class_slots)))))))), Pr.no)]])))
    (by kernel_rfl)
    (fun b0_0 => ⟨fun z1 => RetOk.at (outf := class_Slots_out) (nwf := class_Slots_nw) (rowsf := class_Slots_rows) (r := (0 : Int)) (by first | exact Eq.symm ((cT z1).trans rfl) | (simp only [class_Slots, z1, cond_true, cond_false]; done) | (exfalso; simp_all; done) | decide) ⟨[], [], (by decide), rfl, rfl, trivial⟩, fun z1 => ⟨by decide, fun y2 => RetOk.at (outf := class_Slots_out) (nwf := class_Slots_nw) (rowsf := class_Slots_rows) (r := Prod.fst (Prod.snd (Prod.snd (Prod.snd (Prod.snd (Prod.snd class_slots)))))) (by first | exact Eq.symm ((cF z1).trans rfl) | (simp only [class_Slots, z1, cond_true, cond_false]; done) | (exfalso; simp_all; done) | decide) ⟨[], [], (by decide), rfl, rfl, trivial⟩⟩⟩)
theorem class_Slots_c6 {E_ : World} {G_ : Hp} {w_ : World}  (hS : Sat E_ G_ w_ []) : Calls Try.prog 16 #[(.int .i64 (6))] w_ (Post Dg E_ G_ (class_Slots_out (class_Slots (6))) (class_Slots_nw (class_Slots (6))) (class_Slots_rows (class_Slots (6)))) :=
  calls_post Dg T_class_slots_ok Try.func16 mix (B := bodyOf Try.f16) (by kernel_rfl) [(.int .i64 (6))] [.no] (by kernel_rfl) (objs := []) (ros := []) (psOk_cons pOk_no (psOk_nil)) (by kernel_rfl) (trivial) hS 400
    (t := Tree.fresh fun b => Tree.br false (Tree.ret (Value.int IntKind.i64 (0 : Int)) [Chunk.cells b 61 [(Value.int IntKind.i64 (Prod.fst class_slots), Pr.no), (Value.int IntKind.i64 (Prod.fst (Prod.snd class_slots)), Pr.no), (Value.int IntKind.i64 (Prod.fst (Prod.snd (Prod.snd class_slots))), Pr.no), (Value.int IntKind.i64 (Prod.fst (Prod.snd (Prod.snd (Prod.snd class_slots)))), Pr.no), (Value.int IntKind.i64 (Prod.fst (Prod.snd (Prod.snd (Prod.snd (Prod.snd class_slots))))), Pr.no), (Value.int IntKind.i64 (Prod.fst (Prod.snd (Prod.snd (Prod.snd (Prod.snd (Prod.snd class_slots)))))), Pr.no), (Value.int IntKind.i64 (Prod.fst (Prod.snd (Prod.snd (Prod.snd (Prod.snd (Prod.snd (Prod.snd class_slots))))))), Pr.no), (Value.int IntKind.i64 (Prod.fst (Prod.snd (Prod.snd (Prod.snd (Prod.snd (Prod.snd (Prod.snd (Prod.snd class_slots)))))))), Pr.no), (Value.int IntKind.i64 (Prod.snd (Prod.snd (Prod.snd (Prod.snd (Prod.snd (Prod.snd (Prod.snd (Prod.snd class_slots)))))))), Pr.no)]]) (Tree.need ((0 : Int) ≤ (6 : Int) ∧ (6 : Int) < (↑9 : Int)) (Tree.ret (Value.int IntKind.i64 (Prod.fst (Prod.snd (Prod.snd (Prod.snd (Prod.snd (Prod.snd (Prod.snd class_slots)))))))) [Chunk.cells b 61 [(Value.int IntKind.i64 (Prod.fst class_slots), Pr.no), (Value.int IntKind.i64 (Prod.fst (Prod.snd class_slots)), Pr.no), (Value.int IntKind.i64 (Prod.fst (Prod.snd (Prod.snd class_slots))), Pr.no), (Value.int IntKind.i64 (Prod.fst (Prod.snd (Prod.snd (Prod.snd class_slots)))), Pr.no), (Value.int IntKind.i64 (Prod.fst (Prod.snd (Prod.snd (Prod.snd (Prod.snd class_slots))))), Pr.no), (Value.int IntKind.i64 (Prod.fst (Prod.snd (Prod.snd (Prod.snd (Prod.snd (Prod.snd class_slots)))))), Pr.no), (Value.int IntKind.i64 (Prod.fst (Prod.snd (Prod.snd (Prod.snd (Prod.snd (Prod.snd (Prod.snd class_slots))))))), Pr.no), (Value.int IntKind.i64 (Prod.fst (Prod.snd (Prod.snd (Prod.snd (Prod.snd (Prod.snd (Prod.snd (Prod.snd class_slots)))))))), Pr.no), (Value.int IntKind.i64 (Prod.snd (Prod.snd (Prod.snd (Prod.snd (Prod.snd (Prod.snd (Prod.snd (Prod.snd class_slots)))))))), Pr.no)]])))
    (by kernel_rfl)
    (fun b0_0 => ⟨fun z1 => RetOk.at (outf := class_Slots_out) (nwf := class_Slots_nw) (rowsf := class_Slots_rows) (r := (0 : Int)) (by first | exact Eq.symm ((cT z1).trans rfl) | (simp only [class_Slots, z1, cond_true, cond_false]; done) | (exfalso; simp_all; done) | decide) ⟨[], [], (by decide), rfl, rfl, trivial⟩, fun z1 => ⟨by decide, fun y2 => RetOk.at (outf := class_Slots_out) (nwf := class_Slots_nw) (rowsf := class_Slots_rows) (r := Prod.fst (Prod.snd (Prod.snd (Prod.snd (Prod.snd (Prod.snd (Prod.snd class_slots))))))) (by first | exact Eq.symm ((cF z1).trans rfl) | (simp only [class_Slots, z1, cond_true, cond_false]; done) | (exfalso; simp_all; done) | decide) ⟨[], [], (by decide), rfl, rfl, trivial⟩⟩⟩)
theorem class_Slots_c7 {E_ : World} {G_ : Hp} {w_ : World}  (hS : Sat E_ G_ w_ []) : Calls Try.prog 16 #[(.int .i64 (7))] w_ (Post Dg E_ G_ (class_Slots_out (class_Slots (7))) (class_Slots_nw (class_Slots (7))) (class_Slots_rows (class_Slots (7)))) :=
  calls_post Dg T_class_slots_ok Try.func16 mix (B := bodyOf Try.f16) (by kernel_rfl) [(.int .i64 (7))] [.no] (by kernel_rfl) (objs := []) (ros := []) (psOk_cons pOk_no (psOk_nil)) (by kernel_rfl) (trivial) hS 400
    (t := Tree.fresh fun b => Tree.br false (Tree.ret (Value.int IntKind.i64 (0 : Int)) [Chunk.cells b 61 [(Value.int IntKind.i64 (Prod.fst class_slots), Pr.no), (Value.int IntKind.i64 (Prod.fst (Prod.snd class_slots)), Pr.no), (Value.int IntKind.i64 (Prod.fst (Prod.snd (Prod.snd class_slots))), Pr.no), (Value.int IntKind.i64 (Prod.fst (Prod.snd (Prod.snd (Prod.snd class_slots)))), Pr.no), (Value.int IntKind.i64 (Prod.fst (Prod.snd (Prod.snd (Prod.snd (Prod.snd class_slots))))), Pr.no), (Value.int IntKind.i64 (Prod.fst (Prod.snd (Prod.snd (Prod.snd (Prod.snd (Prod.snd class_slots)))))), Pr.no), (Value.int IntKind.i64 (Prod.fst (Prod.snd (Prod.snd (Prod.snd (Prod.snd (Prod.snd (Prod.snd class_slots))))))), Pr.no), (Value.int IntKind.i64 (Prod.fst (Prod.snd (Prod.snd (Prod.snd (Prod.snd (Prod.snd (Prod.snd (Prod.snd class_slots)))))))), Pr.no), (Value.int IntKind.i64 (Prod.snd (Prod.snd (Prod.snd (Prod.snd (Prod.snd (Prod.snd (Prod.snd (Prod.snd class_slots)))))))), Pr.no)]]) (Tree.need ((0 : Int) ≤ (7 : Int) ∧ (7 : Int) < (↑9 : Int)) (Tree.ret (Value.int IntKind.i64 (Prod.fst (Prod.snd (Prod.snd (Prod.snd (Prod.snd (Prod.snd (Prod.snd (Prod.snd class_slots))))))))) [Chunk.cells b 61 [(Value.int IntKind.i64 (Prod.fst class_slots), Pr.no), (Value.int IntKind.i64 (Prod.fst (Prod.snd class_slots)), Pr.no), (Value.int IntKind.i64 (Prod.fst (Prod.snd (Prod.snd class_slots))), Pr.no), (Value.int IntKind.i64 (Prod.fst (Prod.snd (Prod.snd (Prod.snd class_slots)))), Pr.no), (Value.int IntKind.i64 (Prod.fst (Prod.snd (Prod.snd (Prod.snd (Prod.snd class_slots))))), Pr.no), (Value.int IntKind.i64 (Prod.fst (Prod.snd (Prod.snd (Prod.snd (Prod.snd (Prod.snd class_slots)))))), Pr.no), (Value.int IntKind.i64 (Prod.fst (Prod.snd (Prod.snd (Prod.snd (Prod.snd (Prod.snd (Prod.snd class_slots))))))), Pr.no), (Value.int IntKind.i64 (Prod.fst (Prod.snd (Prod.snd (Prod.snd (Prod.snd (Prod.snd (Prod.snd (Prod.snd class_slots)))))))), Pr.no), (Value.int IntKind.i64 (Prod.snd (Prod.snd (Prod.snd (Prod.snd (Prod.snd (Prod.snd (Prod.snd (Prod.snd class_slots)))))))), Pr.no)]])))
    (by kernel_rfl)
    (fun b0_0 => ⟨fun z1 => RetOk.at (outf := class_Slots_out) (nwf := class_Slots_nw) (rowsf := class_Slots_rows) (r := (0 : Int)) (by first | exact Eq.symm ((cT z1).trans rfl) | (simp only [class_Slots, z1, cond_true, cond_false]; done) | (exfalso; simp_all; done) | decide) ⟨[], [], (by decide), rfl, rfl, trivial⟩, fun z1 => ⟨by decide, fun y2 => RetOk.at (outf := class_Slots_out) (nwf := class_Slots_nw) (rowsf := class_Slots_rows) (r := Prod.fst (Prod.snd (Prod.snd (Prod.snd (Prod.snd (Prod.snd (Prod.snd (Prod.snd class_slots)))))))) (by first | exact Eq.symm ((cF z1).trans rfl) | (simp only [class_Slots, z1, cond_true, cond_false]; done) | (exfalso; simp_all; done) | decide) ⟨[], [], (by decide), rfl, rfl, trivial⟩⟩⟩)
theorem class_Slots_c8 {E_ : World} {G_ : Hp} {w_ : World}  (hS : Sat E_ G_ w_ []) : Calls Try.prog 16 #[(.int .i64 (8))] w_ (Post Dg E_ G_ (class_Slots_out (class_Slots (8))) (class_Slots_nw (class_Slots (8))) (class_Slots_rows (class_Slots (8)))) :=
  calls_post Dg T_class_slots_ok Try.func16 mix (B := bodyOf Try.f16) (by kernel_rfl) [(.int .i64 (8))] [.no] (by kernel_rfl) (objs := []) (ros := []) (psOk_cons pOk_no (psOk_nil)) (by kernel_rfl) (trivial) hS 400
    (t := Tree.fresh fun b => Tree.br false (Tree.ret (Value.int IntKind.i64 (0 : Int)) [Chunk.cells b 61 [(Value.int IntKind.i64 (Prod.fst class_slots), Pr.no), (Value.int IntKind.i64 (Prod.fst (Prod.snd class_slots)), Pr.no), (Value.int IntKind.i64 (Prod.fst (Prod.snd (Prod.snd class_slots))), Pr.no), (Value.int IntKind.i64 (Prod.fst (Prod.snd (Prod.snd (Prod.snd class_slots)))), Pr.no), (Value.int IntKind.i64 (Prod.fst (Prod.snd (Prod.snd (Prod.snd (Prod.snd class_slots))))), Pr.no), (Value.int IntKind.i64 (Prod.fst (Prod.snd (Prod.snd (Prod.snd (Prod.snd (Prod.snd class_slots)))))), Pr.no), (Value.int IntKind.i64 (Prod.fst (Prod.snd (Prod.snd (Prod.snd (Prod.snd (Prod.snd (Prod.snd class_slots))))))), Pr.no), (Value.int IntKind.i64 (Prod.fst (Prod.snd (Prod.snd (Prod.snd (Prod.snd (Prod.snd (Prod.snd (Prod.snd class_slots)))))))), Pr.no), (Value.int IntKind.i64 (Prod.snd (Prod.snd (Prod.snd (Prod.snd (Prod.snd (Prod.snd (Prod.snd (Prod.snd class_slots)))))))), Pr.no)]]) (Tree.need ((0 : Int) ≤ (8 : Int) ∧ (8 : Int) < (↑9 : Int)) (Tree.ret (Value.int IntKind.i64 (Prod.snd (Prod.snd (Prod.snd (Prod.snd (Prod.snd (Prod.snd (Prod.snd (Prod.snd class_slots))))))))) [Chunk.cells b 61 [(Value.int IntKind.i64 (Prod.fst class_slots), Pr.no), (Value.int IntKind.i64 (Prod.fst (Prod.snd class_slots)), Pr.no), (Value.int IntKind.i64 (Prod.fst (Prod.snd (Prod.snd class_slots))), Pr.no), (Value.int IntKind.i64 (Prod.fst (Prod.snd (Prod.snd (Prod.snd class_slots)))), Pr.no), (Value.int IntKind.i64 (Prod.fst (Prod.snd (Prod.snd (Prod.snd (Prod.snd class_slots))))), Pr.no), (Value.int IntKind.i64 (Prod.fst (Prod.snd (Prod.snd (Prod.snd (Prod.snd (Prod.snd class_slots)))))), Pr.no), (Value.int IntKind.i64 (Prod.fst (Prod.snd (Prod.snd (Prod.snd (Prod.snd (Prod.snd (Prod.snd class_slots))))))), Pr.no), (Value.int IntKind.i64 (Prod.fst (Prod.snd (Prod.snd (Prod.snd (Prod.snd (Prod.snd (Prod.snd (Prod.snd class_slots)))))))), Pr.no), (Value.int IntKind.i64 (Prod.snd (Prod.snd (Prod.snd (Prod.snd (Prod.snd (Prod.snd (Prod.snd (Prod.snd class_slots)))))))), Pr.no)]])))
    (by kernel_rfl)
    (fun b0_0 => ⟨fun z1 => RetOk.at (outf := class_Slots_out) (nwf := class_Slots_nw) (rowsf := class_Slots_rows) (r := (0 : Int)) (by first | exact Eq.symm ((cT z1).trans rfl) | (simp only [class_Slots, z1, cond_true, cond_false]; done) | (exfalso; simp_all; done) | decide) ⟨[], [], (by decide), rfl, rfl, trivial⟩, fun z1 => ⟨by decide, fun y2 => RetOk.at (outf := class_Slots_out) (nwf := class_Slots_nw) (rowsf := class_Slots_rows) (r := Prod.snd (Prod.snd (Prod.snd (Prod.snd (Prod.snd (Prod.snd (Prod.snd (Prod.snd class_slots)))))))) (by first | exact Eq.symm ((cF z1).trans rfl) | (simp only [class_Slots, z1, cond_true, cond_false]; done) | (exfalso; simp_all; done) | decide) ⟨[], [], (by decide), rfl, rfl, trivial⟩⟩⟩)
theorem class_Slots_other {E_ : World} {G_ : Hp} {w_ : World} (k : Int) (hc : ¬ (0 ≤ k ∧ k < 9)) (hS : Sat E_ G_ w_ []) : Calls Try.prog 16 #[(.int .i64 k)] w_ (Post Dg E_ G_ (class_Slots_out (class_Slots k)) (class_Slots_nw (class_Slots k)) (class_Slots_rows (class_Slots k))) :=
  calls_post Dg T_class_slots_ok Try.func16 mix (B := bodyOf Try.f16) (by kernel_rfl) [(.int .i64 k)] [.no] (by kernel_rfl) (objs := []) (ros := []) (psOk_cons pOk_no (psOk_nil)) (by kernel_rfl) (trivial) hS 26
    (t := Tree.fresh fun b => Tree.br (decide (k < (0 : Int)) || decide (k ≥ (9 : Int))) (Tree.ret (Value.int IntKind.i64 (0 : Int)) [Chunk.cells b 61 [(Value.int IntKind.i64 (Prod.fst class_slots), Pr.no), (Value.int IntKind.i64 (Prod.fst (Prod.snd class_slots)), Pr.no), (Value.int IntKind.i64 (Prod.fst (Prod.snd (Prod.snd class_slots))), Pr.no), (Value.int IntKind.i64 (Prod.fst (Prod.snd (Prod.snd (Prod.snd class_slots)))), Pr.no), (Value.int IntKind.i64 (Prod.fst (Prod.snd (Prod.snd (Prod.snd (Prod.snd class_slots))))), Pr.no), (Value.int IntKind.i64 (Prod.fst (Prod.snd (Prod.snd (Prod.snd (Prod.snd (Prod.snd class_slots)))))), Pr.no), (Value.int IntKind.i64 (Prod.fst (Prod.snd (Prod.snd (Prod.snd (Prod.snd (Prod.snd (Prod.snd class_slots))))))), Pr.no), (Value.int IntKind.i64 (Prod.fst (Prod.snd (Prod.snd (Prod.snd (Prod.snd (Prod.snd (Prod.snd (Prod.snd class_slots)))))))), Pr.no), (Value.int IntKind.i64 (Prod.snd (Prod.snd (Prod.snd (Prod.snd (Prod.snd (Prod.snd (Prod.snd (Prod.snd class_slots)))))))), Pr.no)]]) (Tree.need ((0 : Int) ≤ k ∧ k < (↑9 : Int)) (Tree.stuck [Ab.ops [0, 1, 1, 1] 2, Ab.code [1, 1, 1, 1]] [{ s := 12, g := none, v := Value.pointer (some (Addr.add { block := b, off := 0 } (Int.toNat k * 1))), p := Pr.pt 0 (PK.cell (0 + Int.toNat k * 1)) }, { s := 11, g := none, v := Value.int IntKind.i64 k, p := Pr.no }, { s := 10, g := none, v := Value.bool (decide (k < (0 : Int)) || decide (k ≥ (9 : Int))), p := Pr.no }, { s := 9, g := some (7, false), v := Value.bool (decide (k ≥ (9 : Int))), p := Pr.no }, { s := 8, g := some (7, false), v := Value.int IntKind.i64 k, p := Pr.no }, { s := 7, g := none, v := Value.bool (decide (k < (0 : Int))), p := Pr.no }, { s := 6, g := none, v := Value.bool (decide (k < (0 : Int))), p := Pr.no }, { s := 5, g := none, v := Value.int IntKind.i64 k, p := Pr.no }, { s := 3, g := none, v := Value.pointer (some { block := b, off := 0 }), p := Pr.pt 0 (PK.cell 0) }, { s := 4, g := none, v := Value.agg { toList := [Value.int IntKind.i64 (Prod.fst class_slots), Value.int IntKind.i64 (Prod.fst (Prod.snd class_slots)), Value.int IntKind.i64 (Prod.fst (Prod.snd (Prod.snd class_slots))), Value.int IntKind.i64 (Prod.fst (Prod.snd (Prod.snd (Prod.snd class_slots)))), Value.int IntKind.i64 (Prod.fst (Prod.snd (Prod.snd (Prod.snd (Prod.snd class_slots))))), Value.int IntKind.i64 (Prod.fst (Prod.snd (Prod.snd (Prod.snd (Prod.snd (Prod.snd class_slots)))))), Value.int IntKind.i64 (Prod.fst (Prod.snd (Prod.snd (Prod.snd (Prod.snd (Prod.snd (Prod.snd class_slots))))))), Value.int IntKind.i64 (Prod.fst (Prod.snd (Prod.snd (Prod.snd (Prod.snd (Prod.snd (Prod.snd (Prod.snd class_slots)))))))), Value.int IntKind.i64 (Prod.snd (Prod.snd (Prod.snd (Prod.snd (Prod.snd (Prod.snd (Prod.snd (Prod.snd class_slots))))))))] }, p := Pr.no }, { s := 2, g := none, v := Value.int IntKind.i64 (0 : Int), p := Pr.no }, { s := 0, g := none, v := Value.int IntKind.i64 k, p := Pr.no }] [Chunk.cells b 61 [(Value.int IntKind.i64 (Prod.fst class_slots), Pr.no), (Value.int IntKind.i64 (Prod.fst (Prod.snd class_slots)), Pr.no), (Value.int IntKind.i64 (Prod.fst (Prod.snd (Prod.snd class_slots))), Pr.no), (Value.int IntKind.i64 (Prod.fst (Prod.snd (Prod.snd (Prod.snd class_slots)))), Pr.no), (Value.int IntKind.i64 (Prod.fst (Prod.snd (Prod.snd (Prod.snd (Prod.snd class_slots))))), Pr.no), (Value.int IntKind.i64 (Prod.fst (Prod.snd (Prod.snd (Prod.snd (Prod.snd (Prod.snd class_slots)))))), Pr.no), (Value.int IntKind.i64 (Prod.fst (Prod.snd (Prod.snd (Prod.snd (Prod.snd (Prod.snd (Prod.snd class_slots))))))), Pr.no), (Value.int IntKind.i64 (Prod.fst (Prod.snd (Prod.snd (Prod.snd (Prod.snd (Prod.snd (Prod.snd (Prod.snd class_slots)))))))), Pr.no), (Value.int IntKind.i64 (Prod.snd (Prod.snd (Prod.snd (Prod.snd (Prod.snd (Prod.snd (Prod.snd (Prod.snd class_slots)))))))), Pr.no)]])))
    (by kernel_rfl)
    (fun b0_0 => ⟨fun z1 => RetOk.at (outf := class_Slots_out) (nwf := class_Slots_nw) (rowsf := class_Slots_rows) (r := (0 : Int)) (by first | exact Eq.symm ((cT z1).trans rfl) | (simp only [class_Slots, z1, cond_true, cond_false]; done) | (exfalso; simp_all; done) | decide) ⟨[], [], (by decide), rfl, rfl, trivial⟩, fun z1 => ⟨by exfalso; simp at z1; omega, fun y2 => (by exfalso; simp at z1; omega)⟩⟩)
theorem class_Slots_calls {E_ : World} {G_ : Hp} {w_ : World} (k : Int) (hS : Sat E_ G_ w_ []) : Calls Try.prog 16 #[(.int .i64 k)] w_ (Post Dg E_ G_ (class_Slots_out (class_Slots k)) (class_Slots_nw (class_Slots k)) (class_Slots_rows (class_Slots k))) := by
  by_cases hc : 0 ≤ k ∧ k < 9
  · rcases (by omega : k = 0 ∨ k = 1 ∨ k = 2 ∨ k = 3 ∨ k = 4 ∨ k = 5 ∨ k = 6 ∨ k = 7 ∨ k = 8) with rfl | rfl | rfl | rfl | rfl | rfl | rfl | rfl | rfl
    · exact class_Slots_c0  hS
    · exact class_Slots_c1  hS
    · exact class_Slots_c2  hS
    · exact class_Slots_c3  hS
    · exact class_Slots_c4  hS
    · exact class_Slots_c5  hS
    · exact class_Slots_c6  hS
    · exact class_Slots_c7  hS
    · exact class_Slots_c8  hS
  · exact class_Slots_other k hc hS
def class_Slots_e : Entry Sg := fun
  | [(.int .i64 k, _)] => some ⟨[], none, rowsR [], fun ss => .int .i64 ((class_Slots k)), fun k_ => .no⟩
  | _ => none
theorem class_Slots_ok : EntryOk Dg Try.prog 16 class_Slots_e := by
  intro args r h
  unfold class_Slots_e at h
  split at h
  · injection h with h; subst h
    refine ⟨fun K acs _ => pOk_no, fun hpre E G w hi hS => ?_⟩
    exact entry_post Dg (nw := []) rfl (class_Slots_calls _  hS)
  · cases h
def T_class_Slots : List (Nat × Entry Sg) := (16, class_Slots_e) :: T_class_slots
theorem T_class_Slots_ok : TableOk Dg Try.prog T_class_Slots := TableOk.cons Dg class_Slots_ok T_class_slots_ok

/-- class.Size -/
def class_Size (s : Int) (k : Int) : Int := (bif class_Slots k == (0 : Int) || decide (s < (10 : Int)) || decide (s > (20 : Int)) then (0 : Int) else IntKind.wrap IntKind.i64 (↑(BitVec.toNat (BitVec.ofInt 64 (IntKind.wrap IntKind.i64 (Int.tdiv (IntKind.wrap IntKind.i64 ((1 : Int) * (2 : Int) ^ min (Int.toNat s) 64)) (class_Slots k))) &&& ~~~BitVec.ofInt 64 (15 : Int))) : Int))
def class_Size_out (r_ : Int) : List Value → Value := fun ss => .int .i64 (r_)
def class_Size_nw (r_ : Int) : List (Chunk Sg) := []
def class_Size_rows (r_ : Int) : List (TypeId × List Col) := []
theorem class_Size_calls {E_ : World} {G_ : Hp} {w_ : World} (s : Int) (k : Int) (hS : Sat E_ G_ w_ []) : Calls Try.prog 18 #[(.int .i64 s), (.int .i64 k)] w_ (Post Dg E_ G_ (class_Size_out (class_Size s k)) (class_Size_nw (class_Size s k)) (class_Size_rows (class_Size s k))) :=
  calls_post Dg T_class_Slots_ok Try.func18 mix (B := bodyOf Try.f18) (by kernel_rfl) [(.int .i64 s), (.int .i64 k)] [.no, .no] (by kernel_rfl) (objs := []) (ros := []) (psOk_cons pOk_no (psOk_cons pOk_no (psOk_nil))) (by kernel_rfl) (trivial) hS 400
    (t := Tree.br (class_Slots k == (0 : Int) || decide (s < (10 : Int)) || decide (s > (20 : Int))) (Tree.ret (Value.int IntKind.i64 (0 : Int)) []) (Tree.need ((0 : Int) ≤ s) (Tree.need (class_Slots k ≠ (0 : Int)) (Tree.ret (Value.int IntKind.i64 (IntKind.wrap IntKind.i64 (↑(BitVec.toNat (BitVec.ofInt 64 (IntKind.wrap IntKind.i64 (Int.tdiv (IntKind.wrap IntKind.i64 ((1 : Int) * (2 : Int) ^ min (Int.toNat s) 64)) (class_Slots k))) &&& ~~~BitVec.ofInt 64 (15 : Int))) : Int))) []))))
    (by kernel_rfl)
    (⟨fun z0 => RetOk.at (outf := class_Size_out) (nwf := class_Size_nw) (rowsf := class_Size_rows) (r := (0 : Int)) (by first | exact Eq.symm ((cT z0).trans rfl) | (simp only [class_Size, z0, cond_true, cond_false]; done) | (exfalso; simp_all; done) | decide) ⟨[], [], (by decide), rfl, rfl, trivial⟩, fun z0 => ⟨by first | (simp only [Bool.or_eq_false_iff, beq_eq_false_iff_ne, ne_eq, decide_eq_false_iff_not] at z0; omega) | omega, fun y1 => ⟨by first | (simp only [Bool.or_eq_false_iff, beq_eq_false_iff_ne, ne_eq, decide_eq_false_iff_not] at z0; omega) | omega, fun y2 => RetOk.at (outf := class_Size_out) (nwf := class_Size_nw) (rowsf := class_Size_rows) (r := IntKind.wrap IntKind.i64 (↑(BitVec.toNat (BitVec.ofInt 64 (IntKind.wrap IntKind.i64 (Int.tdiv (IntKind.wrap IntKind.i64 ((1 : Int) * (2 : Int) ^ min (Int.toNat s) 64)) (class_Slots k))) &&& ~~~BitVec.ofInt 64 (15 : Int))) : Int)) (by first | exact Eq.symm ((cF z0).trans rfl) | (simp only [class_Size, z0, cond_true, cond_false]; done) | (exfalso; simp_all; done) | decide) ⟨[], [], (by decide), rfl, rfl, trivial⟩⟩⟩⟩)
def class_Size_e : Entry Sg := fun
  | [(.int .i64 s, _), (.int .i64 k, _)] => some ⟨[], none, rowsR [], fun ss => .int .i64 ((class_Size s k)), fun k_ => .no⟩
  | _ => none
theorem class_Size_ok : EntryOk Dg Try.prog 18 class_Size_e := by
  intro args r h
  unfold class_Size_e at h
  split at h
  · injection h with h; subst h
    refine ⟨fun K acs _ => pOk_no, fun hpre E G w hi hS => ?_⟩
    exact entry_post Dg (nw := []) rfl (class_Size_calls _ _  hS)
  · cases h
def T_class_Size : List (Nat × Entry Sg) := (18, class_Size_e) :: T_class_Slots
theorem T_class_Size_ok : TableOk Dg Try.prog T_class_Size := TableOk.cons Dg class_Size_ok T_class_Slots_ok

/-- class.Table -/
def class_Table (s : Int) : List Int := bif class_Size s 0 == 0 then [] else (List.range 9).map fun (k : Nat) => class_Size s k
def class_Table_out (r_ : List Int) : List Value → Value := fun ss => ss.getD 0 undef
def class_Table_nw (r_ : List Int) : List (Chunk Sg) := []
def class_Table_rows (r_ : List Int) : List (TypeId × List Col) := [(2, [.ints .i64 (r_)])]
def class_Table_wp0 (s : Int) (Q1 : Int → List Int → Nat → Prop) (R_ : List Int → Prop) : Prop := (((class_Size s (0 : Int) == (0 : Int)) = true → (R_ ([]))) ∧ ((class_Size s (0 : Int) == (0 : Int)) = false → (((0 : Int) ≤ (9 : Int) ∧ (9 : Int) ≤ (9 : Int) ∧ (↑(TypeInfo.bytes (Tables.types (Program.toTables Try.prog))[2]) : Int) * (9 : Int) ≤ (140737488355328 : Int)) ∧ (((0 : Int) ≤ (9 : Int) ∧ (9 : Int) ≤ (9 : Int) ∧ (↑(TypeInfo.bytes (Tables.types (Program.toTables Try.prog))[2]) : Int) * (9 : Int) ≤ (140737488355328 : Int)) → (∀ b2_0 : Nat, (Q1 ((0 : Int)) ([(0 : Int), (0 : Int), (0 : Int), (0 : Int), (0 : Int), (0 : Int), (0 : Int), (0 : Int), (0 : Int)]) (b2_0)))))))
theorem class_Table_pc0 {E_ : World} {G_ : Hp} (s : Int) {r_ : List Int} {Q1 : Int → List Int → Nat → Prop} (hQ1 : ∀ (k : Int) (xs : List Int) (b : Nat), Q1 k xs b → SW Dg Try.prog 21 (Post Dg E_ G_ (class_Table_out r_) (class_Table_nw r_) (class_Table_rows r_)) (bodyOf Try.f21) Try.f21.ntmps E_ G_ (.code (0 :: [0,1,0,1,1,1]) :: .again [0,1,0,1,1,1] :: [.blk 0, .code [1,1,1,1]]) [⟨11, none, .int .i64 k, .no⟩, ⟨10, none, .int .i64 9, .no⟩, ⟨3, none, .slice (some ⟨b, 0, none⟩) 9 9, .pt 0 .slice⟩, ⟨0, none, .int .i64 s, .no⟩] [.row (some b) 2 9 9 [.ints .i64 xs]]) (h : class_Table_wp0 s Q1 (fun x => x = r_)) : (Tree.br (class_Size s (0 : Int) == (0 : Int)) (Tree.ret (Value.slice none 0 0) []) (Tree.need ((0 : Int) ≤ (9 : Int) ∧ (9 : Int) ≤ (9 : Int) ∧ (↑(TypeInfo.bytes (Tables.types (Program.toTables Try.prog))[2]) : Int) * (9 : Int) ≤ (140737488355328 : Int)) (Tree.fresh fun b => Tree.stuck [Ab.code [0, 1, 0, 1, 1, 1], Ab.blk 0, Ab.code [1, 1, 1, 1]] [{ s := 11, g := none, v := Value.int IntKind.i64 (0 : Int), p := Pr.no }, { s := 10, g := none, v := Value.int IntKind.i64 (9 : Int), p := Pr.no }, { s := 9, g := none, v := Value.slice (some { block := b, off := 0 }) 9 9, p := Pr.pt 0 PK.slice }, { s := 3, g := none, v := Value.slice (some { block := b, off := 0 }) 9 9, p := Pr.pt 0 PK.slice }, { s := 8, g := none, v := Value.slice (some { block := b, off := 0 }) 9 9, p := Pr.pt 0 PK.slice }, { s := 7, g := none, v := Value.bool (class_Size s (0 : Int) == (0 : Int)), p := Pr.no }, { s := 6, g := none, v := Value.int IntKind.i64 (class_Size s (0 : Int)), p := Pr.no }, { s := 5, g := none, v := Value.int IntKind.i64 s, p := Pr.no }, { s := 2, g := none, v := Value.slice none 0 0, p := Pr.no }, { s := 0, g := none, v := Value.int IntKind.i64 s, p := Pr.no }] [Chunk.row (some b) 2 9 9 [Col.ints IntKind.i64 [(0 : Int), (0 : Int), (0 : Int), (0 : Int), (0 : Int), (0 : Int), (0 : Int), (0 : Int), (0 : Int)]]])) : Tree Sg).holds (RetOk (class_Table_out r_) (class_Table_nw r_) (class_Table_rows r_)) (SW Dg Try.prog 21 (Post Dg E_ G_ (class_Table_out r_) (class_Table_nw r_) (class_Table_rows r_)) (bodyOf Try.f21) Try.f21.ntmps E_ G_) :=
  ⟨fun z0 => RetOk.at (outf := class_Table_out) (nwf := class_Table_nw) (rowsf := class_Table_rows) (r := []) (h.1 z0) ⟨[(none, 0, 0)], [1000], (by decide), rfl, rfl, ⟨.inr (by kernel_rfl), trivial⟩⟩, fun z0 => ⟨(h.2 z0).1, fun z1 => fun b2_0 => SW.move Dg [11, 10, 3, 0] [0] (by decide) (by kernel_rfl) (by kernel_rfl) (SW.enter Dg (by kernel_rfl) (hQ1 ((0 : Int)) ([(0 : Int), (0 : Int), (0 : Int), (0 : Int), (0 : Int), (0 : Int), (0 : Int), (0 : Int), (0 : Int)]) (b2_0) (((h.2 z0).2 z1) b2_0)))⟩⟩
def class_Table_wp1 (s : Int) (k : Int) (xs : List Int) (b : Nat) (Q1 : Int → List Int → Nat → Prop) (R_ : List Int → Prop) : Prop := (((decide (k < (9 : Int))) = true → (((0 : Int) ≤ k ∧ k < (↑9 : Int)) ∧ (((0 : Int) ≤ k ∧ k < (↑9 : Int)) → (Q1 (IntKind.wrap IntKind.i64 (k + (1 : Int))) (List.set xs (Int.toNat k) (class_Size s k)) (b))))) ∧ ((decide (k < (9 : Int))) = false → (R_ (xs))))
theorem class_Table_pc1 {E_ : World} {G_ : Hp} (s : Int) (k : Int) (xs : List Int) (b : Nat) {r_ : List Int} {Q1 : Int → List Int → Nat → Prop} (hQ1 : ∀ (k : Int) (xs : List Int) (b : Nat), Q1 k xs b → SW Dg Try.prog 21 (Post Dg E_ G_ (class_Table_out r_) (class_Table_nw r_) (class_Table_rows r_)) (bodyOf Try.f21) Try.f21.ntmps E_ G_ (.code (0 :: [0,1,0,1,1,1]) :: .again [0,1,0,1,1,1] :: [.blk 0, .code [1,1,1,1]]) [⟨11, none, .int .i64 k, .no⟩, ⟨10, none, .int .i64 9, .no⟩, ⟨3, none, .slice (some ⟨b, 0, none⟩) 9 9, .pt 0 .slice⟩, ⟨0, none, .int .i64 s, .no⟩] [.row (some b) 2 9 9 [.ints .i64 xs]]) (h : class_Table_wp1 s k xs b Q1 (fun x => x = r_)) : (Tree.br (decide (k < (9 : Int))) (Tree.need ((0 : Int) ≤ k ∧ k < (↑9 : Int)) (Tree.stuck [Ab.again [0, 1, 0, 1, 1, 1], Ab.blk 0, Ab.code [1, 1, 1, 1]] [{ s := 11, g := none, v := Value.int IntKind.i64 (IntKind.wrap IntKind.i64 (k + (1 : Int))), p := Pr.no }, { s := 20, g := none, v := Value.int IntKind.i64 (IntKind.wrap IntKind.i64 (k + (1 : Int))), p := Pr.no }, { s := 19, g := none, v := Value.pointer (some (Addr.add { block := b, off := 0 } (Int.toNat k * 1))), p := Pr.pt 0 (PK.elem (Int.toNat k) 0) }, { s := 18, g := none, v := Value.int IntKind.i64 (class_Size s k), p := Pr.no }, { s := 17, g := none, v := Value.int IntKind.i64 k, p := Pr.no }, { s := 16, g := none, v := Value.int IntKind.i64 s, p := Pr.no }, { s := 15, g := none, v := Value.int IntKind.i64 k, p := Pr.no }, { s := 14, g := none, v := Value.slice (some { block := b, off := 0 }) 9 9, p := Pr.pt 0 PK.slice }, { s := 4, g := none, v := Value.int IntKind.i64 k, p := Pr.no }, { s := 13, g := none, v := Value.int IntKind.i64 k, p := Pr.no }, { s := 12, g := none, v := Value.bool (decide (k < (9 : Int))), p := Pr.no }, { s := 10, g := none, v := Value.int IntKind.i64 (9 : Int), p := Pr.no }, { s := 3, g := none, v := Value.slice (some { block := b, off := 0 }) 9 9, p := Pr.pt 0 PK.slice }, { s := 0, g := none, v := Value.int IntKind.i64 s, p := Pr.no }] [Chunk.row (some b) 2 9 9 [Col.ints IntKind.i64 (List.set xs (Int.toNat k) (class_Size s k))]])) (Tree.ret (Value.slice (some { block := b, off := 0 }) 9 9) [Chunk.row (some b) 2 9 9 [Col.ints IntKind.i64 xs]]) : Tree Sg).holds (RetOk (class_Table_out r_) (class_Table_nw r_) (class_Table_rows r_)) (SW Dg Try.prog 21 (Post Dg E_ G_ (class_Table_out r_) (class_Table_nw r_) (class_Table_rows r_)) (bodyOf Try.f21) Try.f21.ntmps E_ G_) :=
  ⟨fun z0 => ⟨(h.1 z0).1, fun z1 => SW.move Dg [11, 10, 3, 0] [0] (by decide) (by kernel_rfl) (by kernel_rfl) (SW.again Dg (hQ1 (IntKind.wrap IntKind.i64 (k + (1 : Int))) (List.set xs (Int.toNat k) (class_Size s k)) (b) ((h.1 z0).2 z1)))⟩, fun z0 => RetOk.at (outf := class_Table_out) (nwf := class_Table_nw) (rowsf := class_Table_rows) (r := xs) (h.2 z0) ⟨[(some b, 9, 9)], [0], (by decide), rfl, rfl, ⟨.inl rfl, trivial⟩⟩⟩
theorem class_Table_go1 {E_ : World} {G_ : Hp} (s : Int) (k : Int) (xs : List Int) (b : Nat) {r_ : List Int} {Q1 : Int → List Int → Nat → Prop} (hQ1 : ∀ (k : Int) (xs : List Int) (b : Nat), Q1 k xs b → SW Dg Try.prog 21 (Post Dg E_ G_ (class_Table_out r_) (class_Table_nw r_) (class_Table_rows r_)) (bodyOf Try.f21) Try.f21.ntmps E_ G_ (.code (0 :: [0,1,0,1,1,1]) :: .again [0,1,0,1,1,1] :: [.blk 0, .code [1,1,1,1]]) [⟨11, none, .int .i64 k, .no⟩, ⟨10, none, .int .i64 9, .no⟩, ⟨3, none, .slice (some ⟨b, 0, none⟩) 9 9, .pt 0 .slice⟩, ⟨0, none, .int .i64 s, .no⟩] [.row (some b) 2 9 9 [.ints .i64 xs]]) (h : class_Table_wp1 s k xs b Q1 (fun x => x = r_)) : SW Dg Try.prog 21 (Post Dg E_ G_ (class_Table_out r_) (class_Table_nw r_) (class_Table_rows r_)) (bodyOf Try.f21) Try.f21.ntmps E_ G_ (.code (0 :: [0,1,0,1,1,1]) :: .again [0,1,0,1,1,1] :: [.blk 0, .code [1,1,1,1]]) [⟨11, none, .int .i64 k, .no⟩, ⟨10, none, .int .i64 9, .no⟩, ⟨3, none, .slice (some ⟨b, 0, none⟩) 9 9, .pt 0 .slice⟩, ⟨0, none, .int .i64 s, .no⟩] [.row (some b) 2 9 9 [.ints .i64 xs]] :=
  SW.go Dg T_class_Size_ok Try.func21 mix 400 (by kernel_rfl) (class_Table_pc1 s k xs b hQ1 h)
theorem class_Table_start {E_ : World} {G_ : Hp} {w_ : World} (s : Int) {r_ : List Int} {Q1 : Int → List Int → Nat → Prop} (hQ1 : ∀ (k : Int) (xs : List Int) (b : Nat), Q1 k xs b → SW Dg Try.prog 21 (Post Dg E_ G_ (class_Table_out r_) (class_Table_nw r_) (class_Table_rows r_)) (bodyOf Try.f21) Try.f21.ntmps E_ G_ (.code (0 :: [0,1,0,1,1,1]) :: .again [0,1,0,1,1,1] :: [.blk 0, .code [1,1,1,1]]) [⟨11, none, .int .i64 k, .no⟩, ⟨10, none, .int .i64 9, .no⟩, ⟨3, none, .slice (some ⟨b, 0, none⟩) 9 9, .pt 0 .slice⟩, ⟨0, none, .int .i64 s, .no⟩] [.row (some b) 2 9 9 [.ints .i64 xs]]) (hS : Sat E_ G_ w_ []) (h : class_Table_wp0 s Q1 (fun x => x = r_)) : Calls Try.prog 21 #[(.int .i64 s)] w_ (Post Dg E_ G_ (class_Table_out r_) (class_Table_nw r_) (class_Table_rows r_)) :=
  calls_post Dg T_class_Size_ok Try.func21 mix (B := bodyOf Try.f21) (by kernel_rfl) [(.int .i64 s)] [.no] (by kernel_rfl) (objs := []) (ros := []) (psOk_cons pOk_no (psOk_nil)) (by kernel_rfl) (trivial) hS 400
    (t := Tree.br (class_Size s (0 : Int) == (0 : Int)) (Tree.ret (Value.slice none 0 0) []) (Tree.need ((0 : Int) ≤ (9 : Int) ∧ (9 : Int) ≤ (9 : Int) ∧ (↑(TypeInfo.bytes (Tables.types (Program.toTables Try.prog))[2]) : Int) * (9 : Int) ≤ (140737488355328 : Int)) (Tree.fresh fun b => Tree.stuck [Ab.code [0, 1, 0, 1, 1, 1], Ab.blk 0, Ab.code [1, 1, 1, 1]] [{ s := 11, g := none, v := Value.int IntKind.i64 (0 : Int), p := Pr.no }, { s := 10, g := none, v := Value.int IntKind.i64 (9 : Int), p := Pr.no }, { s := 9, g := none, v := Value.slice (some { block := b, off := 0 }) 9 9, p := Pr.pt 0 PK.slice }, { s := 3, g := none, v := Value.slice (some { block := b, off := 0 }) 9 9, p := Pr.pt 0 PK.slice }, { s := 8, g := none, v := Value.slice (some { block := b, off := 0 }) 9 9, p := Pr.pt 0 PK.slice }, { s := 7, g := none, v := Value.bool (class_Size s (0 : Int) == (0 : Int)), p := Pr.no }, { s := 6, g := none, v := Value.int IntKind.i64 (class_Size s (0 : Int)), p := Pr.no }, { s := 5, g := none, v := Value.int IntKind.i64 s, p := Pr.no }, { s := 2, g := none, v := Value.slice none 0 0, p := Pr.no }, { s := 0, g := none, v := Value.int IntKind.i64 s, p := Pr.no }] [Chunk.row (some b) 2 9 9 [Col.ints IntKind.i64 [(0 : Int), (0 : Int), (0 : Int), (0 : Int), (0 : Int), (0 : Int), (0 : Int), (0 : Int), (0 : Int)]]])))
    (by kernel_rfl)
    (class_Table_pc0 s hQ1 h)
def class_Table_I (s : Int) (k : Int) (xs : List Int) (b : Nat) (r_ : List Int) : Prop := 0 ≤ k ∧ k ≤ 9 ∧ xs.length = 9 ∧ (∀ j : Nat, j < k.toNat → xs.getD j 0 = class_Size s j) ∧ r_ = (List.range 9).map fun (k : Nat) => class_Size s k
theorem class_Table_step (s : Int) (k : Int) (xs : List Int) (b : Nat) {r_ : List Int} (hI : class_Table_I s k xs b r_) : class_Table_wp1 s k xs b (fun k' xs' b' => class_Table_I s k' xs' b' r_ ∧ ((9 - k').toNat) < ((9 - k).toNat)) (fun x => x = r_) := by
  unfold class_Table_I at hI
  unfold class_Table_wp1 class_Table_I
  obtain ⟨h0, h1, h2, h3, h4⟩ := hI
  refine ⟨fun h => ?_, fun h => ?_⟩
  · simp only [decide_eq_true_eq] at h
    rw [w64 (by omega)]
    refine ⟨⟨h0, h⟩, fun _ => ⟨⟨by omega, by omega, by simp [h2], fun j hj => ?_, h4⟩, by omega⟩⟩
    rw [getD_set _ _ _ _ (by omega)]
    by_cases hjk : j = k.toNat
    · rw [if_pos hjk]; congr 1; omega
    · rw [if_neg hjk]; exact h3 j (by omega)
  · simp only [decide_eq_false_iff_not] at h
    rw [h4]
    apply ext_getD (by simp [h2])
    intro j hj
    rw [getD_map_range _ (by omega)]
    exact h3 j (by omega)
theorem class_Table_loop {E_ : World} {G_ : Hp} (s : Int) {r_ : List Int} : ∀ s_ : Int × List Int × Nat, class_Table_I s s_.1 s_.2.1 s_.2.2 r_ → SW Dg Try.prog 21 (Post Dg E_ G_ (class_Table_out r_) (class_Table_nw r_) (class_Table_rows r_)) (bodyOf Try.f21) Try.f21.ntmps E_ G_ (.code (0 :: [0,1,0,1,1,1]) :: .again [0,1,0,1,1,1] :: [.blk 0, .code [1,1,1,1]]) [⟨11, none, .int .i64 s_.1, .no⟩, ⟨10, none, .int .i64 9, .no⟩, ⟨3, none, .slice (some ⟨s_.2.2, 0, none⟩) 9 9, .pt 0 .slice⟩, ⟨0, none, .int .i64 s, .no⟩] [.row (some s_.2.2) 2 9 9 [.ints .i64 s_.2.1]] :=
  SW.loop Dg (α := Int × List Int × Nat) (fun s_ => [⟨11, none, .int .i64 s_.1, .no⟩, ⟨10, none, .int .i64 9, .no⟩, ⟨3, none, .slice (some ⟨s_.2.2, 0, none⟩) 9 9, .pt 0 .slice⟩, ⟨0, none, .int .i64 s, .no⟩]) (fun s_ => [.row (some s_.2.2) 2 9 9 [.ints .i64 s_.2.1]]) (fun s_ => (9 - s_.1).toNat) (fun s_ => class_Table_I s s_.1 s_.2.1 s_.2.2 r_) (fun ⟨k, xs, b⟩ hI ih => class_Table_go1 s k xs b (fun k' xs' b' h => ih (k', xs', b') h.1 h.2) (class_Table_step s k xs b hI))
theorem class_Table_begin (s : Int) : class_Table_wp0 s (fun k xs b => class_Table_I s k xs b (class_Table s)) (fun x => x = (class_Table s)) := by
  unfold class_Table_wp0 class_Table_I
  refine ⟨fun h => ?_, fun h => ⟨⟨by omega, by omega, of_decide_eq_true (by kernel_rfl)⟩, fun _ b => ⟨by omega, by omega, rfl, fun j hj => absurd hj (Nat.not_lt_zero j), ?_⟩⟩⟩
  · simp only [class_Table, h, cond_true]
  · simp only [class_Table, h, cond_false]
theorem class_Table_calls {E_ : World} {G_ : Hp} {w_ : World} (s : Int) (hS : Sat E_ G_ w_ []) : Calls Try.prog 21 #[(.int .i64 s)] w_ (Post Dg E_ G_ (class_Table_out (class_Table s)) (class_Table_nw (class_Table s)) (class_Table_rows (class_Table s))) :=
  class_Table_start s (fun k xs b h => class_Table_loop s (k, xs, b) h) hS (class_Table_begin s )
def class_Table_e : Entry Sg := fun
  | [(.int .i64 s, _)] => some ⟨[], none, rowsR [(2, [.ints .i64 ((class_Table s))])], fun ss => ss.getD 0 undef, fun k_ => .pt k_ .slice⟩
  | _ => none
theorem class_Table_ok : EntryOk Dg Try.prog 21 class_Table_e := by
  intro args r h
  unfold class_Table_e at h
  split at h
  · injection h with h; subst h
    refine ⟨(by
    intro K acs hl
    match acs, hl with
    | [ac], _ => simp [rowsR, pOk, psOk, cOk, sliceC, sliceV, sliceVal]), fun hpre E G w hi hS => ?_⟩
    exact entry_post Dg (nw := []) rfl (class_Table_calls _  hS)
  · cases h
def T_class_Table : List (Nat × Entry Sg) := (21, class_Table_e) :: T_class_Size
theorem T_class_Table_ok : TableOk Dg Try.prog T_class_Table := TableOk.cons Dg class_Table_ok T_class_Size_ok

/-- nacreref04.Right -/
def r04_Right (t : Int) (p : Int) (s : Int) : Bool := decide (t ≥ (1 : Int)) && decide (t ≤ (16 : Int)) && decide (p ≥ (4 : Int)) && decide (p ≤ (1024 : Int)) && decide (s ≥ (10 : Int)) && decide (s ≤ (20 : Int))
def r04_Right_out (r_ : Bool) : List Value → Value := fun ss => .bool (r_)
def r04_Right_nw (r_ : Bool) : List (Chunk Sg) := []
def r04_Right_rows (r_ : Bool) : List (TypeId × List Col) := []
theorem r04_Right_calls {E_ : World} {G_ : Hp} {w_ : World} (t : Int) (p : Int) (s : Int) (hS : Sat E_ G_ w_ []) : Calls Try.prog 50 #[(.agg #[.int .i64 t, .int .i64 p, .int .i64 s])] w_ (Post Dg E_ G_ (r04_Right_out (r04_Right t p s)) (r04_Right_nw (r04_Right t p s)) (r04_Right_rows (r04_Right t p s))) :=
  calls_post Dg T_class_Table_ok Try.func50 mix (B := bodyOf Try.f50) (by kernel_rfl) [(.agg #[.int .i64 t, .int .i64 p, .int .i64 s])] [.no] (by kernel_rfl) (objs := []) (ros := []) (psOk_cons pOk_no (psOk_nil)) (by kernel_rfl) (trivial) hS 400
    (t := Tree.fresh fun b => Tree.ret (Value.bool (decide (t ≥ (1 : Int)) && decide (t ≤ (16 : Int)) && decide (p ≥ (4 : Int)) && decide (p ≤ (1024 : Int)) && decide (s ≥ (10 : Int)) && decide (s ≤ (20 : Int)))) [Chunk.cells b 44 [(Value.int IntKind.i64 t, Pr.no), (Value.int IntKind.i64 p, Pr.no), (Value.int IntKind.i64 s, Pr.no)]])
    (by kernel_rfl)
    (fun b0_0 => RetOk.at (outf := r04_Right_out) (nwf := r04_Right_nw) (rowsf := r04_Right_rows) (r := decide (t ≥ (1 : Int)) && decide (t ≤ (16 : Int)) && decide (p ≥ (4 : Int)) && decide (p ≤ (1024 : Int)) && decide (s ≥ (10 : Int)) && decide (s ≤ (20 : Int))) (by first | exact Eq.symm rfl | (simp only [r04_Right, cond_true, cond_false]; done) | (exfalso; simp_all; done) | decide) ⟨[], [], (by decide), rfl, rfl, trivial⟩)
def r04_Right_e : Entry Sg := fun
  | [(.agg ⟨[.int .i64 t, .int .i64 p, .int .i64 s]⟩, .none)] => some ⟨[], none, rowsR [], fun ss => .bool ((r04_Right t p s)), fun k_ => .no⟩
  | _ => none
theorem r04_Right_ok : EntryOk Dg Try.prog 50 r04_Right_e := by
  intro args r h
  unfold r04_Right_e at h
  split at h
  · injection h with h; subst h
    refine ⟨fun K acs _ => pOk_no, fun hpre E G w hi hS => ?_⟩
    exact entry_post Dg (nw := []) rfl (r04_Right_calls _ _ _  hS)
  · cases h
def T_r04_Right : List (Nat × Entry Sg) := (50, r04_Right_e) :: T_class_Table
theorem T_r04_Right_ok : TableOk Dg Try.prog T_r04_Right := TableOk.cons Dg r04_Right_ok T_class_Table_ok

/-- nacreref04.Page -/
def r04_Page (t : Int) (p : Int) (s : Int) : Int := bif !r04_Right t p s then 0 else 2 ^ s.toNat
def r04_Page_out (r_ : Int) : List Value → Value := fun ss => .int .i64 (r_)
def r04_Page_nw (r_ : Int) : List (Chunk Sg) := []
def r04_Page_rows (r_ : Int) : List (TypeId × List Col) := []
def r04_Page_wp0 (t : Int) (p : Int) (s : Int) (Q1 : Int → Int → Nat → Prop) (R_ : Int → Prop) : Prop := (∀ b0_0 : Nat, (((!r04_Right t p s) = true → (R_ ((0 : Int)))) ∧ ((!r04_Right t p s) = false → (Q1 ((0 : Int)) ((1 : Int)) (b0_0)))))
theorem r04_Page_pc0 {E_ : World} {G_ : Hp} (t : Int) (p : Int) (s : Int) {r_ : Int} {Q1 : Int → Int → Nat → Prop} (hQ1 : ∀ (i : Int) (n : Int) (b : Nat), Q1 i n b → SW Dg Try.prog 45 (Post Dg E_ G_ (r04_Page_out r_) (r04_Page_nw r_) (r04_Page_rows r_)) (bodyOf Try.f45) Try.f45.ntmps E_ G_ (.code (0 :: [0,1,0,1,1,1]) :: .again [0,1,0,1,1,1] :: [.blk 0, .code [1,1,1,1]]) [⟨4, none, .int .i64 i, .no⟩, ⟨3, none, .int .i64 n, .no⟩, ⟨1, none, .pointer (some ⟨b, 0, none⟩), .pt 0 (.cell 0)⟩] [.cells b 44 [(.int .i64 t, .no), (.int .i64 p, .no), (.int .i64 s, .no)]]) (h : r04_Page_wp0 t p s Q1 (fun x => x = r_)) : (Tree.fresh fun b => Tree.br (!r04_Right t p s) (Tree.ret (Value.int IntKind.i64 (0 : Int)) [Chunk.cells b 44 [(Value.int IntKind.i64 t, Pr.no), (Value.int IntKind.i64 p, Pr.no), (Value.int IntKind.i64 s, Pr.no)]]) (Tree.stuck [Ab.code [0, 1, 0, 1, 1, 1], Ab.blk 0, Ab.code [1, 1, 1, 1]] [{ s := 4, g := none, v := Value.int IntKind.i64 (0 : Int), p := Pr.no }, { s := 3, g := none, v := Value.int IntKind.i64 (1 : Int), p := Pr.no }, { s := 7, g := none, v := Value.bool !r04_Right t p s, p := Pr.no }, { s := 6, g := none, v := Value.bool (r04_Right t p s), p := Pr.no }, { s := 5, g := none, v := Value.agg { toList := [Value.int IntKind.i64 t, Value.int IntKind.i64 p, Value.int IntKind.i64 s] }, p := Pr.no }, { s := 2, g := none, v := Value.int IntKind.i64 (0 : Int), p := Pr.no }, { s := 1, g := none, v := Value.pointer (some { block := b, off := 0 }), p := Pr.pt 0 (PK.cell 0) }, { s := 0, g := none, v := Value.agg { toList := [Value.int IntKind.i64 t, Value.int IntKind.i64 p, Value.int IntKind.i64 s] }, p := Pr.no }] [Chunk.cells b 44 [(Value.int IntKind.i64 t, Pr.no), (Value.int IntKind.i64 p, Pr.no), (Value.int IntKind.i64 s, Pr.no)]]) : Tree Sg).holds (RetOk (r04_Page_out r_) (r04_Page_nw r_) (r04_Page_rows r_)) (SW Dg Try.prog 45 (Post Dg E_ G_ (r04_Page_out r_) (r04_Page_nw r_) (r04_Page_rows r_)) (bodyOf Try.f45) Try.f45.ntmps E_ G_) :=
  fun b0_0 => ⟨fun z1 => RetOk.at (outf := r04_Page_out) (nwf := r04_Page_nw) (rowsf := r04_Page_rows) (r := (0 : Int)) ((h b0_0).1 z1) ⟨[], [], (by decide), rfl, rfl, trivial⟩, fun z1 => SW.move Dg [4, 3, 1] [0] (by decide) (by kernel_rfl) (by kernel_rfl) (SW.enter Dg (by kernel_rfl) (hQ1 ((0 : Int)) ((1 : Int)) (b0_0) ((h b0_0).2 z1)))⟩
def r04_Page_wp1 (t : Int) (p : Int) (s : Int) (i : Int) (n : Int) (b : Nat) (Q1 : Int → Int → Nat → Prop) (R_ : Int → Prop) : Prop := (((decide (i < s)) = true → (Q1 (IntKind.wrap IntKind.i64 (i + (1 : Int))) (IntKind.wrap IntKind.i64 (n * (2 : Int))) (b))) ∧ ((decide (i < s)) = false → (R_ (n))))
theorem r04_Page_pc1 {E_ : World} {G_ : Hp} (t : Int) (p : Int) (s : Int) (i : Int) (n : Int) (b : Nat) {r_ : Int} {Q1 : Int → Int → Nat → Prop} (hQ1 : ∀ (i : Int) (n : Int) (b : Nat), Q1 i n b → SW Dg Try.prog 45 (Post Dg E_ G_ (r04_Page_out r_) (r04_Page_nw r_) (r04_Page_rows r_)) (bodyOf Try.f45) Try.f45.ntmps E_ G_ (.code (0 :: [0,1,0,1,1,1]) :: .again [0,1,0,1,1,1] :: [.blk 0, .code [1,1,1,1]]) [⟨4, none, .int .i64 i, .no⟩, ⟨3, none, .int .i64 n, .no⟩, ⟨1, none, .pointer (some ⟨b, 0, none⟩), .pt 0 (.cell 0)⟩] [.cells b 44 [(.int .i64 t, .no), (.int .i64 p, .no), (.int .i64 s, .no)]]) (h : r04_Page_wp1 t p s i n b Q1 (fun x => x = r_)) : (Tree.br (decide (i < s)) (Tree.stuck [Ab.again [0, 1, 0, 1, 1, 1], Ab.blk 0, Ab.code [1, 1, 1, 1]] [{ s := 4, g := none, v := Value.int IntKind.i64 (IntKind.wrap IntKind.i64 (i + (1 : Int))), p := Pr.no }, { s := 13, g := none, v := Value.int IntKind.i64 (IntKind.wrap IntKind.i64 (i + (1 : Int))), p := Pr.no }, { s := 12, g := none, v := Value.int IntKind.i64 i, p := Pr.no }, { s := 3, g := none, v := Value.int IntKind.i64 (IntKind.wrap IntKind.i64 (n * (2 : Int))), p := Pr.no }, { s := 15, g := none, v := Value.int IntKind.i64 (IntKind.wrap IntKind.i64 (n * (2 : Int))), p := Pr.no }, { s := 14, g := none, v := Value.int IntKind.i64 n, p := Pr.no }, { s := 11, g := none, v := Value.bool (decide (i < s)), p := Pr.no }, { s := 10, g := none, v := Value.int IntKind.i64 s, p := Pr.no }, { s := 9, g := none, v := Value.pointer (some { block := Addr.block { block := b, off := 0 }, off := Addr.off { block := b, off := 0 } + 2 }), p := Pr.pt 0 (PK.cell 2) }, { s := 8, g := none, v := Value.int IntKind.i64 i, p := Pr.no }, { s := 1, g := none, v := Value.pointer (some { block := b, off := 0 }), p := Pr.pt 0 (PK.cell 0) }] [Chunk.cells b 44 [(Value.int IntKind.i64 t, Pr.no), (Value.int IntKind.i64 p, Pr.no), (Value.int IntKind.i64 s, Pr.no)]]) (Tree.ret (Value.int IntKind.i64 n) [Chunk.cells b 44 [(Value.int IntKind.i64 t, Pr.no), (Value.int IntKind.i64 p, Pr.no), (Value.int IntKind.i64 s, Pr.no)]]) : Tree Sg).holds (RetOk (r04_Page_out r_) (r04_Page_nw r_) (r04_Page_rows r_)) (SW Dg Try.prog 45 (Post Dg E_ G_ (r04_Page_out r_) (r04_Page_nw r_) (r04_Page_rows r_)) (bodyOf Try.f45) Try.f45.ntmps E_ G_) :=
  ⟨fun z0 => SW.move Dg [4, 3, 1] [0] (by decide) (by kernel_rfl) (by kernel_rfl) (SW.again Dg (hQ1 (IntKind.wrap IntKind.i64 (i + (1 : Int))) (IntKind.wrap IntKind.i64 (n * (2 : Int))) (b) (h.1 z0))), fun z0 => RetOk.at (outf := r04_Page_out) (nwf := r04_Page_nw) (rowsf := r04_Page_rows) (r := n) (h.2 z0) ⟨[], [], (by decide), rfl, rfl, trivial⟩⟩
theorem r04_Page_go1 {E_ : World} {G_ : Hp} (t : Int) (p : Int) (s : Int) (i : Int) (n : Int) (b : Nat) {r_ : Int} {Q1 : Int → Int → Nat → Prop} (hQ1 : ∀ (i : Int) (n : Int) (b : Nat), Q1 i n b → SW Dg Try.prog 45 (Post Dg E_ G_ (r04_Page_out r_) (r04_Page_nw r_) (r04_Page_rows r_)) (bodyOf Try.f45) Try.f45.ntmps E_ G_ (.code (0 :: [0,1,0,1,1,1]) :: .again [0,1,0,1,1,1] :: [.blk 0, .code [1,1,1,1]]) [⟨4, none, .int .i64 i, .no⟩, ⟨3, none, .int .i64 n, .no⟩, ⟨1, none, .pointer (some ⟨b, 0, none⟩), .pt 0 (.cell 0)⟩] [.cells b 44 [(.int .i64 t, .no), (.int .i64 p, .no), (.int .i64 s, .no)]]) (h : r04_Page_wp1 t p s i n b Q1 (fun x => x = r_)) : SW Dg Try.prog 45 (Post Dg E_ G_ (r04_Page_out r_) (r04_Page_nw r_) (r04_Page_rows r_)) (bodyOf Try.f45) Try.f45.ntmps E_ G_ (.code (0 :: [0,1,0,1,1,1]) :: .again [0,1,0,1,1,1] :: [.blk 0, .code [1,1,1,1]]) [⟨4, none, .int .i64 i, .no⟩, ⟨3, none, .int .i64 n, .no⟩, ⟨1, none, .pointer (some ⟨b, 0, none⟩), .pt 0 (.cell 0)⟩] [.cells b 44 [(.int .i64 t, .no), (.int .i64 p, .no), (.int .i64 s, .no)]] :=
  SW.go Dg T_r04_Right_ok Try.func45 mix 400 (by kernel_rfl) (r04_Page_pc1 t p s i n b hQ1 h)
theorem r04_Page_start {E_ : World} {G_ : Hp} {w_ : World} (t : Int) (p : Int) (s : Int) {r_ : Int} {Q1 : Int → Int → Nat → Prop} (hQ1 : ∀ (i : Int) (n : Int) (b : Nat), Q1 i n b → SW Dg Try.prog 45 (Post Dg E_ G_ (r04_Page_out r_) (r04_Page_nw r_) (r04_Page_rows r_)) (bodyOf Try.f45) Try.f45.ntmps E_ G_ (.code (0 :: [0,1,0,1,1,1]) :: .again [0,1,0,1,1,1] :: [.blk 0, .code [1,1,1,1]]) [⟨4, none, .int .i64 i, .no⟩, ⟨3, none, .int .i64 n, .no⟩, ⟨1, none, .pointer (some ⟨b, 0, none⟩), .pt 0 (.cell 0)⟩] [.cells b 44 [(.int .i64 t, .no), (.int .i64 p, .no), (.int .i64 s, .no)]]) (hS : Sat E_ G_ w_ []) (h : r04_Page_wp0 t p s Q1 (fun x => x = r_)) : Calls Try.prog 45 #[(.agg #[.int .i64 t, .int .i64 p, .int .i64 s])] w_ (Post Dg E_ G_ (r04_Page_out r_) (r04_Page_nw r_) (r04_Page_rows r_)) :=
  calls_post Dg T_r04_Right_ok Try.func45 mix (B := bodyOf Try.f45) (by kernel_rfl) [(.agg #[.int .i64 t, .int .i64 p, .int .i64 s])] [.no] (by kernel_rfl) (objs := []) (ros := []) (psOk_cons pOk_no (psOk_nil)) (by kernel_rfl) (trivial) hS 400
    (t := Tree.fresh fun b => Tree.br (!r04_Right t p s) (Tree.ret (Value.int IntKind.i64 (0 : Int)) [Chunk.cells b 44 [(Value.int IntKind.i64 t, Pr.no), (Value.int IntKind.i64 p, Pr.no), (Value.int IntKind.i64 s, Pr.no)]]) (Tree.stuck [Ab.code [0, 1, 0, 1, 1, 1], Ab.blk 0, Ab.code [1, 1, 1, 1]] [{ s := 4, g := none, v := Value.int IntKind.i64 (0 : Int), p := Pr.no }, { s := 3, g := none, v := Value.int IntKind.i64 (1 : Int), p := Pr.no }, { s := 7, g := none, v := Value.bool !r04_Right t p s, p := Pr.no }, { s := 6, g := none, v := Value.bool (r04_Right t p s), p := Pr.no }, { s := 5, g := none, v := Value.agg { toList := [Value.int IntKind.i64 t, Value.int IntKind.i64 p, Value.int IntKind.i64 s] }, p := Pr.no }, { s := 2, g := none, v := Value.int IntKind.i64 (0 : Int), p := Pr.no }, { s := 1, g := none, v := Value.pointer (some { block := b, off := 0 }), p := Pr.pt 0 (PK.cell 0) }, { s := 0, g := none, v := Value.agg { toList := [Value.int IntKind.i64 t, Value.int IntKind.i64 p, Value.int IntKind.i64 s] }, p := Pr.no }] [Chunk.cells b 44 [(Value.int IntKind.i64 t, Pr.no), (Value.int IntKind.i64 p, Pr.no), (Value.int IntKind.i64 s, Pr.no)]]))
    (by kernel_rfl)
    (r04_Page_pc0 t p s hQ1 h)
def r04_Page_I (t : Int) (p : Int) (s : Int) (i : Int) (n : Int) (b : Nat) (r_ : Int) : Prop := 0 ≤ i ∧ i ≤ s ∧ s ≤ 20 ∧ n = 2 ^ i.toNat ∧ r_ = 2 ^ s.toNat
theorem r04_Page_step (t : Int) (p : Int) (s : Int) (i : Int) (n : Int) (b : Nat) {r_ : Int} (hI : r04_Page_I t p s i n b r_) : r04_Page_wp1 t p s i n b (fun i' n' b' => r04_Page_I t p s i' n' b' r_ ∧ ((s - i').toNat) < ((s - i).toNat)) (fun x => x = r_) := by
  unfold r04_Page_I at hI
  unfold r04_Page_wp1 r04_Page_I
  obtain ⟨h0, h1, h2, h3, h4⟩ := hI
  refine ⟨fun h => ?_, fun h => ?_⟩
  · simp only [decide_eq_true_eq] at h
    have hp := pow2_le (show i.toNat + 1 ≤ 20 by omega)
    have hq := pow2_pos i.toNat
    rw [pow2_succ] at hp
    rw [w64 (by omega), w64 (by omega), toNat_succ h0, pow2_succ]
    exact ⟨⟨by omega, by omega, h2, by rw [h3], h4⟩, by omega⟩
  · simp only [decide_eq_false_iff_not] at h
    rw [h3, h4, show i = s by omega]
theorem r04_Page_loop {E_ : World} {G_ : Hp} (t : Int) (p : Int) (s : Int) {r_ : Int} : ∀ s_ : Int × Int × Nat, r04_Page_I t p s s_.1 s_.2.1 s_.2.2 r_ → SW Dg Try.prog 45 (Post Dg E_ G_ (r04_Page_out r_) (r04_Page_nw r_) (r04_Page_rows r_)) (bodyOf Try.f45) Try.f45.ntmps E_ G_ (.code (0 :: [0,1,0,1,1,1]) :: .again [0,1,0,1,1,1] :: [.blk 0, .code [1,1,1,1]]) [⟨4, none, .int .i64 s_.1, .no⟩, ⟨3, none, .int .i64 s_.2.1, .no⟩, ⟨1, none, .pointer (some ⟨s_.2.2, 0, none⟩), .pt 0 (.cell 0)⟩] [.cells s_.2.2 44 [(.int .i64 t, .no), (.int .i64 p, .no), (.int .i64 s, .no)]] :=
  SW.loop Dg (α := Int × Int × Nat) (fun s_ => [⟨4, none, .int .i64 s_.1, .no⟩, ⟨3, none, .int .i64 s_.2.1, .no⟩, ⟨1, none, .pointer (some ⟨s_.2.2, 0, none⟩), .pt 0 (.cell 0)⟩]) (fun s_ => [.cells s_.2.2 44 [(.int .i64 t, .no), (.int .i64 p, .no), (.int .i64 s, .no)]]) (fun s_ => (s - s_.1).toNat) (fun s_ => r04_Page_I t p s s_.1 s_.2.1 s_.2.2 r_) (fun ⟨i, n, b⟩ hI ih => r04_Page_go1 t p s i n b (fun i' n' b' h => ih (i', n', b') h.1 h.2) (r04_Page_step t p s i n b hI))
theorem r04_Page_begin (t : Int) (p : Int) (s : Int) : r04_Page_wp0 t p s (fun i n b => r04_Page_I t p s i n b (r04_Page t p s)) (fun x => x = (r04_Page t p s)) := by
  unfold r04_Page_wp0 r04_Page_I
  intro b
  refine ⟨fun h => ?_, fun h => ?_⟩
  · simp only [r04_Page, h, cond_true]
  · have hr : r04_Right t p s = true := by simpa using h
    simp only [r04_Right, Bool.and_eq_true, decide_eq_true_eq] at hr
    refine ⟨by omega, by omega, by omega, rfl, ?_⟩
    simp only [r04_Page, h, cond_false]
theorem r04_Page_calls {E_ : World} {G_ : Hp} {w_ : World} (t : Int) (p : Int) (s : Int) (hS : Sat E_ G_ w_ []) : Calls Try.prog 45 #[(.agg #[.int .i64 t, .int .i64 p, .int .i64 s])] w_ (Post Dg E_ G_ (r04_Page_out (r04_Page t p s)) (r04_Page_nw (r04_Page t p s)) (r04_Page_rows (r04_Page t p s))) :=
  r04_Page_start t p s (fun i n b h => r04_Page_loop t p s (i, n, b) h) hS (r04_Page_begin t p s )
def r04_Page_e : Entry Sg := fun
  | [(.agg ⟨[.int .i64 t, .int .i64 p, .int .i64 s]⟩, .none)] => some ⟨[], none, rowsR [], fun ss => .int .i64 ((r04_Page t p s)), fun k_ => .no⟩
  | _ => none
theorem r04_Page_ok : EntryOk Dg Try.prog 45 r04_Page_e := by
  intro args r h
  unfold r04_Page_e at h
  split at h
  · injection h with h; subst h
    refine ⟨fun K acs _ => pOk_no, fun hpre E G w hi hS => ?_⟩
    exact entry_post Dg (nw := []) rfl (r04_Page_calls _ _ _  hS)
  · cases h
def T_r04_Page : List (Nat × Entry Sg) := (45, r04_Page_e) :: T_r04_Right
theorem T_r04_Page_ok : TableOk Dg Try.prog T_r04_Page := TableOk.cons Dg r04_Page_ok T_r04_Right_ok

/-- nacreref05.Slots -/
def r05_Slots (k : Int) : Int := (bif k == (0 : Int) then (32 : Int) else (bif k == (1 : Int) then (21 : Int) else (bif k == (2 : Int) then (16 : Int) else (bif k == (3 : Int) then (10 : Int) else (bif k == (4 : Int) then (8 : Int) else (bif k == (5 : Int) then (5 : Int) else (bif k == (6 : Int) then (4 : Int) else (bif k == (7 : Int) then (3 : Int) else (bif k == (8 : Int) then (2 : Int) else (0 : Int))))))))))
def r05_Slots_out (r_ : Int) : List Value → Value := fun ss => .int .i64 (r_)
def r05_Slots_nw (r_ : Int) : List (Chunk Sg) := []
def r05_Slots_rows (r_ : Int) : List (TypeId × List Col) := []
theorem r05_Slots_calls {E_ : World} {G_ : Hp} {w_ : World} (k : Int) (hS : Sat E_ G_ w_ []) : Calls Try.prog 17 #[(.int .i64 k)] w_ (Post Dg E_ G_ (r05_Slots_out (r05_Slots k)) (r05_Slots_nw (r05_Slots k)) (r05_Slots_rows (r05_Slots k))) :=
  calls_post Dg T_r04_Page_ok Try.func17 mix (B := bodyOf Try.f17) (by kernel_rfl) [(.int .i64 k)] [.no] (by kernel_rfl) (objs := []) (ros := []) (psOk_cons pOk_no (psOk_nil)) (by kernel_rfl) (trivial) hS 400
    (t := Tree.br (k == (0 : Int)) (Tree.ret (Value.int IntKind.i64 (32 : Int)) []) (Tree.br (k == (1 : Int)) (Tree.ret (Value.int IntKind.i64 (21 : Int)) []) (Tree.br (k == (2 : Int)) (Tree.ret (Value.int IntKind.i64 (16 : Int)) []) (Tree.br (k == (3 : Int)) (Tree.ret (Value.int IntKind.i64 (10 : Int)) []) (Tree.br (k == (4 : Int)) (Tree.ret (Value.int IntKind.i64 (8 : Int)) []) (Tree.br (k == (5 : Int)) (Tree.ret (Value.int IntKind.i64 (5 : Int)) []) (Tree.br (k == (6 : Int)) (Tree.ret (Value.int IntKind.i64 (4 : Int)) []) (Tree.br (k == (7 : Int)) (Tree.ret (Value.int IntKind.i64 (3 : Int)) []) (Tree.br (k == (8 : Int)) (Tree.ret (Value.int IntKind.i64 (2 : Int)) []) (Tree.ret (Value.int IntKind.i64 (0 : Int)) []))))))))))
    (by kernel_rfl)
    (⟨fun z0 => RetOk.at (outf := r05_Slots_out) (nwf := r05_Slots_nw) (rowsf := r05_Slots_rows) (r := (32 : Int)) (by first | exact Eq.symm ((cT z0).trans rfl) | (simp only [r05_Slots, z0, cond_true, cond_false]; done) | (exfalso; simp_all; done) | decide) ⟨[], [], (by decide), rfl, rfl, trivial⟩, fun z0 => ⟨fun z1 => RetOk.at (outf := r05_Slots_out) (nwf := r05_Slots_nw) (rowsf := r05_Slots_rows) (r := (21 : Int)) (by first | exact Eq.symm ((cF z0).trans ((cT z1).trans rfl)) | (simp only [r05_Slots, z0, z1, cond_true, cond_false]; done) | (exfalso; simp_all; done) | decide) ⟨[], [], (by decide), rfl, rfl, trivial⟩, fun z1 => ⟨fun z2 => RetOk.at (outf := r05_Slots_out) (nwf := r05_Slots_nw) (rowsf := r05_Slots_rows) (r := (16 : Int)) (by first | exact Eq.symm ((cF z0).trans ((cF z1).trans ((cT z2).trans rfl))) | (simp only [r05_Slots, z0, z1, z2, cond_true, cond_false]; done) | (exfalso; simp_all; done) | decide) ⟨[], [], (by decide), rfl, rfl, trivial⟩, fun z2 => ⟨fun z3 => RetOk.at (outf := r05_Slots_out) (nwf := r05_Slots_nw) (rowsf := r05_Slots_rows) (r := (10 : Int)) (by first | exact Eq.symm ((cF z0).trans ((cF z1).trans ((cF z2).trans ((cT z3).trans rfl)))) | (simp only [r05_Slots, z0, z1, z2, z3, cond_true, cond_false]; done) | (exfalso; simp_all; done) | decide) ⟨[], [], (by decide), rfl, rfl, trivial⟩, fun z3 => ⟨fun z4 => RetOk.at (outf := r05_Slots_out) (nwf := r05_Slots_nw) (rowsf := r05_Slots_rows) (r := (8 : Int)) (by first | exact Eq.symm ((cF z0).trans ((cF z1).trans ((cF z2).trans ((cF z3).trans ((cT z4).trans rfl))))) | (simp only [r05_Slots, z0, z1, z2, z3, z4, cond_true, cond_false]; done) | (exfalso; simp_all; done) | decide) ⟨[], [], (by decide), rfl, rfl, trivial⟩, fun z4 => ⟨fun z5 => RetOk.at (outf := r05_Slots_out) (nwf := r05_Slots_nw) (rowsf := r05_Slots_rows) (r := (5 : Int)) (by first | exact Eq.symm ((cF z0).trans ((cF z1).trans ((cF z2).trans ((cF z3).trans ((cF z4).trans ((cT z5).trans rfl)))))) | (simp only [r05_Slots, z0, z1, z2, z3, z4, z5, cond_true, cond_false]; done) | (exfalso; simp_all; done) | decide) ⟨[], [], (by decide), rfl, rfl, trivial⟩, fun z5 => ⟨fun z6 => RetOk.at (outf := r05_Slots_out) (nwf := r05_Slots_nw) (rowsf := r05_Slots_rows) (r := (4 : Int)) (by first | exact Eq.symm ((cF z0).trans ((cF z1).trans ((cF z2).trans ((cF z3).trans ((cF z4).trans ((cF z5).trans ((cT z6).trans rfl))))))) | (simp only [r05_Slots, z0, z1, z2, z3, z4, z5, z6, cond_true, cond_false]; done) | (exfalso; simp_all; done) | decide) ⟨[], [], (by decide), rfl, rfl, trivial⟩, fun z6 => ⟨fun z7 => RetOk.at (outf := r05_Slots_out) (nwf := r05_Slots_nw) (rowsf := r05_Slots_rows) (r := (3 : Int)) (by first | exact Eq.symm ((cF z0).trans ((cF z1).trans ((cF z2).trans ((cF z3).trans ((cF z4).trans ((cF z5).trans ((cF z6).trans ((cT z7).trans rfl)))))))) | (simp only [r05_Slots, z0, z1, z2, z3, z4, z5, z6, z7, cond_true, cond_false]; done) | (exfalso; simp_all; done) | decide) ⟨[], [], (by decide), rfl, rfl, trivial⟩, fun z7 => ⟨fun z8 => RetOk.at (outf := r05_Slots_out) (nwf := r05_Slots_nw) (rowsf := r05_Slots_rows) (r := (2 : Int)) (by first | exact Eq.symm ((cF z0).trans ((cF z1).trans ((cF z2).trans ((cF z3).trans ((cF z4).trans ((cF z5).trans ((cF z6).trans ((cF z7).trans ((cT z8).trans rfl))))))))) | (simp only [r05_Slots, z0, z1, z2, z3, z4, z5, z6, z7, z8, cond_true, cond_false]; done) | (exfalso; simp_all; done) | decide) ⟨[], [], (by decide), rfl, rfl, trivial⟩, fun z8 => RetOk.at (outf := r05_Slots_out) (nwf := r05_Slots_nw) (rowsf := r05_Slots_rows) (r := (0 : Int)) (by first | exact Eq.symm ((cF z0).trans ((cF z1).trans ((cF z2).trans ((cF z3).trans ((cF z4).trans ((cF z5).trans ((cF z6).trans ((cF z7).trans ((cF z8).trans rfl))))))))) | (simp only [r05_Slots, z0, z1, z2, z3, z4, z5, z6, z7, z8, cond_true, cond_false]; done) | (exfalso; simp_all; done) | decide) ⟨[], [], (by decide), rfl, rfl, trivial⟩⟩⟩⟩⟩⟩⟩⟩⟩⟩)
def r05_Slots_e : Entry Sg := fun
  | [(.int .i64 k, _)] => some ⟨[], none, rowsR [], fun ss => .int .i64 ((r05_Slots k)), fun k_ => .no⟩
  | _ => none
theorem r05_Slots_ok : EntryOk Dg Try.prog 17 r05_Slots_e := by
  intro args r h
  unfold r05_Slots_e at h
  split at h
  · injection h with h; subst h
    refine ⟨fun K acs _ => pOk_no, fun hpre E G w hi hS => ?_⟩
    exact entry_post Dg (nw := []) rfl (r05_Slots_calls _  hS)
  · cases h
def T_r05_Slots : List (Nat × Entry Sg) := (17, r05_Slots_e) :: T_r04_Page
theorem T_r05_Slots_ok : TableOk Dg Try.prog T_r05_Slots := TableOk.cons Dg r05_Slots_ok T_r04_Page_ok

/-- nacreref01.Longs -/
def Longs (xs : List Int) (ys : List Int) : Bool := decide (xs = ys)
def Longs_out (r_ : Bool) : List Value → Value := fun ss => .bool (r_)
def Longs_nw (r_ : Bool) : List (Chunk Sg) := []
def Longs_rows (r_ : Bool) : List (TypeId × List Col) := []
def Longs_wp0 (xs : List Int) (ys : List Int) (a_0 : Option Addr) (c_0 : Nat) (a_1 : Option Addr) (c_1 : Nat) (Q1 : Int → Prop) (R_ : Bool → Prop) : Prop := ((((↑(List.length xs) : Int) != (↑(List.length ys) : Int)) = true → (R_ (false))) ∧ (((↑(List.length xs) : Int) != (↑(List.length ys) : Int)) = false → (Q1 ((0 : Int)))))
theorem Longs_pc0 {E_ : World} {G_ : Hp} (xs : List Int) (ys : List Int) (a_0 : Option Addr) (c_0 : Nat) (a_1 : Option Addr) (c_1 : Nat) {r_ : Bool} {Q1 : Int → Prop} (hQ1 : ∀ (i : Int), Q1 i → SW Dg Try.prog 20 (Post Dg E_ G_ (Longs_out r_) (Longs_nw r_) (Longs_rows r_)) (bodyOf Try.f20) Try.f20.ntmps E_ G_ (.code (0 :: [0,1,0,1,1]) :: .again [0,1,0,1,1] :: [.blk 0, .code [1,1,1]]) [⟨5, none, .int .i64 i, .no⟩, ⟨0, none, .slice a_0 xs.length c_0, .pt 0 .slice⟩, ⟨1, none, .slice a_1 ys.length c_1, .pt 1 .slice⟩] [.ro a_0 xs.length c_0 [.ints .i64 xs], .ro a_1 ys.length c_1 [.ints .i64 ys]]) (h : Longs_wp0 xs ys a_0 c_0 a_1 c_1 Q1 (fun x => x = r_)) : (Tree.br ((↑(List.length xs) : Int) != (↑(List.length ys) : Int)) (Tree.ret (Value.bool false) [Chunk.ro a_0 (List.length xs) c_0 [Col.ints IntKind.i64 xs], Chunk.ro a_1 (List.length ys) c_1 [Col.ints IntKind.i64 ys]]) (Tree.stuck [Ab.code [0, 1, 0, 1, 1], Ab.blk 0, Ab.code [1, 1, 1]] [{ s := 5, g := none, v := Value.int IntKind.i64 (0 : Int), p := Pr.no }, { s := 10, g := none, v := Value.bool ((↑(List.length xs) : Int) != (↑(List.length ys) : Int)), p := Pr.no }, { s := 9, g := none, v := Value.int IntKind.i64 (↑(List.length ys) : Int), p := Pr.no }, { s := 8, g := none, v := Value.slice a_1 (List.length ys) c_1, p := Pr.pt 1 PK.slice }, { s := 7, g := none, v := Value.int IntKind.i64 (↑(List.length xs) : Int), p := Pr.no }, { s := 6, g := none, v := Value.slice a_0 (List.length xs) c_0, p := Pr.pt 0 PK.slice }, { s := 4, g := none, v := Value.bool false, p := Pr.no }, { s := 0, g := none, v := Value.slice a_0 (List.length xs) c_0, p := Pr.pt 0 PK.slice }, { s := 1, g := none, v := Value.slice a_1 (List.length ys) c_1, p := Pr.pt 1 PK.slice }] [Chunk.ro a_0 (List.length xs) c_0 [Col.ints IntKind.i64 xs], Chunk.ro a_1 (List.length ys) c_1 [Col.ints IntKind.i64 ys]]) : Tree Sg).holds (RetOk (Longs_out r_) (Longs_nw r_) (Longs_rows r_)) (SW Dg Try.prog 20 (Post Dg E_ G_ (Longs_out r_) (Longs_nw r_) (Longs_rows r_)) (bodyOf Try.f20) Try.f20.ntmps E_ G_) :=
  ⟨fun z0 => RetOk.at (outf := Longs_out) (nwf := Longs_nw) (rowsf := Longs_rows) (r := false) (h.1 z0) ⟨[], [], (by decide), rfl, rfl, trivial⟩, fun z0 => SW.move Dg [5, 0, 1] [0, 1] (by decide) (by kernel_rfl) (by kernel_rfl) (SW.enter Dg (by kernel_rfl) (hQ1 ((0 : Int)) (h.2 z0)))⟩
def Longs_wp1 (xs : List Int) (ys : List Int) (a_0 : Option Addr) (c_0 : Nat) (a_1 : Option Addr) (c_1 : Nat) (i : Int) (Q1 : Int → Prop) (R_ : Bool → Prop) : Prop := (((decide (i < (↑(List.length xs) : Int))) = true → (((0 : Int) ≤ i ∧ i < (↑(List.length xs) : Int)) ∧ (((0 : Int) ≤ i ∧ i < (↑(List.length xs) : Int)) → (((0 : Int) ≤ i ∧ i < (↑(List.length ys) : Int)) ∧ (((0 : Int) ≤ i ∧ i < (↑(List.length ys) : Int)) → (((List.getD xs (Int.toNat i) (0 : Int) != List.getD ys (Int.toNat i) (0 : Int)) = true → (R_ (false))) ∧ ((List.getD xs (Int.toNat i) (0 : Int) != List.getD ys (Int.toNat i) (0 : Int)) = false → (Q1 (IntKind.wrap IntKind.i64 (i + (1 : Int))))))))))) ∧ ((decide (i < (↑(List.length xs) : Int))) = false → (R_ (true))))
theorem Longs_pc1 {E_ : World} {G_ : Hp} (xs : List Int) (ys : List Int) (a_0 : Option Addr) (c_0 : Nat) (a_1 : Option Addr) (c_1 : Nat) (i : Int) {r_ : Bool} {Q1 : Int → Prop} (hQ1 : ∀ (i : Int), Q1 i → SW Dg Try.prog 20 (Post Dg E_ G_ (Longs_out r_) (Longs_nw r_) (Longs_rows r_)) (bodyOf Try.f20) Try.f20.ntmps E_ G_ (.code (0 :: [0,1,0,1,1]) :: .again [0,1,0,1,1] :: [.blk 0, .code [1,1,1]]) [⟨5, none, .int .i64 i, .no⟩, ⟨0, none, .slice a_0 xs.length c_0, .pt 0 .slice⟩, ⟨1, none, .slice a_1 ys.length c_1, .pt 1 .slice⟩] [.ro a_0 xs.length c_0 [.ints .i64 xs], .ro a_1 ys.length c_1 [.ints .i64 ys]]) (h : Longs_wp1 xs ys a_0 c_0 a_1 c_1 i Q1 (fun x => x = r_)) : (Tree.br (decide (i < (↑(List.length xs) : Int))) (Tree.need ((0 : Int) ≤ i ∧ i < (↑(List.length xs) : Int)) (Tree.need ((0 : Int) ≤ i ∧ i < (↑(List.length ys) : Int)) (Tree.br (List.getD xs (Int.toNat i) (0 : Int) != List.getD ys (Int.toNat i) (0 : Int)) (Tree.ret (Value.bool false) [Chunk.ro a_0 (List.length xs) c_0 [Col.ints IntKind.i64 xs], Chunk.ro a_1 (List.length ys) c_1 [Col.ints IntKind.i64 ys]]) (Tree.stuck [Ab.again [0, 1, 0, 1, 1], Ab.blk 0, Ab.code [1, 1, 1]] [{ s := 5, g := none, v := Value.int IntKind.i64 (IntKind.wrap IntKind.i64 (i + (1 : Int))), p := Pr.no }, { s := 16, g := none, v := Value.int IntKind.i64 (IntKind.wrap IntKind.i64 (i + (1 : Int))), p := Pr.no }, { s := 15, g := none, v := Value.int IntKind.i64 i, p := Pr.no }, { s := 25, g := none, v := Value.bool (List.getD xs (Int.toNat i) (0 : Int) != List.getD ys (Int.toNat i) (0 : Int)), p := Pr.no }, { s := 24, g := none, v := Value.int IntKind.i64 (List.getD ys (Int.toNat i) (0 : Int)), p := Pr.no }, { s := 23, g := none, v := Value.pointer (Option.map (fun a => Addr.add a (Int.toNat i * 1)) a_1), p := Pr.pt 1 (PK.elem (Int.toNat i) 0) }, { s := 22, g := none, v := Value.int IntKind.i64 i, p := Pr.no }, { s := 21, g := none, v := Value.slice a_1 (List.length ys) c_1, p := Pr.pt 1 PK.slice }, { s := 20, g := none, v := Value.int IntKind.i64 (List.getD xs (Int.toNat i) (0 : Int)), p := Pr.no }, { s := 19, g := none, v := Value.pointer (Option.map (fun a => Addr.add a (Int.toNat i * 1)) a_0), p := Pr.pt 0 (PK.elem (Int.toNat i) 0) }, { s := 18, g := none, v := Value.int IntKind.i64 i, p := Pr.no }, { s := 17, g := none, v := Value.slice a_0 (List.length xs) c_0, p := Pr.pt 0 PK.slice }, { s := 14, g := none, v := Value.bool (decide (i < (↑(List.length xs) : Int))), p := Pr.no }, { s := 13, g := none, v := Value.int IntKind.i64 (↑(List.length xs) : Int), p := Pr.no }, { s := 12, g := none, v := Value.slice a_0 (List.length xs) c_0, p := Pr.pt 0 PK.slice }, { s := 11, g := none, v := Value.int IntKind.i64 i, p := Pr.no }, { s := 0, g := none, v := Value.slice a_0 (List.length xs) c_0, p := Pr.pt 0 PK.slice }, { s := 1, g := none, v := Value.slice a_1 (List.length ys) c_1, p := Pr.pt 1 PK.slice }] [Chunk.ro a_0 (List.length xs) c_0 [Col.ints IntKind.i64 xs], Chunk.ro a_1 (List.length ys) c_1 [Col.ints IntKind.i64 ys]])))) (Tree.ret (Value.bool true) [Chunk.ro a_0 (List.length xs) c_0 [Col.ints IntKind.i64 xs], Chunk.ro a_1 (List.length ys) c_1 [Col.ints IntKind.i64 ys]]) : Tree Sg).holds (RetOk (Longs_out r_) (Longs_nw r_) (Longs_rows r_)) (SW Dg Try.prog 20 (Post Dg E_ G_ (Longs_out r_) (Longs_nw r_) (Longs_rows r_)) (bodyOf Try.f20) Try.f20.ntmps E_ G_) :=
  ⟨fun z0 => ⟨(h.1 z0).1, fun z1 => ⟨((h.1 z0).2 z1).1, fun z2 => ⟨fun z3 => RetOk.at (outf := Longs_out) (nwf := Longs_nw) (rowsf := Longs_rows) (r := false) ((((h.1 z0).2 z1).2 z2).1 z3) ⟨[], [], (by decide), rfl, rfl, trivial⟩, fun z3 => SW.move Dg [5, 0, 1] [0, 1] (by decide) (by kernel_rfl) (by kernel_rfl) (SW.again Dg (hQ1 (IntKind.wrap IntKind.i64 (i + (1 : Int))) ((((h.1 z0).2 z1).2 z2).2 z3)))⟩⟩⟩, fun z0 => RetOk.at (outf := Longs_out) (nwf := Longs_nw) (rowsf := Longs_rows) (r := true) (h.2 z0) ⟨[], [], (by decide), rfl, rfl, trivial⟩⟩
theorem Longs_go1 {E_ : World} {G_ : Hp} (xs : List Int) (ys : List Int) (a_0 : Option Addr) (c_0 : Nat) (a_1 : Option Addr) (c_1 : Nat) (i : Int) {r_ : Bool} {Q1 : Int → Prop} (hQ1 : ∀ (i : Int), Q1 i → SW Dg Try.prog 20 (Post Dg E_ G_ (Longs_out r_) (Longs_nw r_) (Longs_rows r_)) (bodyOf Try.f20) Try.f20.ntmps E_ G_ (.code (0 :: [0,1,0,1,1]) :: .again [0,1,0,1,1] :: [.blk 0, .code [1,1,1]]) [⟨5, none, .int .i64 i, .no⟩, ⟨0, none, .slice a_0 xs.length c_0, .pt 0 .slice⟩, ⟨1, none, .slice a_1 ys.length c_1, .pt 1 .slice⟩] [.ro a_0 xs.length c_0 [.ints .i64 xs], .ro a_1 ys.length c_1 [.ints .i64 ys]]) (h : Longs_wp1 xs ys a_0 c_0 a_1 c_1 i Q1 (fun x => x = r_)) : SW Dg Try.prog 20 (Post Dg E_ G_ (Longs_out r_) (Longs_nw r_) (Longs_rows r_)) (bodyOf Try.f20) Try.f20.ntmps E_ G_ (.code (0 :: [0,1,0,1,1]) :: .again [0,1,0,1,1] :: [.blk 0, .code [1,1,1]]) [⟨5, none, .int .i64 i, .no⟩, ⟨0, none, .slice a_0 xs.length c_0, .pt 0 .slice⟩, ⟨1, none, .slice a_1 ys.length c_1, .pt 1 .slice⟩] [.ro a_0 xs.length c_0 [.ints .i64 xs], .ro a_1 ys.length c_1 [.ints .i64 ys]] :=
  SW.go Dg T_r05_Slots_ok Try.func20 mix 400 (by kernel_rfl) (Longs_pc1 xs ys a_0 c_0 a_1 c_1 i hQ1 h)
theorem Longs_start {E_ : World} {G_ : Hp} {w_ : World} (xs : List Int) (ys : List Int) (a_0 : Option Addr) (c_0 : Nat) (a_1 : Option Addr) (c_1 : Nat) (hr0 : RowAt G_ a_0 xs.length [.ints .i64 xs]) (hr1 : RowAt G_ a_1 ys.length [.ints .i64 ys]) {r_ : Bool} {Q1 : Int → Prop} (hQ1 : ∀ (i : Int), Q1 i → SW Dg Try.prog 20 (Post Dg E_ G_ (Longs_out r_) (Longs_nw r_) (Longs_rows r_)) (bodyOf Try.f20) Try.f20.ntmps E_ G_ (.code (0 :: [0,1,0,1,1]) :: .again [0,1,0,1,1] :: [.blk 0, .code [1,1,1]]) [⟨5, none, .int .i64 i, .no⟩, ⟨0, none, .slice a_0 xs.length c_0, .pt 0 .slice⟩, ⟨1, none, .slice a_1 ys.length c_1, .pt 1 .slice⟩] [.ro a_0 xs.length c_0 [.ints .i64 xs], .ro a_1 ys.length c_1 [.ints .i64 ys]]) (hS : Sat E_ G_ w_ []) (h : Longs_wp0 xs ys a_0 c_0 a_1 c_1 Q1 (fun x => x = r_)) : Calls Try.prog 20 #[(.slice a_0 xs.length c_0), (.slice a_1 ys.length c_1)] w_ (Post Dg E_ G_ (Longs_out r_) (Longs_nw r_) (Longs_rows r_)) :=
  calls_post Dg T_r05_Slots_ok Try.func20 mix (B := bodyOf Try.f20) (by kernel_rfl) [(.slice a_0 xs.length c_0), (.slice a_1 ys.length c_1)] [.pt 0 .slice, .pt 1 .slice] (by kernel_rfl) (objs := []) (ros := [.ro a_0 xs.length c_0 [.ints .i64 xs], .ro a_1 ys.length c_1 [.ints .i64 ys]]) (psOk_cons (pOk_at rfl rfl) (psOk_cons (pOk_at rfl rfl) (psOk_nil))) (by kernel_rfl) (⟨hr0, hr1, trivial⟩) hS 400
    (t := Tree.br ((↑(List.length xs) : Int) != (↑(List.length ys) : Int)) (Tree.ret (Value.bool false) [Chunk.ro a_0 (List.length xs) c_0 [Col.ints IntKind.i64 xs], Chunk.ro a_1 (List.length ys) c_1 [Col.ints IntKind.i64 ys]]) (Tree.stuck [Ab.code [0, 1, 0, 1, 1], Ab.blk 0, Ab.code [1, 1, 1]] [{ s := 5, g := none, v := Value.int IntKind.i64 (0 : Int), p := Pr.no }, { s := 10, g := none, v := Value.bool ((↑(List.length xs) : Int) != (↑(List.length ys) : Int)), p := Pr.no }, { s := 9, g := none, v := Value.int IntKind.i64 (↑(List.length ys) : Int), p := Pr.no }, { s := 8, g := none, v := Value.slice a_1 (List.length ys) c_1, p := Pr.pt 1 PK.slice }, { s := 7, g := none, v := Value.int IntKind.i64 (↑(List.length xs) : Int), p := Pr.no }, { s := 6, g := none, v := Value.slice a_0 (List.length xs) c_0, p := Pr.pt 0 PK.slice }, { s := 4, g := none, v := Value.bool false, p := Pr.no }, { s := 0, g := none, v := Value.slice a_0 (List.length xs) c_0, p := Pr.pt 0 PK.slice }, { s := 1, g := none, v := Value.slice a_1 (List.length ys) c_1, p := Pr.pt 1 PK.slice }] [Chunk.ro a_0 (List.length xs) c_0 [Col.ints IntKind.i64 xs], Chunk.ro a_1 (List.length ys) c_1 [Col.ints IntKind.i64 ys]]))
    (by kernel_rfl)
    (Longs_pc0 xs ys a_0 c_0 a_1 c_1 hQ1 h)
def Longs_I (xs : List Int) (ys : List Int) (a_0 : Option Addr) (c_0 : Nat) (a_1 : Option Addr) (c_1 : Nat) (i : Int) (r_ : Bool) : Prop := 0 ≤ i ∧ i ≤ xs.length ∧ xs.length = ys.length ∧ (∀ j : Nat, j < i.toNat → xs.getD j 0 = ys.getD j 0) ∧ r_ = decide (xs = ys) ∧ xs.length ≤ 9223372036854775807
theorem Longs_step (xs : List Int) (ys : List Int) (a_0 : Option Addr) (c_0 : Nat) (a_1 : Option Addr) (c_1 : Nat) (i : Int) {r_ : Bool} (hI : Longs_I xs ys a_0 c_0 a_1 c_1 i r_) : Longs_wp1 xs ys a_0 c_0 a_1 c_1 i (fun i' => Longs_I xs ys a_0 c_0 a_1 c_1 i' r_ ∧ ((xs.length - i').toNat) < ((xs.length - i).toNat)) (fun x => x = r_) := by
  unfold Longs_I at hI
  unfold Longs_wp1 Longs_I
  obtain ⟨h0, h1, h2, h3, h4, h5⟩ := hI
  refine ⟨fun h => ?_, fun h => ?_⟩
  · simp only [decide_eq_true_eq] at h
    rw [w64 (by omega)]
    refine ⟨⟨h0, h⟩, fun _ => ⟨⟨h0, by omega⟩, fun _ => ⟨fun hn => ?_, fun hn => ?_⟩⟩⟩
    · show false = r_
      rw [h4]
      symm
      simp only [decide_eq_false_iff_not]
      rintro rfl
      simp at hn
    · refine ⟨⟨by omega, by omega, h2, fun j hj => ?_, h4, h5⟩, by omega⟩
      by_cases hji : j = i.toNat
      · subst hji; simpa using hn
      · exact h3 j (by omega)
  · simp only [decide_eq_false_iff_not] at h
    show true = r_
    rw [h4]
    symm
    simp only [decide_eq_true_eq]
    exact ext_getD h2 fun j hj => h3 j (by omega)
theorem Longs_loop {E_ : World} {G_ : Hp} (xs : List Int) (ys : List Int) (a_0 : Option Addr) (c_0 : Nat) (a_1 : Option Addr) (c_1 : Nat) {r_ : Bool} : ∀ s_ : Int, Longs_I xs ys a_0 c_0 a_1 c_1 s_ r_ → SW Dg Try.prog 20 (Post Dg E_ G_ (Longs_out r_) (Longs_nw r_) (Longs_rows r_)) (bodyOf Try.f20) Try.f20.ntmps E_ G_ (.code (0 :: [0,1,0,1,1]) :: .again [0,1,0,1,1] :: [.blk 0, .code [1,1,1]]) [⟨5, none, .int .i64 s_, .no⟩, ⟨0, none, .slice a_0 xs.length c_0, .pt 0 .slice⟩, ⟨1, none, .slice a_1 ys.length c_1, .pt 1 .slice⟩] [.ro a_0 xs.length c_0 [.ints .i64 xs], .ro a_1 ys.length c_1 [.ints .i64 ys]] :=
  SW.loop Dg (α := Int) (fun s_ => [⟨5, none, .int .i64 s_, .no⟩, ⟨0, none, .slice a_0 xs.length c_0, .pt 0 .slice⟩, ⟨1, none, .slice a_1 ys.length c_1, .pt 1 .slice⟩]) (fun s_ => [.ro a_0 xs.length c_0 [.ints .i64 xs], .ro a_1 ys.length c_1 [.ints .i64 ys]]) (fun s_ => (xs.length - s_).toNat) (fun s_ => Longs_I xs ys a_0 c_0 a_1 c_1 s_ r_) (fun i hI ih => Longs_go1 xs ys a_0 c_0 a_1 c_1 i (fun i' h => ih i' h.1 h.2) (Longs_step xs ys a_0 c_0 a_1 c_1 i hI))
theorem Longs_begin (xs : List Int) (ys : List Int) (a_0 : Option Addr) (c_0 : Nat) (a_1 : Option Addr) (c_1 : Nat) (hl0 : xs.length ≤ 9223372036854775807) (hl1 : ys.length ≤ 9223372036854775807) : Longs_wp0 xs ys a_0 c_0 a_1 c_1 (fun i => Longs_I xs ys a_0 c_0 a_1 c_1 i (Longs xs ys)) (fun x => x = (Longs xs ys)) := by
  unfold Longs_wp0 Longs_I
  refine ⟨fun h => ?_, fun h => ?_⟩
  · simp only [bne_iff_ne, ne_eq] at h
    show false = Longs xs ys
    symm
    simp only [Longs, decide_eq_false_iff_not]
    rintro rfl
    exact h rfl
  · simp only [bne_eq_false_iff_eq] at h
    exact ⟨by omega, by omega, by omega, fun j hj => absurd hj (Nat.not_lt_zero j), rfl, hl0⟩
theorem Longs_calls {E_ : World} {G_ : Hp} {w_ : World} (xs : List Int) (ys : List Int) (a_0 : Option Addr) (c_0 : Nat) (a_1 : Option Addr) (c_1 : Nat) (hr0 : RowAt G_ a_0 xs.length [.ints .i64 xs]) (hr1 : RowAt G_ a_1 ys.length [.ints .i64 ys]) (hS : Sat E_ G_ w_ []) : Calls Try.prog 20 #[(.slice a_0 xs.length c_0), (.slice a_1 ys.length c_1)] w_ (Post Dg E_ G_ (Longs_out (Longs xs ys)) (Longs_nw (Longs xs ys)) (Longs_rows (Longs xs ys))) :=
  Longs_start xs ys a_0 c_0 a_1 c_1 hr0 hr1 (fun i h => Longs_loop xs ys a_0 c_0 a_1 c_1 i h) hS (Longs_begin xs ys a_0 c_0 a_1 c_1 hr0.bound hr1.bound )
def Longs_e : Entry Sg := fun
  | [(_, .row n_0 [.ints .i64 xs]), (_, .row n_1 [.ints .i64 ys])] => some ⟨[], none, rowsR [], fun ss => .bool ((Longs xs ys)), fun k_ => .no⟩
  | _ => none
theorem Longs_ok : EntryOk Dg Try.prog 20 Longs_e := by
  intro args r h
  unfold Longs_e at h
  split at h
  · injection h with h; subst h
    refine ⟨fun K acs _ => pOk_no, fun hpre E G w hi hS => ?_⟩
    have hi_0 := hi _ (List.mem_of_getElem? (i := 0) rfl)
    simp only [iOk] at hi_0
    obtain ⟨a_0, c_0, e_0, hr0⟩ := hi_0
    have l_0 := hr0.len
    simp only [Col.len] at l_0
    subst l_0
    subst e_0
    have hi_1 := hi _ (List.mem_of_getElem? (i := 1) rfl)
    simp only [iOk] at hi_1
    obtain ⟨a_1, c_1, e_1, hr1⟩ := hi_1
    have l_1 := hr1.len
    simp only [Col.len] at l_1
    subst l_1
    subst e_1
    exact entry_post Dg (nw := []) rfl (Longs_calls _ _ _ _ _ _ hr0 hr1  hS)
  · cases h
def T_Longs : List (Nat × Entry Sg) := (20, Longs_e) :: T_r05_Slots
theorem T_Longs_ok : TableOk Dg Try.prog T_Longs := TableOk.cons Dg Longs_ok T_r05_Slots_ok

/-- nacreref05.Size -/
def r05_Size (s : Int) (k : Int) : Int := (bif r05_Slots k == (0 : Int) || r04_Page (1 : Int) (4 : Int) s == (0 : Int) then (0 : Int) else IntKind.wrap IntKind.i64 (IntKind.wrap IntKind.i64 (Int.tdiv (r04_Page (1 : Int) (4 : Int) s) (r05_Slots k)) - Int.tmod (IntKind.wrap IntKind.i64 (Int.tdiv (r04_Page (1 : Int) (4 : Int) s) (r05_Slots k))) (16 : Int)))
def r05_Size_out (r_ : Int) : List Value → Value := fun ss => .int .i64 (r_)
def r05_Size_nw (r_ : Int) : List (Chunk Sg) := []
def r05_Size_rows (r_ : Int) : List (TypeId × List Col) := []
theorem r05_Size_calls {E_ : World} {G_ : Hp} {w_ : World} (s : Int) (k : Int) (hS : Sat E_ G_ w_ []) : Calls Try.prog 19 #[(.int .i64 s), (.int .i64 k)] w_ (Post Dg E_ G_ (r05_Size_out (r05_Size s k)) (r05_Size_nw (r05_Size s k)) (r05_Size_rows (r05_Size s k))) :=
  calls_post Dg T_Longs_ok Try.func19 mix (B := bodyOf Try.f19) (by kernel_rfl) [(.int .i64 s), (.int .i64 k)] [.no, .no] (by kernel_rfl) (objs := []) (ros := []) (psOk_cons pOk_no (psOk_cons pOk_no (psOk_nil))) (by kernel_rfl) (trivial) hS 400
    (t := Tree.br (r05_Slots k == (0 : Int) || r04_Page (1 : Int) (4 : Int) s == (0 : Int)) (Tree.ret (Value.int IntKind.i64 (0 : Int)) []) (Tree.need (r05_Slots k ≠ (0 : Int)) (Tree.ret (Value.int IntKind.i64 (IntKind.wrap IntKind.i64 (IntKind.wrap IntKind.i64 (Int.tdiv (r04_Page (1 : Int) (4 : Int) s) (r05_Slots k)) - Int.tmod (IntKind.wrap IntKind.i64 (Int.tdiv (r04_Page (1 : Int) (4 : Int) s) (r05_Slots k))) (16 : Int)))) [])))
    (by kernel_rfl)
    (⟨fun z0 => RetOk.at (outf := r05_Size_out) (nwf := r05_Size_nw) (rowsf := r05_Size_rows) (r := (0 : Int)) (by first | exact Eq.symm ((cT z0).trans rfl) | (simp only [r05_Size, z0, cond_true, cond_false]; done) | (exfalso; simp_all; done) | decide) ⟨[], [], (by decide), rfl, rfl, trivial⟩, fun z0 => ⟨by first | (simp only [Bool.or_eq_false_iff, beq_eq_false_iff_ne, ne_eq] at z0; omega) | omega, fun y1 => RetOk.at (outf := r05_Size_out) (nwf := r05_Size_nw) (rowsf := r05_Size_rows) (r := IntKind.wrap IntKind.i64 (IntKind.wrap IntKind.i64 (Int.tdiv (r04_Page (1 : Int) (4 : Int) s) (r05_Slots k)) - Int.tmod (IntKind.wrap IntKind.i64 (Int.tdiv (r04_Page (1 : Int) (4 : Int) s) (r05_Slots k))) (16 : Int))) (by first | exact Eq.symm ((cF z0).trans rfl) | (simp only [r05_Size, z0, cond_true, cond_false]; done) | (exfalso; simp_all; done) | decide) ⟨[], [], (by decide), rfl, rfl, trivial⟩⟩⟩)
def r05_Size_e : Entry Sg := fun
  | [(.int .i64 s, _), (.int .i64 k, _)] => some ⟨[], none, rowsR [], fun ss => .int .i64 ((r05_Size s k)), fun k_ => .no⟩
  | _ => none
theorem r05_Size_ok : EntryOk Dg Try.prog 19 r05_Size_e := by
  intro args r h
  unfold r05_Size_e at h
  split at h
  · injection h with h; subst h
    refine ⟨fun K acs _ => pOk_no, fun hpre E G w hi hS => ?_⟩
    exact entry_post Dg (nw := []) rfl (r05_Size_calls _ _  hS)
  · cases h
def T_r05_Size : List (Nat × Entry Sg) := (19, r05_Size_e) :: T_Longs
theorem T_r05_Size_ok : TableOk Dg Try.prog T_r05_Size := TableOk.cons Dg r05_Size_ok T_Longs_ok

theorem size_table : ∀ i : Nat, i < 11 → ∀ k : Nat, k < 9 → class_Size (10 + (i : Int)) (k : Int) = r05_Size (10 + (i : Int)) (k : Int) ∧ 0 < r05_Size (10 + (i : Int)) (k : Int) := by decide +kernel
theorem r04_Page_pos {s : Int} : (r04_Page 1 4 s == 0) = decide (s < 10 ∨ 20 < s) := by
  by_cases h : s < 10 ∨ 20 < s
  · have : r04_Right 1 4 s = false := by
      simp only [r04_Right, Bool.and_eq_false_iff, decide_eq_false_iff_not]; omega
    simp [r04_Page, this, h]
  · have : r04_Right 1 4 s = true := by
      simp only [r04_Right, Bool.and_eq_true, decide_eq_true_eq]; omega
    have := pow2_pos s.toNat
    simp only [r04_Page, *, Bool.not_true, cond_false, decide_false]
    simp; omega
theorem class_Slots_zero {k : Int} : (class_Slots k == 0) = decide (k < 0 ∨ 9 ≤ k) := by
  by_cases h : k < 0 ∨ 9 ≤ k
  · have : (decide (k < 0) || decide (k ≥ 9)) = true := by simpa using h
    simp [class_Slots, this, h]
  · rcases (by omega : k = 0 ∨ k = 1 ∨ k = 2 ∨ k = 3 ∨ k = 4 ∨ k = 5 ∨ k = 6 ∨ k = 7 ∨ k = 8) with rfl | rfl | rfl | rfl | rfl | rfl | rfl | rfl | rfl <;> decide
theorem slots_same (k : Int) : class_Slots k = r05_Slots k := by
  by_cases h : k < 0 ∨ 9 ≤ k
  · have : (decide (k < 0) || decide (k ≥ 9)) = true := by simpa using h
    have e : ∀ n : Int, 0 ≤ n → n < 9 → (k == n) = false := fun n h0 h1 => by simp; omega
    simp [class_Slots, r05_Slots, this, e]
  · rcases (by omega : k = 0 ∨ k = 1 ∨ k = 2 ∨ k = 3 ∨ k = 4 ∨ k = 5 ∨ k = 6 ∨ k = 7 ∨ k = 8) with rfl | rfl | rfl | rfl | rfl | rfl | rfl | rfl | rfl <;> decide
theorem class_Size_zero {s k : Int} (h : k < 0 ∨ 9 ≤ k ∨ s < 10 ∨ 20 < s) : class_Size s k = 0 ∧ r05_Size s k = 0 := by
  have h1 : (class_Slots k == 0 || decide (s < 10) || decide (s > 20)) = true := by
    rw [class_Slots_zero]; simp only [Bool.or_eq_true, decide_eq_true_eq]; omega
  have h2 : (r05_Slots k == 0 || r04_Page 1 4 s == 0) = true := by
    rw [← slots_same, class_Slots_zero, r04_Page_pos]; simp only [Bool.or_eq_true, decide_eq_true_eq]; omega
  exact ⟨by simp only [class_Size, h1, cond_true], by simp only [r05_Size, h2, cond_true]⟩
theorem size_in {s k : Int} (h : 0 ≤ k ∧ k < 9 ∧ 10 ≤ s ∧ s ≤ 20) : class_Size s k = r05_Size s k ∧ 0 < r05_Size s k := by
  have := size_table (s - 10).toNat (by omega) k.toNat (by omega)
  rwa [show (10 + ((s - 10).toNat : Int)) = s by omega, show ((k.toNat : Nat) : Int) = k by omega] at this
theorem size_same (s k : Int) : class_Size s k = r05_Size s k := by
  by_cases h : 0 ≤ k ∧ k < 9 ∧ 10 ≤ s ∧ s ≤ 20
  · exact (size_in h).1
  · obtain ⟨h1, h2⟩ := class_Size_zero (s := s) (k := k) (by omega); rw [h1, h2]
theorem size_pos {s k : Int} (h : 0 ≤ k ∧ k < 9) : 0 < r05_Size s k ↔ 10 ≤ s ∧ s ≤ 20 := by
  constructor
  · intro h1
    apply Classical.byContradiction
    intro h2
    have := (class_Size_zero (s := s) (k := k) (by omega)).2
    omega
  · intro h1; exact (size_in (by omega)).2
theorem size_nonneg (s k : Int) : 0 ≤ r05_Size s k := by
  by_cases h : 0 ≤ k ∧ k < 9 ∧ 10 ≤ s ∧ s ≤ 20
  · have := (size_in h).2; omega
  · have := (class_Size_zero (s := s) (k := k) (by omega)).2; omega


/-- nacreref05.Table -/
def r05_Table (s : Int) : List Int := bif r05_Size s 0 == 0 then [] else (List.range 9).map fun (k : Nat) => r05_Size s k
def r05_Table_out (r_ : List Int) : List Value → Value := fun ss => ss.getD 0 undef
def r05_Table_nw (r_ : List Int) : List (Chunk Sg) := []
def r05_Table_rows (r_ : List Int) : List (TypeId × List Col) := [(2, [.ints .i64 (r_)])]
def r05_Table_wp0 (s : Int) (Q1 : Int → List Int → Option Nat → Nat → Nat → Prop) (R_ : List Int → Prop) : Prop := (∀ b0_0 : Nat, (Q1 ((0 : Int)) ([]) (some b0_0) (0) (0)))
theorem r05_Table_pc0 {E_ : World} {G_ : Hp} (s : Int) {r_ : List Int} {Q1 : Int → List Int → Option Nat → Nat → Nat → Prop} (hQ1 : ∀ (k : Int) (xs : List Int) (a : Option Nat) (n : Nat) (c : Nat), Q1 k xs a n c → SW Dg Try.prog 22 (Post Dg E_ G_ (r05_Table_out r_) (r05_Table_nw r_) (r05_Table_rows r_)) (bodyOf Try.f22) Try.f22.ntmps E_ G_ (.code (0 :: [0,1,0,1,1]) :: .again [0,1,0,1,1] :: [.blk 0, .code [1,1,1]]) [⟨4, none, .int .i64 k, .no⟩, ⟨3, none, .slice (a.map fun b => ⟨b, 0, none⟩) n c, .pt 0 .slice⟩, ⟨0, none, .int .i64 s, .no⟩] [.row a 2 n c [.ints .i64 xs]]) (h : r05_Table_wp0 s Q1 (fun x => x = r_)) : (Tree.fresh fun b => Tree.stuck [Ab.code [0, 1, 0, 1, 1], Ab.blk 0, Ab.code [1, 1, 1]] [{ s := 4, g := none, v := Value.int IntKind.i64 (0 : Int), p := Pr.no }, { s := 3, g := none, v := Value.slice (some { block := b, off := 0 }) 0 0, p := Pr.pt 0 PK.slice }, { s := 5, g := none, v := Value.slice (some { block := b, off := 0 }) 0 0, p := Pr.pt 0 PK.slice }, { s := 2, g := none, v := Value.slice none 0 0, p := Pr.no }, { s := 0, g := none, v := Value.int IntKind.i64 s, p := Pr.no }] [Chunk.row (some b) 2 0 0 [Col.ints IntKind.i64 []]] : Tree Sg).holds (RetOk (r05_Table_out r_) (r05_Table_nw r_) (r05_Table_rows r_)) (SW Dg Try.prog 22 (Post Dg E_ G_ (r05_Table_out r_) (r05_Table_nw r_) (r05_Table_rows r_)) (bodyOf Try.f22) Try.f22.ntmps E_ G_) :=
  fun b0_0 => SW.move Dg [4, 3, 0] [0] (by decide) (by kernel_rfl) (by kernel_rfl) (SW.enter Dg (by kernel_rfl) (hQ1 ((0 : Int)) ([]) (some b0_0) (0) (0) (h b0_0)))
def r05_Table_wp1 (s : Int) (k : Int) (xs : List Int) (a : Option Nat) (n : Nat) (c : Nat) (Q1 : Int → List Int → Option Nat → Nat → Nat → Prop) (R_ : List Int → Prop) : Prop := (((decide (k < (9 : Int)) && decide (r05_Size s k > (0 : Int))) = true → (∀ b1_0 : Nat, (((n + 1) * 8 ≤ 140737488355328) ∧ (((n + 1) * 8 ≤ 140737488355328) → (∀ (b3_0 : Option Nat) (b3_1 : Nat), (Q1 (IntKind.wrap IntKind.i64 (k + (1 : Int))) (xs ++ [r05_Size s k]) (b3_0) (n + 1) (b3_1))))))) ∧ ((decide (k < (9 : Int)) && decide (r05_Size s k > (0 : Int))) = false → (R_ (xs))))
theorem r05_Table_pc1 {E_ : World} {G_ : Hp} (s : Int) (k : Int) (xs : List Int) (a : Option Nat) (n : Nat) (c : Nat) {r_ : List Int} {Q1 : Int → List Int → Option Nat → Nat → Nat → Prop} (hQ1 : ∀ (k : Int) (xs : List Int) (a : Option Nat) (n : Nat) (c : Nat), Q1 k xs a n c → SW Dg Try.prog 22 (Post Dg E_ G_ (r05_Table_out r_) (r05_Table_nw r_) (r05_Table_rows r_)) (bodyOf Try.f22) Try.f22.ntmps E_ G_ (.code (0 :: [0,1,0,1,1]) :: .again [0,1,0,1,1] :: [.blk 0, .code [1,1,1]]) [⟨4, none, .int .i64 k, .no⟩, ⟨3, none, .slice (a.map fun b => ⟨b, 0, none⟩) n c, .pt 0 .slice⟩, ⟨0, none, .int .i64 s, .no⟩] [.row a 2 n c [.ints .i64 xs]]) (h : r05_Table_wp1 s k xs a n c Q1 (fun x => x = r_)) : (Tree.br (decide (k < (9 : Int)) && decide (r05_Size s k > (0 : Int))) (Tree.fresh fun b => Tree.need ((n + 1) * 8 ≤ 140737488355328) (Tree.freshS fun a_1 cap => Tree.stuck [Ab.again [0, 1, 0, 1, 1], Ab.blk 0, Ab.code [1, 1, 1]] [{ s := 4, g := none, v := Value.int IntKind.i64 (IntKind.wrap IntKind.i64 (k + (1 : Int))), p := Pr.no }, { s := 15, g := none, v := Value.int IntKind.i64 (IntKind.wrap IntKind.i64 (k + (1 : Int))), p := Pr.no }, { s := 14, g := none, v := Value.int IntKind.i64 k, p := Pr.no }, { s := 3, g := none, v := Value.slice (Option.map (fun b => { block := b, off := 0 }) a_1) (n + 1) cap, p := Pr.pt 2 PK.slice }, { s := 21, g := none, v := Value.slice (Option.map (fun b => { block := b, off := 0 }) a_1) (n + 1) cap, p := Pr.pt 2 PK.slice }, { s := 20, g := none, v := Value.slice (some { block := b, off := 0 }) 1 1, p := Pr.pt 1 PK.slice }, { s := 19, g := none, v := Value.int IntKind.i64 (r05_Size s k), p := Pr.no }, { s := 18, g := none, v := Value.int IntKind.i64 k, p := Pr.no }, { s := 17, g := none, v := Value.int IntKind.i64 s, p := Pr.no }, { s := 16, g := none, v := Value.slice (Option.map (fun b => { block := b, off := 0 }) a) n c, p := Pr.pt 0 PK.slice }, { s := 13, g := none, v := Value.bool (decide (k < (9 : Int)) && decide (r05_Size s k > (0 : Int))), p := Pr.no }, { s := 12, g := some (8, true), v := Value.bool (decide (r05_Size s k > (0 : Int))), p := Pr.no }, { s := 11, g := some (8, true), v := Value.int IntKind.i64 (r05_Size s k), p := Pr.no }, { s := 10, g := some (8, true), v := Value.int IntKind.i64 k, p := Pr.no }, { s := 9, g := some (8, true), v := Value.int IntKind.i64 s, p := Pr.no }, { s := 8, g := none, v := Value.bool (decide (k < (9 : Int))), p := Pr.no }, { s := 7, g := none, v := Value.bool (decide (k < (9 : Int))), p := Pr.no }, { s := 6, g := none, v := Value.int IntKind.i64 k, p := Pr.no }, { s := 0, g := none, v := Value.int IntKind.i64 s, p := Pr.no }] [Chunk.dead, Chunk.row (some b) 2 1 1 [Col.ints IntKind.i64 [r05_Size s k]], Chunk.row a_1 2 (n + 1) cap [Col.ints IntKind.i64 (xs ++ [r05_Size s k])]])) (Tree.ret (Value.slice (Option.map (fun b => { block := b, off := 0 }) a) n c) [Chunk.row a 2 n c [Col.ints IntKind.i64 xs]]) : Tree Sg).holds (RetOk (r05_Table_out r_) (r05_Table_nw r_) (r05_Table_rows r_)) (SW Dg Try.prog 22 (Post Dg E_ G_ (r05_Table_out r_) (r05_Table_nw r_) (r05_Table_rows r_)) (bodyOf Try.f22) Try.f22.ntmps E_ G_) :=
  ⟨fun z0 => fun b1_0 => ⟨((h.1 z0) b1_0).1, fun z2 => fun b3_0 b3_1 => SW.move Dg [4, 3, 0] [2] (by decide) (by kernel_rfl) (by kernel_rfl) (SW.again Dg (hQ1 (IntKind.wrap IntKind.i64 (k + (1 : Int))) (xs ++ [r05_Size s k]) (b3_0) (n + 1) (b3_1) ((((h.1 z0) b1_0).2 z2) b3_0 b3_1)))⟩, fun z0 => RetOk.at (outf := r05_Table_out) (nwf := r05_Table_nw) (rowsf := r05_Table_rows) (r := xs) (h.2 z0) ⟨[(a, n, c)], [0], (by decide), rfl, rfl, ⟨.inl rfl, trivial⟩⟩⟩
theorem r05_Table_go1 {E_ : World} {G_ : Hp} (s : Int) (k : Int) (xs : List Int) (a : Option Nat) (n : Nat) (c : Nat) {r_ : List Int} {Q1 : Int → List Int → Option Nat → Nat → Nat → Prop} (hQ1 : ∀ (k : Int) (xs : List Int) (a : Option Nat) (n : Nat) (c : Nat), Q1 k xs a n c → SW Dg Try.prog 22 (Post Dg E_ G_ (r05_Table_out r_) (r05_Table_nw r_) (r05_Table_rows r_)) (bodyOf Try.f22) Try.f22.ntmps E_ G_ (.code (0 :: [0,1,0,1,1]) :: .again [0,1,0,1,1] :: [.blk 0, .code [1,1,1]]) [⟨4, none, .int .i64 k, .no⟩, ⟨3, none, .slice (a.map fun b => ⟨b, 0, none⟩) n c, .pt 0 .slice⟩, ⟨0, none, .int .i64 s, .no⟩] [.row a 2 n c [.ints .i64 xs]]) (h : r05_Table_wp1 s k xs a n c Q1 (fun x => x = r_)) : SW Dg Try.prog 22 (Post Dg E_ G_ (r05_Table_out r_) (r05_Table_nw r_) (r05_Table_rows r_)) (bodyOf Try.f22) Try.f22.ntmps E_ G_ (.code (0 :: [0,1,0,1,1]) :: .again [0,1,0,1,1] :: [.blk 0, .code [1,1,1]]) [⟨4, none, .int .i64 k, .no⟩, ⟨3, none, .slice (a.map fun b => ⟨b, 0, none⟩) n c, .pt 0 .slice⟩, ⟨0, none, .int .i64 s, .no⟩] [.row a 2 n c [.ints .i64 xs]] :=
  SW.go Dg T_r05_Size_ok Try.func22 mix 400 (by kernel_rfl) (r05_Table_pc1 s k xs a n c hQ1 h)
theorem r05_Table_start {E_ : World} {G_ : Hp} {w_ : World} (s : Int) {r_ : List Int} {Q1 : Int → List Int → Option Nat → Nat → Nat → Prop} (hQ1 : ∀ (k : Int) (xs : List Int) (a : Option Nat) (n : Nat) (c : Nat), Q1 k xs a n c → SW Dg Try.prog 22 (Post Dg E_ G_ (r05_Table_out r_) (r05_Table_nw r_) (r05_Table_rows r_)) (bodyOf Try.f22) Try.f22.ntmps E_ G_ (.code (0 :: [0,1,0,1,1]) :: .again [0,1,0,1,1] :: [.blk 0, .code [1,1,1]]) [⟨4, none, .int .i64 k, .no⟩, ⟨3, none, .slice (a.map fun b => ⟨b, 0, none⟩) n c, .pt 0 .slice⟩, ⟨0, none, .int .i64 s, .no⟩] [.row a 2 n c [.ints .i64 xs]]) (hS : Sat E_ G_ w_ []) (h : r05_Table_wp0 s Q1 (fun x => x = r_)) : Calls Try.prog 22 #[(.int .i64 s)] w_ (Post Dg E_ G_ (r05_Table_out r_) (r05_Table_nw r_) (r05_Table_rows r_)) :=
  calls_post Dg T_r05_Size_ok Try.func22 mix (B := bodyOf Try.f22) (by kernel_rfl) [(.int .i64 s)] [.no] (by kernel_rfl) (objs := []) (ros := []) (psOk_cons pOk_no (psOk_nil)) (by kernel_rfl) (trivial) hS 400
    (t := Tree.fresh fun b => Tree.stuck [Ab.code [0, 1, 0, 1, 1], Ab.blk 0, Ab.code [1, 1, 1]] [{ s := 4, g := none, v := Value.int IntKind.i64 (0 : Int), p := Pr.no }, { s := 3, g := none, v := Value.slice (some { block := b, off := 0 }) 0 0, p := Pr.pt 0 PK.slice }, { s := 5, g := none, v := Value.slice (some { block := b, off := 0 }) 0 0, p := Pr.pt 0 PK.slice }, { s := 2, g := none, v := Value.slice none 0 0, p := Pr.no }, { s := 0, g := none, v := Value.int IntKind.i64 s, p := Pr.no }] [Chunk.row (some b) 2 0 0 [Col.ints IntKind.i64 []]])
    (by kernel_rfl)
    (r05_Table_pc0 s hQ1 h)
def r05_Table_I (s : Int) (k : Int) (xs : List Int) (a : Option Nat) (n : Nat) (c : Nat) (r_ : List Int) : Prop := 0 ≤ k ∧ k ≤ 9 ∧ n = k.toNat ∧ xs = (List.range n).map (fun (k : Nat) => r05_Size s k) ∧ (0 < k → 0 < r05_Size s 0) ∧ r_ = bif r05_Size s 0 == 0 then [] else (List.range 9).map fun (k : Nat) => r05_Size s k
theorem r05_Table_step (s : Int) (k : Int) (xs : List Int) (a : Option Nat) (n : Nat) (c : Nat) {r_ : List Int} (hI : r05_Table_I s k xs a n c r_) : r05_Table_wp1 s k xs a n c (fun k' xs' a' n' c' => r05_Table_I s k' xs' a' n' c' r_ ∧ ((9 - k').toNat) < ((9 - k).toNat)) (fun x => x = r_) := by
  unfold r05_Table_I at hI
  unfold r05_Table_wp1 r05_Table_I
  obtain ⟨h0, h1, h2, h3, h4, h5⟩ := hI
  refine ⟨fun h b => ⟨by omega, fun _ a' c' => ?_⟩, fun h => ?_⟩
  · simp only [Bool.and_eq_true, decide_eq_true_eq] at h
    rw [w64 (by omega)]
    refine ⟨⟨by omega, by omega, by omega, ?_, fun _ => ?_, h5⟩, by omega⟩
    · rw [range_snoc, h3, h2, show ((k.toNat : Nat) : Int) = k by omega]
    · exact (size_pos (by omega)).2 ((size_pos (k := k) (by omega)).1 h.2)
  · show xs = r_
    simp only [Bool.and_eq_false_iff, decide_eq_false_iff_not] at h
    by_cases hk : k = 0
    · have hz : r05_Size s 0 = 0 := by
        have := size_nonneg s 0
        subst hk
        omega
      rw [h5, h3, h2, hk]; simp [hz]
    · have hp := h4 (by omega)
      have hp2 := (size_pos (s := s) (k := 0) (by omega)).1 hp
      have hk9 : k = 9 := by
        apply Classical.byContradiction
        intro hn
        have := (size_pos (s := s) (k := k) (by omega)).2 hp2
        omega
      rw [h5, h3, h2, hk9]
      have : (r05_Size s 0 == 0) = false := by simp; omega
      rw [this]; rfl
theorem r05_Table_loop {E_ : World} {G_ : Hp} (s : Int) {r_ : List Int} : ∀ s_ : Int × List Int × Option Nat × Nat × Nat, r05_Table_I s s_.1 s_.2.1 s_.2.2.1 s_.2.2.2.1 s_.2.2.2.2 r_ → SW Dg Try.prog 22 (Post Dg E_ G_ (r05_Table_out r_) (r05_Table_nw r_) (r05_Table_rows r_)) (bodyOf Try.f22) Try.f22.ntmps E_ G_ (.code (0 :: [0,1,0,1,1]) :: .again [0,1,0,1,1] :: [.blk 0, .code [1,1,1]]) [⟨4, none, .int .i64 s_.1, .no⟩, ⟨3, none, .slice (s_.2.2.1.map fun b => ⟨b, 0, none⟩) s_.2.2.2.1 s_.2.2.2.2, .pt 0 .slice⟩, ⟨0, none, .int .i64 s, .no⟩] [.row s_.2.2.1 2 s_.2.2.2.1 s_.2.2.2.2 [.ints .i64 s_.2.1]] :=
  SW.loop Dg (α := Int × List Int × Option Nat × Nat × Nat) (fun s_ => [⟨4, none, .int .i64 s_.1, .no⟩, ⟨3, none, .slice (s_.2.2.1.map fun b => ⟨b, 0, none⟩) s_.2.2.2.1 s_.2.2.2.2, .pt 0 .slice⟩, ⟨0, none, .int .i64 s, .no⟩]) (fun s_ => [.row s_.2.2.1 2 s_.2.2.2.1 s_.2.2.2.2 [.ints .i64 s_.2.1]]) (fun s_ => (9 - s_.1).toNat) (fun s_ => r05_Table_I s s_.1 s_.2.1 s_.2.2.1 s_.2.2.2.1 s_.2.2.2.2 r_) (fun ⟨k, xs, a, n, c⟩ hI ih => r05_Table_go1 s k xs a n c (fun k' xs' a' n' c' h => ih (k', xs', a', n', c') h.1 h.2) (r05_Table_step s k xs a n c hI))
theorem r05_Table_begin (s : Int) : r05_Table_wp0 s (fun k xs a n c => r05_Table_I s k xs a n c (r05_Table s)) (fun x => x = (r05_Table s)) := by
  unfold r05_Table_wp0 r05_Table_I
  intro b
  exact ⟨by omega, by omega, rfl, rfl, fun h => absurd h (by omega), rfl⟩
theorem r05_Table_calls {E_ : World} {G_ : Hp} {w_ : World} (s : Int) (hS : Sat E_ G_ w_ []) : Calls Try.prog 22 #[(.int .i64 s)] w_ (Post Dg E_ G_ (r05_Table_out (r05_Table s)) (r05_Table_nw (r05_Table s)) (r05_Table_rows (r05_Table s))) :=
  r05_Table_start s (fun k xs a n c h => r05_Table_loop s (k, xs, a, n, c) h) hS (r05_Table_begin s )
def r05_Table_e : Entry Sg := fun
  | [(.int .i64 s, _)] => some ⟨[], none, rowsR [(2, [.ints .i64 ((r05_Table s))])], fun ss => ss.getD 0 undef, fun k_ => .pt k_ .slice⟩
  | _ => none
theorem r05_Table_ok : EntryOk Dg Try.prog 22 r05_Table_e := by
  intro args r h
  unfold r05_Table_e at h
  split at h
  · injection h with h; subst h
    refine ⟨(by
    intro K acs hl
    match acs, hl with
    | [ac], _ => simp [rowsR, pOk, psOk, cOk, sliceC, sliceV, sliceVal]), fun hpre E G w hi hS => ?_⟩
    exact entry_post Dg (nw := []) rfl (r05_Table_calls _  hS)
  · cases h
def T_r05_Table : List (Nat × Entry Sg) := (22, r05_Table_e) :: T_r05_Size
theorem T_r05_Table_ok : TableOk Dg Try.prog T_r05_Table := TableOk.cons Dg r05_Table_ok T_r05_Size_ok

def firstGe (l : List Int) (z : Int) : Option Nat := l.findIdx? fun n => decide (n ≥ z)
theorem firstGe_some {l : List Int} {z : Int} {i : Nat} : firstGe l z = some i ↔ i < l.length ∧ l.getD i 0 ≥ z ∧ ∀ j, j < i → ¬ (l.getD j 0 ≥ z) := by
  have e : ∀ j (h : j < l.length), l.getD j 0 = l[j] := fun j h => by rw [List.getD_eq_getElem?_getD, List.getElem?_eq_getElem h]; rfl
  unfold firstGe
  rw [List.findIdx?_eq_some_iff_getElem]
  constructor
  · rintro ⟨h, h1, h2⟩
    refine ⟨h, by rw [e _ h]; simpa using h1, fun j hj => ?_⟩
    rw [e _ (by omega)]; simpa using h2 j hj
  · rintro ⟨h, h1, h2⟩
    refine ⟨h, by rw [e _ h] at h1; simpa using h1, fun j hj => ?_⟩
    have := h2 j hj
    rw [e _ (by omega)] at this; simpa using this
theorem firstGe_none {l : List Int} {z : Int} : firstGe l z = none ↔ ∀ j, j < l.length → ¬ (l.getD j 0 ≥ z) := by
  have e : ∀ j (h : j < l.length), l.getD j 0 = l[j] := fun j h => by rw [List.getD_eq_getElem?_getD, List.getElem?_eq_getElem h]; rfl
  unfold firstGe
  rw [List.findIdx?_eq_none_iff]
  constructor
  · intro h j hj
    have := h _ (List.getElem_mem hj)
    rw [e _ hj]; simpa using this
  · intro h x hx
    obtain ⟨j, hj, rfl⟩ := List.getElem_of_mem hx
    have := h j hj
    rw [e _ hj] at this; simpa using this
theorem r05_Table_len (s : Int) : (r05_Table s).length ≤ 9 := by
  unfold r05_Table; cases (r05_Size s 0 == 0) <;> simp
def ofOpt : Option Nat → Int × Bool
  | some k => ((k : Int), true)
  | none => (0, false)


/-- nacreref05.Of -/
def r05_Of (s : Int) (z : Int) : Int × Bool := bif decide (z < 1) then (0, false) else ofOpt (firstGe (r05_Table s) z)
def r05_Of_out (r_ : Int × Bool) : List Value → Value := fun ss => .tuple #[.int .i64 (r_.1), .bool (r_.2)]
def r05_Of_nw (r_ : Int × Bool) : List (Chunk Sg) := []
def r05_Of_rows (r_ : Int × Bool) : List (TypeId × List Col) := []
def r05_Of_wp0 (s : Int) (z : Int) (Q1 : Int → Option Nat → Nat → Prop) (R_ : Int × Bool → Prop) : Prop := (∀ (b0_0 : Option Nat) (b0_1 : Nat), (Q1 ((0 : Int)) (Prod.fst (b0_0, b0_1)) (Prod.snd (b0_0, b0_1))))
theorem r05_Of_pc0 {E_ : World} {G_ : Hp} (s : Int) (z : Int) {r_ : Int × Bool} {Q1 : Int → Option Nat → Nat → Prop} (hQ1 : ∀ (k : Int) (a : Option Nat) (c : Nat), Q1 k a c → SW Dg Try.prog 25 (Post Dg E_ G_ (r05_Of_out r_) (r05_Of_nw r_) (r05_Of_rows r_)) (bodyOf Try.f25) Try.f25.ntmps E_ G_ (.code (0 :: [0,1,0,1,1]) :: .again [0,1,0,1,1] :: [.blk 0, .code [1,1,1]]) [⟨7, none, .int .i64 k, .no⟩, ⟨6, none, .slice (a.map fun b => ⟨b, 0, none⟩) (r05_Table s).length c, .pt 0 .slice⟩, ⟨1, none, .int .i64 z, .no⟩] [.row a 2 (r05_Table s).length c [.ints .i64 (r05_Table s)]]) (h : r05_Of_wp0 s z Q1 (fun x => x = r_)) : (Tree.freshS fun a cap => Tree.stuck [Ab.code [0, 1, 0, 1, 1], Ab.blk 0, Ab.code [1, 1, 1]] [{ s := 7, g := none, v := Value.int IntKind.i64 (0 : Int), p := Pr.no }, { s := 6, g := none, v := Value.slice (Option.map (fun b => { block := b, off := 0 }) (Prod.fst (a, cap))) (Prod.fst (lenC [Col.ints IntKind.i64 (r05_Table s)], [Col.ints IntKind.i64 (r05_Table s)])) (Prod.snd (a, cap)), p := Pr.pt 0 PK.slice }, { s := 9, g := none, v := Value.slice (Option.map (fun b => { block := b, off := 0 }) (Prod.fst (a, cap))) (Prod.fst (lenC [Col.ints IntKind.i64 (r05_Table s)], [Col.ints IntKind.i64 (r05_Table s)])) (Prod.snd (a, cap)), p := Pr.pt 0 PK.slice }, { s := 8, g := none, v := Value.int IntKind.i64 s, p := Pr.no }, { s := 5, g := none, v := Value.bool false, p := Pr.no }, { s := 4, g := none, v := Value.int IntKind.i64 (0 : Int), p := Pr.no }, { s := 0, g := none, v := Value.int IntKind.i64 s, p := Pr.no }, { s := 1, g := none, v := Value.int IntKind.i64 z, p := Pr.no }] [Chunk.row (Prod.fst (a, cap)) (Prod.fst (Prod.fst (2, [Col.ints IntKind.i64 (r05_Table s)]), lenC [Col.ints IntKind.i64 (r05_Table s)], [Col.ints IntKind.i64 (r05_Table s)])) (Prod.fst (lenC [Col.ints IntKind.i64 (r05_Table s)], [Col.ints IntKind.i64 (r05_Table s)])) (Prod.snd (a, cap)) [Col.ints IntKind.i64 (r05_Table s)]] : Tree Sg).holds (RetOk (r05_Of_out r_) (r05_Of_nw r_) (r05_Of_rows r_)) (SW Dg Try.prog 25 (Post Dg E_ G_ (r05_Of_out r_) (r05_Of_nw r_) (r05_Of_rows r_)) (bodyOf Try.f25) Try.f25.ntmps E_ G_) :=
  fun b0_0 b0_1 => SW.move Dg [7, 6, 1] [0] (by decide) (by kernel_rfl) (by kernel_rfl) (SW.enter Dg (by kernel_rfl) (hQ1 ((0 : Int)) (Prod.fst (b0_0, b0_1)) (Prod.snd (b0_0, b0_1)) (h b0_0 b0_1)))
def r05_Of_wp1 (s : Int) (z : Int) (k : Int) (a : Option Nat) (c : Nat) (Q1 : Int → Option Nat → Nat → Prop) (R_ : Int × Bool → Prop) : Prop := (((decide (k < (↑(List.length (r05_Table s)) : Int)) && decide (z ≥ (1 : Int))) = true → (((0 : Int) ≤ k ∧ k < (↑(List.length (r05_Table s)) : Int)) ∧ (((0 : Int) ≤ k ∧ k < (↑(List.length (r05_Table s)) : Int)) → (((decide (List.getD (r05_Table s) (Int.toNat k) (0 : Int) ≥ z)) = true → (R_ ((k, true)))) ∧ ((decide (List.getD (r05_Table s) (Int.toNat k) (0 : Int) ≥ z)) = false → (Q1 (IntKind.wrap IntKind.i64 (k + (1 : Int))) (a) (c))))))) ∧ ((decide (k < (↑(List.length (r05_Table s)) : Int)) && decide (z ≥ (1 : Int))) = false → (R_ (((0 : Int), false)))))
theorem r05_Of_pc1 {E_ : World} {G_ : Hp} (s : Int) (z : Int) (k : Int) (a : Option Nat) (c : Nat) {r_ : Int × Bool} {Q1 : Int → Option Nat → Nat → Prop} (hQ1 : ∀ (k : Int) (a : Option Nat) (c : Nat), Q1 k a c → SW Dg Try.prog 25 (Post Dg E_ G_ (r05_Of_out r_) (r05_Of_nw r_) (r05_Of_rows r_)) (bodyOf Try.f25) Try.f25.ntmps E_ G_ (.code (0 :: [0,1,0,1,1]) :: .again [0,1,0,1,1] :: [.blk 0, .code [1,1,1]]) [⟨7, none, .int .i64 k, .no⟩, ⟨6, none, .slice (a.map fun b => ⟨b, 0, none⟩) (r05_Table s).length c, .pt 0 .slice⟩, ⟨1, none, .int .i64 z, .no⟩] [.row a 2 (r05_Table s).length c [.ints .i64 (r05_Table s)]]) (h : r05_Of_wp1 s z k a c Q1 (fun x => x = r_)) : (Tree.br (decide (k < (↑(List.length (r05_Table s)) : Int)) && decide (z ≥ (1 : Int))) (Tree.need ((0 : Int) ≤ k ∧ k < (↑(List.length (r05_Table s)) : Int)) (Tree.br (decide (List.getD (r05_Table s) (Int.toNat k) (0 : Int) ≥ z)) (Tree.ret (Value.tuple { toList := [Value.int IntKind.i64 k, Value.bool true] }) [Chunk.row a 2 (List.length (r05_Table s)) c [Col.ints IntKind.i64 (r05_Table s)]]) (Tree.stuck [Ab.again [0, 1, 0, 1, 1], Ab.blk 0, Ab.code [1, 1, 1]] [{ s := 7, g := none, v := Value.int IntKind.i64 (IntKind.wrap IntKind.i64 (k + (1 : Int))), p := Pr.no }, { s := 19, g := none, v := Value.int IntKind.i64 (IntKind.wrap IntKind.i64 (k + (1 : Int))), p := Pr.no }, { s := 18, g := none, v := Value.int IntKind.i64 k, p := Pr.no }, { s := 25, g := none, v := Value.bool (decide (List.getD (r05_Table s) (Int.toNat k) (0 : Int) ≥ z)), p := Pr.no }, { s := 24, g := none, v := Value.int IntKind.i64 z, p := Pr.no }, { s := 23, g := none, v := Value.int IntKind.i64 (List.getD (r05_Table s) (Int.toNat k) (0 : Int)), p := Pr.no }, { s := 22, g := none, v := Value.pointer (Option.map (fun a => Addr.add a (Int.toNat k * 1)) (Option.map (fun b => { block := b, off := 0 }) a)), p := Pr.pt 0 (PK.elem (Int.toNat k) 0) }, { s := 21, g := none, v := Value.int IntKind.i64 k, p := Pr.no }, { s := 20, g := none, v := Value.slice (Option.map (fun b => { block := b, off := 0 }) a) (List.length (r05_Table s)) c, p := Pr.pt 0 PK.slice }, { s := 17, g := none, v := Value.bool (decide (k < (↑(List.length (r05_Table s)) : Int)) && decide (z ≥ (1 : Int))), p := Pr.no }, { s := 16, g := some (14, true), v := Value.bool (decide (z ≥ (1 : Int))), p := Pr.no }, { s := 15, g := some (14, true), v := Value.int IntKind.i64 z, p := Pr.no }, { s := 14, g := none, v := Value.bool (decide (k < (↑(List.length (r05_Table s)) : Int))), p := Pr.no }, { s := 13, g := none, v := Value.bool (decide (k < (↑(List.length (r05_Table s)) : Int))), p := Pr.no }, { s := 12, g := none, v := Value.int IntKind.i64 (↑(List.length (r05_Table s)) : Int), p := Pr.no }, { s := 11, g := none, v := Value.slice (Option.map (fun b => { block := b, off := 0 }) a) (List.length (r05_Table s)) c, p := Pr.pt 0 PK.slice }, { s := 10, g := none, v := Value.int IntKind.i64 k, p := Pr.no }, { s := 6, g := none, v := Value.slice (Option.map (fun b => { block := b, off := 0 }) a) (List.length (r05_Table s)) c, p := Pr.pt 0 PK.slice }, { s := 1, g := none, v := Value.int IntKind.i64 z, p := Pr.no }] [Chunk.row a 2 (List.length (r05_Table s)) c [Col.ints IntKind.i64 (r05_Table s)]]))) (Tree.ret (Value.tuple { toList := [Value.int IntKind.i64 (0 : Int), Value.bool false] }) [Chunk.row a 2 (List.length (r05_Table s)) c [Col.ints IntKind.i64 (r05_Table s)]]) : Tree Sg).holds (RetOk (r05_Of_out r_) (r05_Of_nw r_) (r05_Of_rows r_)) (SW Dg Try.prog 25 (Post Dg E_ G_ (r05_Of_out r_) (r05_Of_nw r_) (r05_Of_rows r_)) (bodyOf Try.f25) Try.f25.ntmps E_ G_) :=
  ⟨fun z0 => ⟨(h.1 z0).1, fun z1 => ⟨fun z2 => RetOk.at (outf := r05_Of_out) (nwf := r05_Of_nw) (rowsf := r05_Of_rows) (r := (k, true)) (((h.1 z0).2 z1).1 z2) ⟨[], [], (by decide), rfl, rfl, trivial⟩, fun z2 => SW.move Dg [7, 6, 1] [0] (by decide) (by kernel_rfl) (by kernel_rfl) (SW.again Dg (hQ1 (IntKind.wrap IntKind.i64 (k + (1 : Int))) (a) (c) (((h.1 z0).2 z1).2 z2)))⟩⟩, fun z0 => RetOk.at (outf := r05_Of_out) (nwf := r05_Of_nw) (rowsf := r05_Of_rows) (r := ((0 : Int), false)) (h.2 z0) ⟨[], [], (by decide), rfl, rfl, trivial⟩⟩
theorem r05_Of_go1 {E_ : World} {G_ : Hp} (s : Int) (z : Int) (k : Int) (a : Option Nat) (c : Nat) {r_ : Int × Bool} {Q1 : Int → Option Nat → Nat → Prop} (hQ1 : ∀ (k : Int) (a : Option Nat) (c : Nat), Q1 k a c → SW Dg Try.prog 25 (Post Dg E_ G_ (r05_Of_out r_) (r05_Of_nw r_) (r05_Of_rows r_)) (bodyOf Try.f25) Try.f25.ntmps E_ G_ (.code (0 :: [0,1,0,1,1]) :: .again [0,1,0,1,1] :: [.blk 0, .code [1,1,1]]) [⟨7, none, .int .i64 k, .no⟩, ⟨6, none, .slice (a.map fun b => ⟨b, 0, none⟩) (r05_Table s).length c, .pt 0 .slice⟩, ⟨1, none, .int .i64 z, .no⟩] [.row a 2 (r05_Table s).length c [.ints .i64 (r05_Table s)]]) (h : r05_Of_wp1 s z k a c Q1 (fun x => x = r_)) : SW Dg Try.prog 25 (Post Dg E_ G_ (r05_Of_out r_) (r05_Of_nw r_) (r05_Of_rows r_)) (bodyOf Try.f25) Try.f25.ntmps E_ G_ (.code (0 :: [0,1,0,1,1]) :: .again [0,1,0,1,1] :: [.blk 0, .code [1,1,1]]) [⟨7, none, .int .i64 k, .no⟩, ⟨6, none, .slice (a.map fun b => ⟨b, 0, none⟩) (r05_Table s).length c, .pt 0 .slice⟩, ⟨1, none, .int .i64 z, .no⟩] [.row a 2 (r05_Table s).length c [.ints .i64 (r05_Table s)]] :=
  SW.go Dg T_r05_Table_ok Try.func25 mix 400 (by kernel_rfl) (r05_Of_pc1 s z k a c hQ1 h)
theorem r05_Of_start {E_ : World} {G_ : Hp} {w_ : World} (s : Int) (z : Int) {r_ : Int × Bool} {Q1 : Int → Option Nat → Nat → Prop} (hQ1 : ∀ (k : Int) (a : Option Nat) (c : Nat), Q1 k a c → SW Dg Try.prog 25 (Post Dg E_ G_ (r05_Of_out r_) (r05_Of_nw r_) (r05_Of_rows r_)) (bodyOf Try.f25) Try.f25.ntmps E_ G_ (.code (0 :: [0,1,0,1,1]) :: .again [0,1,0,1,1] :: [.blk 0, .code [1,1,1]]) [⟨7, none, .int .i64 k, .no⟩, ⟨6, none, .slice (a.map fun b => ⟨b, 0, none⟩) (r05_Table s).length c, .pt 0 .slice⟩, ⟨1, none, .int .i64 z, .no⟩] [.row a 2 (r05_Table s).length c [.ints .i64 (r05_Table s)]]) (hS : Sat E_ G_ w_ []) (h : r05_Of_wp0 s z Q1 (fun x => x = r_)) : Calls Try.prog 25 #[(.int .i64 s), (.int .i64 z)] w_ (Post Dg E_ G_ (r05_Of_out r_) (r05_Of_nw r_) (r05_Of_rows r_)) :=
  calls_post Dg T_r05_Table_ok Try.func25 mix (B := bodyOf Try.f25) (by kernel_rfl) [(.int .i64 s), (.int .i64 z)] [.no, .no] (by kernel_rfl) (objs := []) (ros := []) (psOk_cons pOk_no (psOk_cons pOk_no (psOk_nil))) (by kernel_rfl) (trivial) hS 400
    (t := Tree.freshS fun a cap => Tree.stuck [Ab.code [0, 1, 0, 1, 1], Ab.blk 0, Ab.code [1, 1, 1]] [{ s := 7, g := none, v := Value.int IntKind.i64 (0 : Int), p := Pr.no }, { s := 6, g := none, v := Value.slice (Option.map (fun b => { block := b, off := 0 }) (Prod.fst (a, cap))) (Prod.fst (lenC [Col.ints IntKind.i64 (r05_Table s)], [Col.ints IntKind.i64 (r05_Table s)])) (Prod.snd (a, cap)), p := Pr.pt 0 PK.slice }, { s := 9, g := none, v := Value.slice (Option.map (fun b => { block := b, off := 0 }) (Prod.fst (a, cap))) (Prod.fst (lenC [Col.ints IntKind.i64 (r05_Table s)], [Col.ints IntKind.i64 (r05_Table s)])) (Prod.snd (a, cap)), p := Pr.pt 0 PK.slice }, { s := 8, g := none, v := Value.int IntKind.i64 s, p := Pr.no }, { s := 5, g := none, v := Value.bool false, p := Pr.no }, { s := 4, g := none, v := Value.int IntKind.i64 (0 : Int), p := Pr.no }, { s := 0, g := none, v := Value.int IntKind.i64 s, p := Pr.no }, { s := 1, g := none, v := Value.int IntKind.i64 z, p := Pr.no }] [Chunk.row (Prod.fst (a, cap)) (Prod.fst (Prod.fst (2, [Col.ints IntKind.i64 (r05_Table s)]), lenC [Col.ints IntKind.i64 (r05_Table s)], [Col.ints IntKind.i64 (r05_Table s)])) (Prod.fst (lenC [Col.ints IntKind.i64 (r05_Table s)], [Col.ints IntKind.i64 (r05_Table s)])) (Prod.snd (a, cap)) [Col.ints IntKind.i64 (r05_Table s)]])
    (by kernel_rfl)
    (r05_Of_pc0 s z hQ1 h)
def r05_Of_I (s : Int) (z : Int) (k : Int) (a : Option Nat) (c : Nat) (r_ : Int × Bool) : Prop := 0 ≤ k ∧ k ≤ (r05_Table s).length ∧ (∀ j : Nat, j < k.toNat → ¬ ((r05_Table s).getD j 0 ≥ z)) ∧ r_ = r05_Of s z
theorem r05_Of_step (s : Int) (z : Int) (k : Int) (a : Option Nat) (c : Nat) {r_ : Int × Bool} (hI : r05_Of_I s z k a c r_) : r05_Of_wp1 s z k a c (fun k' a' c' => r05_Of_I s z k' a' c' r_ ∧ (((r05_Table s).length - k').toNat) < (((r05_Table s).length - k).toNat)) (fun x => x = r_) := by
  unfold r05_Of_I at hI
  unfold r05_Of_wp1 r05_Of_I
  obtain ⟨h0, h1, h2, h3⟩ := hI
  have hl := r05_Table_len s
  refine ⟨fun h => ?_, fun h => ?_⟩
  · simp only [Bool.and_eq_true, decide_eq_true_eq] at h
    have hz : decide (z < 1) = false := by simp; omega
    refine ⟨by omega, fun _ => ⟨fun hg => ?_, fun hg => ?_⟩⟩
    · simp only [decide_eq_true_eq] at hg
      have := firstGe_some.2 ⟨by omega, hg, h2⟩
      show (k, true) = r_
      simp only [h3, r05_Of, hz, this, cond_false, ofOpt]
      rw [show ((k.toNat : Nat) : Int) = k by omega]
    · simp only [decide_eq_false_iff_not] at hg
      rw [w64 (by omega)]
      refine ⟨⟨by omega, by omega, fun j hj => ?_, h3⟩, by omega⟩
      by_cases hk : j = k.toNat
      · subst hk; exact hg
      · exact h2 j (by omega)
  · simp only [Bool.and_eq_false_iff, decide_eq_false_iff_not] at h
    show ((0 : Int), false) = r_
    rw [h3]
    by_cases hz : z < 1
    · simp [r05_Of, hz]
    · have := firstGe_none (l := r05_Table s) (z := z) |>.2 fun j hj => h2 j (by omega)
      simp [r05_Of, hz, this, ofOpt]
theorem r05_Of_loop {E_ : World} {G_ : Hp} (s : Int) (z : Int) {r_ : Int × Bool} : ∀ s_ : Int × Option Nat × Nat, r05_Of_I s z s_.1 s_.2.1 s_.2.2 r_ → SW Dg Try.prog 25 (Post Dg E_ G_ (r05_Of_out r_) (r05_Of_nw r_) (r05_Of_rows r_)) (bodyOf Try.f25) Try.f25.ntmps E_ G_ (.code (0 :: [0,1,0,1,1]) :: .again [0,1,0,1,1] :: [.blk 0, .code [1,1,1]]) [⟨7, none, .int .i64 s_.1, .no⟩, ⟨6, none, .slice (s_.2.1.map fun b => ⟨b, 0, none⟩) (r05_Table s).length s_.2.2, .pt 0 .slice⟩, ⟨1, none, .int .i64 z, .no⟩] [.row s_.2.1 2 (r05_Table s).length s_.2.2 [.ints .i64 (r05_Table s)]] :=
  SW.loop Dg (α := Int × Option Nat × Nat) (fun s_ => [⟨7, none, .int .i64 s_.1, .no⟩, ⟨6, none, .slice (s_.2.1.map fun b => ⟨b, 0, none⟩) (r05_Table s).length s_.2.2, .pt 0 .slice⟩, ⟨1, none, .int .i64 z, .no⟩]) (fun s_ => [.row s_.2.1 2 (r05_Table s).length s_.2.2 [.ints .i64 (r05_Table s)]]) (fun s_ => ((r05_Table s).length - s_.1).toNat) (fun s_ => r05_Of_I s z s_.1 s_.2.1 s_.2.2 r_) (fun ⟨k, a, c⟩ hI ih => r05_Of_go1 s z k a c (fun k' a' c' h => ih (k', a', c') h.1 h.2) (r05_Of_step s z k a c hI))
theorem r05_Of_begin (s : Int) (z : Int) : r05_Of_wp0 s z (fun k a c => r05_Of_I s z k a c (r05_Of s z)) (fun x => x = (r05_Of s z)) := by
  unfold r05_Of_wp0 r05_Of_I
  intro a c
  exact ⟨by omega, by omega, fun j hj => absurd hj (Nat.not_lt_zero j), rfl⟩
theorem r05_Of_calls {E_ : World} {G_ : Hp} {w_ : World} (s : Int) (z : Int) (hS : Sat E_ G_ w_ []) : Calls Try.prog 25 #[(.int .i64 s), (.int .i64 z)] w_ (Post Dg E_ G_ (r05_Of_out (r05_Of s z)) (r05_Of_nw (r05_Of s z)) (r05_Of_rows (r05_Of s z))) :=
  r05_Of_start s z (fun k a c h => r05_Of_loop s z (k, a, c) h) hS (r05_Of_begin s z )
def r05_Of_e : Entry Sg := fun
  | [(.int .i64 s, _), (.int .i64 z, _)] => some ⟨[], none, rowsR [], fun ss => .tuple #[.int .i64 ((r05_Of s z).1), .bool ((r05_Of s z).2)], fun k_ => .no⟩
  | _ => none
theorem r05_Of_ok : EntryOk Dg Try.prog 25 r05_Of_e := by
  intro args r h
  unfold r05_Of_e at h
  split at h
  · injection h with h; subst h
    refine ⟨fun K acs _ => pOk_no, fun hpre E G w hi hS => ?_⟩
    exact entry_post Dg (nw := []) rfl (r05_Of_calls _ _  hS)
  · cases h
def T_r05_Of : List (Nat × Entry Sg) := (25, r05_Of_e) :: T_r05_Table
theorem T_r05_Of_ok : TableOk Dg Try.prog T_r05_Of := TableOk.cons Dg r05_Of_ok T_r05_Table_ok

/-- class.Of$1 -/
def class_Of1 (n : Int) (z : Int) : Bool := decide (n ≥ z)
def class_Of1_out (r_ : Bool) : List Value → Value := fun ss => .bool (r_)
def class_Of1_nw (r_ : Bool) : List (Chunk Sg) := []
def class_Of1_rows (r_ : Bool) : List (TypeId × List Col) := []
theorem class_Of1_calls {E_ : World} {G_ : Hp} {w_ : World} (n : Int) (z : Int) (b_0 : Nat) (hr0 : G_ b_0 = some (.cells ([.int .i64 z] : List Value).toArray 2 (0, 0))) (hS : Sat E_ G_ w_ []) : Calls Try.prog 47 #[(.int .i64 n), (.pointer (some ⟨b_0, 0, none⟩))] w_ (Post Dg E_ G_ (class_Of1_out (class_Of1 n z)) (class_Of1_nw (class_Of1 n z)) (class_Of1_rows (class_Of1 n z))) :=
  calls_post Dg T_r05_Of_ok Try.func47 mix (B := bodyOf Try.f47) (by kernel_rfl) [(.int .i64 n), (.pointer (some ⟨b_0, 0, none⟩))] [.no, .pt 0 (.cell 0)] (by kernel_rfl) (objs := []) (ros := [.roc b_0 2 [.int .i64 z]]) (psOk_cons pOk_no (psOk_cons (pOk_at rfl rfl) (psOk_nil))) (by kernel_rfl) (⟨hr0, trivial⟩) hS 400
    (t := Tree.ret (Value.bool (decide (n ≥ z))) [Chunk.roc b_0 2 [Value.int IntKind.i64 z]])
    (by kernel_rfl)
    (RetOk.at (outf := class_Of1_out) (nwf := class_Of1_nw) (rowsf := class_Of1_rows) (r := decide (n ≥ z)) (by first | exact Eq.symm rfl | (simp only [class_Of1, cond_true, cond_false]; done) | (exfalso; simp_all; done) | decide) ⟨[], [], (by decide), rfl, rfl, trivial⟩)
def class_Of1_e : Entry Sg := fun
  | [(.int .i64 n, _), (_, .cells 2 [.int .i64 z])] => some ⟨[], none, rowsR [], fun ss => .bool ((class_Of1 n z)), fun k_ => .no⟩
  | _ => none
theorem class_Of1_ok : EntryOk Dg Try.prog 47 class_Of1_e := by
  intro args r h
  unfold class_Of1_e at h
  split at h
  · injection h with h; subst h
    refine ⟨fun K acs _ => pOk_no, fun hpre E G w hi hS => ?_⟩
    have hi_0 := hi _ (List.mem_of_getElem? (i := 1) rfl)
    simp only [iOk] at hi_0
    obtain ⟨b_0, e_0, hr0⟩ := hi_0
    subst e_0
    exact entry_post Dg (nw := []) rfl (class_Of1_calls _ _ _ hr0  hS)
  · cases h
def T_class_Of1 : List (Nat × Entry Sg) := (47, class_Of1_e) :: T_r05_Of
theorem T_class_Of1_ok : TableOk Dg Try.prog T_class_Of1 := TableOk.cons Dg class_Of1_ok T_r05_Of_ok

def idxOr : Option Nat → Int
  | some k => (k : Int)
  | none => -1


/-- slices.IndexFunc[[]int64,int64] -/
def IndexGe (xs : List Int) (z : Int) : Int := idxOr (firstGe xs z)
def IndexGe_out (r_ : Int) : List Value → Value := fun ss => .int .i64 (r_)
def IndexGe_nw (r_ : Int) : List (Chunk Sg) := []
def IndexGe_rows (r_ : Int) : List (TypeId × List Col) := []
def IndexGe_wp0 (xs : List Int) (z : Int) (a_0 : Option Addr) (c_0 : Nat) (b_1 : Nat) (Q1 : Int → Prop) (R_ : Int → Prop) : Prop := (Q1 ((0 : Int)))
theorem IndexGe_pc0 {E_ : World} {G_ : Hp} (xs : List Int) (z : Int) (a_0 : Option Addr) (c_0 : Nat) (b_1 : Nat) {r_ : Int} {Q1 : Int → Prop} (hQ1 : ∀ (i : Int), Q1 i → SW Dg Try.prog 46 (Post Dg E_ G_ (IndexGe_out r_) (IndexGe_nw r_) (IndexGe_rows r_)) (bodyOf Try.f46) Try.f46.ntmps E_ G_ (.code (0 :: [0,1,0,1]) :: .again [0,1,0,1] :: [.blk 0, .code [1,1]]) [⟨8, none, .int .i64 i, .no⟩, ⟨7, none, .int .i64 xs.length, .no⟩, ⟨0, none, .slice a_0 xs.length c_0, .pt 0 .slice⟩, ⟨1, none, .func (.func 47) #[] #[.pointer (some ⟨b_1, 0, none⟩)], .many [.pt 1 (.cell 0)]⟩] [.ro a_0 xs.length c_0 [.ints .i64 xs], .roc b_1 2 [.int .i64 z]]) (h : IndexGe_wp0 xs z a_0 c_0 b_1 Q1 (fun x => x = r_)) : (Tree.stuck [Ab.code [0, 1, 0, 1], Ab.blk 0, Ab.code [1, 1]] [{ s := 8, g := none, v := Value.int IntKind.i64 (0 : Int), p := Pr.no }, { s := 7, g := none, v := Value.int IntKind.i64 (↑(List.length xs) : Int), p := Pr.no }, { s := 6, g := none, v := Value.slice a_0 (List.length xs) c_0, p := Pr.pt 0 PK.slice }, { s := 4, g := none, v := Value.int IntKind.i64 (0 : Int), p := Pr.no }, { s := 0, g := none, v := Value.slice a_0 (List.length xs) c_0, p := Pr.pt 0 PK.slice }, { s := 1, g := none, v := Value.func (Fn.func 47) { toList := [] } { toList := [Value.pointer (some { block := b_1, off := 0 })] }, p := Pr.many [Pr.pt 1 (PK.cell 0)] }] [Chunk.ro a_0 (List.length xs) c_0 [Col.ints IntKind.i64 xs], Chunk.roc b_1 2 [Value.int IntKind.i64 z]] : Tree Sg).holds (RetOk (IndexGe_out r_) (IndexGe_nw r_) (IndexGe_rows r_)) (SW Dg Try.prog 46 (Post Dg E_ G_ (IndexGe_out r_) (IndexGe_nw r_) (IndexGe_rows r_)) (bodyOf Try.f46) Try.f46.ntmps E_ G_) :=
  SW.move Dg [8, 7, 0, 1] [0, 1] (by decide) (by kernel_rfl) (by kernel_rfl) (SW.enter Dg (by kernel_rfl) (hQ1 ((0 : Int)) h))
def IndexGe_wp1 (xs : List Int) (z : Int) (a_0 : Option Addr) (c_0 : Nat) (b_1 : Nat) (i : Int) (Q1 : Int → Prop) (R_ : Int → Prop) : Prop := (((decide (i < (↑(List.length xs) : Int))) = true → (((0 : Int) ≤ i ∧ i < (↑(List.length xs) : Int)) ∧ (((0 : Int) ≤ i ∧ i < (↑(List.length xs) : Int)) → (((class_Of1 (List.getD xs (Int.toNat i) (0 : Int)) z) = true → (R_ (i))) ∧ ((class_Of1 (List.getD xs (Int.toNat i) (0 : Int)) z) = false → (Q1 (IntKind.wrap IntKind.i64 (i + (1 : Int))))))))) ∧ ((decide (i < (↑(List.length xs) : Int))) = false → (R_ ((-1 : Int)))))
theorem IndexGe_pc1 {E_ : World} {G_ : Hp} (xs : List Int) (z : Int) (a_0 : Option Addr) (c_0 : Nat) (b_1 : Nat) (i : Int) {r_ : Int} {Q1 : Int → Prop} (hQ1 : ∀ (i : Int), Q1 i → SW Dg Try.prog 46 (Post Dg E_ G_ (IndexGe_out r_) (IndexGe_nw r_) (IndexGe_rows r_)) (bodyOf Try.f46) Try.f46.ntmps E_ G_ (.code (0 :: [0,1,0,1]) :: .again [0,1,0,1] :: [.blk 0, .code [1,1]]) [⟨8, none, .int .i64 i, .no⟩, ⟨7, none, .int .i64 xs.length, .no⟩, ⟨0, none, .slice a_0 xs.length c_0, .pt 0 .slice⟩, ⟨1, none, .func (.func 47) #[] #[.pointer (some ⟨b_1, 0, none⟩)], .many [.pt 1 (.cell 0)]⟩] [.ro a_0 xs.length c_0 [.ints .i64 xs], .roc b_1 2 [.int .i64 z]]) (h : IndexGe_wp1 xs z a_0 c_0 b_1 i Q1 (fun x => x = r_)) : (Tree.br (decide (i < (↑(List.length xs) : Int))) (Tree.need ((0 : Int) ≤ i ∧ i < (↑(List.length xs) : Int)) (Tree.br (class_Of1 (List.getD xs (Int.toNat i) (0 : Int)) z) (Tree.ret (Value.int IntKind.i64 i) [Chunk.ro a_0 (List.length xs) c_0 [Col.ints IntKind.i64 xs], Chunk.roc b_1 2 [Value.int IntKind.i64 z]]) (Tree.stuck [Ab.again [0, 1, 0, 1], Ab.blk 0, Ab.code [1, 1]] [{ s := 8, g := none, v := Value.int IntKind.i64 (IntKind.wrap IntKind.i64 (i + (1 : Int))), p := Pr.no }, { s := 18, g := none, v := Value.int IntKind.i64 (IntKind.wrap IntKind.i64 (i + (1 : Int))), p := Pr.no }, { s := 16, g := none, v := Value.bool (class_Of1 (List.getD xs (Int.toNat i) (0 : Int)) z), p := Pr.no }, { s := 15, g := none, v := Value.int IntKind.i64 (List.getD xs (Int.toNat i) (0 : Int)), p := Pr.no }, { s := 14, g := none, v := Value.pointer (Option.map (fun a => Addr.add a (Int.toNat i * 1)) a_0), p := Pr.pt 0 (PK.elem (Int.toNat i) 0) }, { s := 13, g := none, v := Value.int IntKind.i64 i, p := Pr.no }, { s := 12, g := none, v := Value.slice a_0 (List.length xs) c_0, p := Pr.pt 0 PK.slice }, { s := 11, g := none, v := Value.func (Fn.func 47) { toList := [] } { toList := [Value.pointer (some { block := b_1, off := 0 })] }, p := Pr.many [Pr.pt 1 (PK.cell 0)] }, { s := 5, g := none, v := Value.int IntKind.i64 i, p := Pr.no }, { s := 10, g := none, v := Value.int IntKind.i64 i, p := Pr.no }, { s := 9, g := none, v := Value.bool (decide (i < (↑(List.length xs) : Int))), p := Pr.no }, { s := 7, g := none, v := Value.int IntKind.i64 (↑(List.length xs) : Int), p := Pr.no }, { s := 0, g := none, v := Value.slice a_0 (List.length xs) c_0, p := Pr.pt 0 PK.slice }, { s := 1, g := none, v := Value.func (Fn.func 47) { toList := [] } { toList := [Value.pointer (some { block := b_1, off := 0 })] }, p := Pr.many [Pr.pt 1 (PK.cell 0)] }] [Chunk.ro a_0 (List.length xs) c_0 [Col.ints IntKind.i64 xs], Chunk.roc b_1 2 [Value.int IntKind.i64 z]]))) (Tree.ret (Value.int IntKind.i64 (-1 : Int)) [Chunk.ro a_0 (List.length xs) c_0 [Col.ints IntKind.i64 xs], Chunk.roc b_1 2 [Value.int IntKind.i64 z]]) : Tree Sg).holds (RetOk (IndexGe_out r_) (IndexGe_nw r_) (IndexGe_rows r_)) (SW Dg Try.prog 46 (Post Dg E_ G_ (IndexGe_out r_) (IndexGe_nw r_) (IndexGe_rows r_)) (bodyOf Try.f46) Try.f46.ntmps E_ G_) :=
  ⟨fun z0 => ⟨(h.1 z0).1, fun z1 => ⟨fun z2 => RetOk.at (outf := IndexGe_out) (nwf := IndexGe_nw) (rowsf := IndexGe_rows) (r := i) (((h.1 z0).2 z1).1 z2) ⟨[], [], (by decide), rfl, rfl, trivial⟩, fun z2 => SW.move Dg [8, 7, 0, 1] [0, 1] (by decide) (by kernel_rfl) (by kernel_rfl) (SW.again Dg (hQ1 (IntKind.wrap IntKind.i64 (i + (1 : Int))) (((h.1 z0).2 z1).2 z2)))⟩⟩, fun z0 => RetOk.at (outf := IndexGe_out) (nwf := IndexGe_nw) (rowsf := IndexGe_rows) (r := (-1 : Int)) (h.2 z0) ⟨[], [], (by decide), rfl, rfl, trivial⟩⟩
theorem IndexGe_go1 {E_ : World} {G_ : Hp} (xs : List Int) (z : Int) (a_0 : Option Addr) (c_0 : Nat) (b_1 : Nat) (i : Int) {r_ : Int} {Q1 : Int → Prop} (hQ1 : ∀ (i : Int), Q1 i → SW Dg Try.prog 46 (Post Dg E_ G_ (IndexGe_out r_) (IndexGe_nw r_) (IndexGe_rows r_)) (bodyOf Try.f46) Try.f46.ntmps E_ G_ (.code (0 :: [0,1,0,1]) :: .again [0,1,0,1] :: [.blk 0, .code [1,1]]) [⟨8, none, .int .i64 i, .no⟩, ⟨7, none, .int .i64 xs.length, .no⟩, ⟨0, none, .slice a_0 xs.length c_0, .pt 0 .slice⟩, ⟨1, none, .func (.func 47) #[] #[.pointer (some ⟨b_1, 0, none⟩)], .many [.pt 1 (.cell 0)]⟩] [.ro a_0 xs.length c_0 [.ints .i64 xs], .roc b_1 2 [.int .i64 z]]) (h : IndexGe_wp1 xs z a_0 c_0 b_1 i Q1 (fun x => x = r_)) : SW Dg Try.prog 46 (Post Dg E_ G_ (IndexGe_out r_) (IndexGe_nw r_) (IndexGe_rows r_)) (bodyOf Try.f46) Try.f46.ntmps E_ G_ (.code (0 :: [0,1,0,1]) :: .again [0,1,0,1] :: [.blk 0, .code [1,1]]) [⟨8, none, .int .i64 i, .no⟩, ⟨7, none, .int .i64 xs.length, .no⟩, ⟨0, none, .slice a_0 xs.length c_0, .pt 0 .slice⟩, ⟨1, none, .func (.func 47) #[] #[.pointer (some ⟨b_1, 0, none⟩)], .many [.pt 1 (.cell 0)]⟩] [.ro a_0 xs.length c_0 [.ints .i64 xs], .roc b_1 2 [.int .i64 z]] :=
  SW.go Dg T_class_Of1_ok Try.func46 mix 400 (by kernel_rfl) (IndexGe_pc1 xs z a_0 c_0 b_1 i hQ1 h)
theorem IndexGe_start {E_ : World} {G_ : Hp} {w_ : World} (xs : List Int) (z : Int) (a_0 : Option Addr) (c_0 : Nat) (b_1 : Nat) (hr0 : RowAt G_ a_0 xs.length [.ints .i64 xs]) (hr1 : G_ b_1 = some (.cells ([.int .i64 z] : List Value).toArray 2 (0, 0))) {r_ : Int} {Q1 : Int → Prop} (hQ1 : ∀ (i : Int), Q1 i → SW Dg Try.prog 46 (Post Dg E_ G_ (IndexGe_out r_) (IndexGe_nw r_) (IndexGe_rows r_)) (bodyOf Try.f46) Try.f46.ntmps E_ G_ (.code (0 :: [0,1,0,1]) :: .again [0,1,0,1] :: [.blk 0, .code [1,1]]) [⟨8, none, .int .i64 i, .no⟩, ⟨7, none, .int .i64 xs.length, .no⟩, ⟨0, none, .slice a_0 xs.length c_0, .pt 0 .slice⟩, ⟨1, none, .func (.func 47) #[] #[.pointer (some ⟨b_1, 0, none⟩)], .many [.pt 1 (.cell 0)]⟩] [.ro a_0 xs.length c_0 [.ints .i64 xs], .roc b_1 2 [.int .i64 z]]) (hS : Sat E_ G_ w_ []) (h : IndexGe_wp0 xs z a_0 c_0 b_1 Q1 (fun x => x = r_)) : Calls Try.prog 46 #[(.slice a_0 xs.length c_0), (.func (.func 47) #[] #[.pointer (some ⟨b_1, 0, none⟩)])] w_ (Post Dg E_ G_ (IndexGe_out r_) (IndexGe_nw r_) (IndexGe_rows r_)) :=
  calls_post Dg T_class_Of1_ok Try.func46 mix (B := bodyOf Try.f46) (by kernel_rfl) [(.slice a_0 xs.length c_0), (.func (.func 47) #[] #[.pointer (some ⟨b_1, 0, none⟩)])] [.pt 0 .slice, .many [.pt 1 (.cell 0)]] (by kernel_rfl) (objs := []) (ros := [.ro a_0 xs.length c_0 [.ints .i64 xs], .roc b_1 2 [.int .i64 z]]) (psOk_cons (pOk_at rfl rfl) (psOk_cons (pOk_func (psOk_cons (pOk_at rfl rfl) (psOk_nil))) (psOk_nil))) (by kernel_rfl) (⟨hr0, hr1, trivial⟩) hS 400
    (t := Tree.stuck [Ab.code [0, 1, 0, 1], Ab.blk 0, Ab.code [1, 1]] [{ s := 8, g := none, v := Value.int IntKind.i64 (0 : Int), p := Pr.no }, { s := 7, g := none, v := Value.int IntKind.i64 (↑(List.length xs) : Int), p := Pr.no }, { s := 6, g := none, v := Value.slice a_0 (List.length xs) c_0, p := Pr.pt 0 PK.slice }, { s := 4, g := none, v := Value.int IntKind.i64 (0 : Int), p := Pr.no }, { s := 0, g := none, v := Value.slice a_0 (List.length xs) c_0, p := Pr.pt 0 PK.slice }, { s := 1, g := none, v := Value.func (Fn.func 47) { toList := [] } { toList := [Value.pointer (some { block := b_1, off := 0 })] }, p := Pr.many [Pr.pt 1 (PK.cell 0)] }] [Chunk.ro a_0 (List.length xs) c_0 [Col.ints IntKind.i64 xs], Chunk.roc b_1 2 [Value.int IntKind.i64 z]])
    (by kernel_rfl)
    (IndexGe_pc0 xs z a_0 c_0 b_1 hQ1 h)
def IndexGe_I (xs : List Int) (z : Int) (a_0 : Option Addr) (c_0 : Nat) (b_1 : Nat) (i : Int) (r_ : Int) : Prop := 0 ≤ i ∧ i ≤ xs.length ∧ (∀ j : Nat, j < i.toNat → ¬ (xs.getD j 0 ≥ z)) ∧ r_ = IndexGe xs z ∧ xs.length ≤ 9223372036854775807
theorem IndexGe_step (xs : List Int) (z : Int) (a_0 : Option Addr) (c_0 : Nat) (b_1 : Nat) (i : Int) {r_ : Int} (hI : IndexGe_I xs z a_0 c_0 b_1 i r_) : IndexGe_wp1 xs z a_0 c_0 b_1 i (fun i' => IndexGe_I xs z a_0 c_0 b_1 i' r_ ∧ ((xs.length - i').toNat) < ((xs.length - i).toNat)) (fun x => x = r_) := by
  unfold IndexGe_I at hI
  unfold IndexGe_wp1 IndexGe_I
  obtain ⟨h0, h1, h2, h3, hl⟩ := hI
  refine ⟨fun h => ?_, fun h => ?_⟩
  · simp only [decide_eq_true_eq] at h
    refine ⟨by omega, fun _ => ⟨fun hg => ?_, fun hg => ?_⟩⟩
    · simp only [class_Of1, decide_eq_true_eq] at hg
      have := firstGe_some.2 ⟨by omega, hg, h2⟩
      show i = r_
      simp only [h3, IndexGe, this, idxOr]
      omega
    · simp only [class_Of1, decide_eq_false_iff_not] at hg
      rw [w64 (by omega)]
      refine ⟨⟨by omega, by omega, fun j hj => ?_, h3, hl⟩, by omega⟩
      by_cases hk : j = i.toNat
      · subst hk; exact hg
      · exact h2 j (by omega)
  · simp only [decide_eq_false_iff_not] at h
    show (-1 : Int) = r_
    have := firstGe_none (l := xs) (z := z) |>.2 fun j hj => h2 j (by omega)
    simp only [h3, IndexGe, this, idxOr]
theorem IndexGe_loop {E_ : World} {G_ : Hp} (xs : List Int) (z : Int) (a_0 : Option Addr) (c_0 : Nat) (b_1 : Nat) {r_ : Int} : ∀ s_ : Int, IndexGe_I xs z a_0 c_0 b_1 s_ r_ → SW Dg Try.prog 46 (Post Dg E_ G_ (IndexGe_out r_) (IndexGe_nw r_) (IndexGe_rows r_)) (bodyOf Try.f46) Try.f46.ntmps E_ G_ (.code (0 :: [0,1,0,1]) :: .again [0,1,0,1] :: [.blk 0, .code [1,1]]) [⟨8, none, .int .i64 s_, .no⟩, ⟨7, none, .int .i64 xs.length, .no⟩, ⟨0, none, .slice a_0 xs.length c_0, .pt 0 .slice⟩, ⟨1, none, .func (.func 47) #[] #[.pointer (some ⟨b_1, 0, none⟩)], .many [.pt 1 (.cell 0)]⟩] [.ro a_0 xs.length c_0 [.ints .i64 xs], .roc b_1 2 [.int .i64 z]] :=
  SW.loop Dg (α := Int) (fun s_ => [⟨8, none, .int .i64 s_, .no⟩, ⟨7, none, .int .i64 xs.length, .no⟩, ⟨0, none, .slice a_0 xs.length c_0, .pt 0 .slice⟩, ⟨1, none, .func (.func 47) #[] #[.pointer (some ⟨b_1, 0, none⟩)], .many [.pt 1 (.cell 0)]⟩]) (fun s_ => [.ro a_0 xs.length c_0 [.ints .i64 xs], .roc b_1 2 [.int .i64 z]]) (fun s_ => (xs.length - s_).toNat) (fun s_ => IndexGe_I xs z a_0 c_0 b_1 s_ r_) (fun i hI ih => IndexGe_go1 xs z a_0 c_0 b_1 i (fun i' h => ih i' h.1 h.2) (IndexGe_step xs z a_0 c_0 b_1 i hI))
theorem IndexGe_begin (xs : List Int) (z : Int) (a_0 : Option Addr) (c_0 : Nat) (b_1 : Nat) (hl0 : xs.length ≤ 9223372036854775807) : IndexGe_wp0 xs z a_0 c_0 b_1 (fun i => IndexGe_I xs z a_0 c_0 b_1 i (IndexGe xs z)) (fun x => x = (IndexGe xs z)) := by
  unfold IndexGe_wp0 IndexGe_I
  exact ⟨by omega, by omega, fun j hj => absurd hj (Nat.not_lt_zero j), rfl, hl0⟩
theorem IndexGe_calls {E_ : World} {G_ : Hp} {w_ : World} (xs : List Int) (z : Int) (a_0 : Option Addr) (c_0 : Nat) (b_1 : Nat) (hr0 : RowAt G_ a_0 xs.length [.ints .i64 xs]) (hr1 : G_ b_1 = some (.cells ([.int .i64 z] : List Value).toArray 2 (0, 0))) (hS : Sat E_ G_ w_ []) : Calls Try.prog 46 #[(.slice a_0 xs.length c_0), (.func (.func 47) #[] #[.pointer (some ⟨b_1, 0, none⟩)])] w_ (Post Dg E_ G_ (IndexGe_out (IndexGe xs z)) (IndexGe_nw (IndexGe xs z)) (IndexGe_rows (IndexGe xs z))) :=
  IndexGe_start xs z a_0 c_0 b_1 hr0 hr1 (fun i h => IndexGe_loop xs z a_0 c_0 b_1 i h) hS (IndexGe_begin xs z a_0 c_0 b_1 hr0.bound )
def IndexGe_e : Entry Sg := fun
  | [(_, .row n_0 [.ints .i64 xs]), (.func (.func 47) ⟨[]⟩ ⟨[_]⟩, .many [.cells 2 [.int .i64 z]])] => some ⟨[], none, rowsR [], fun ss => .int .i64 ((IndexGe xs z)), fun k_ => .no⟩
  | _ => none
theorem IndexGe_ok : EntryOk Dg Try.prog 46 IndexGe_e := by
  intro args r h
  unfold IndexGe_e at h
  split at h
  · injection h with h; subst h
    refine ⟨fun K acs _ => pOk_no, fun hpre E G w hi hS => ?_⟩
    have hi_0 := hi _ (List.mem_of_getElem? (i := 0) rfl)
    simp only [iOk] at hi_0
    obtain ⟨a_0, c_0, e_0, hr0⟩ := hi_0
    have l_0 := hr0.len
    simp only [Col.len] at l_0
    subst l_0
    subst e_0
    have hi_1 := hi _ (List.mem_of_getElem? (i := 1) rfl)
    simp only [iOk, isOk] at hi_1
    obtain ⟨⟨b_1, e_1, hr1⟩, _⟩ := hi_1
    subst e_1
    exact entry_post Dg (nw := []) rfl (IndexGe_calls _ _ _ _ _ hr0 hr1  hS)
  · cases h
def T_IndexGe : List (Nat × Entry Sg) := (46, IndexGe_e) :: T_class_Of1
theorem T_IndexGe_ok : TableOk Dg Try.prog T_IndexGe := TableOk.cons Dg IndexGe_ok T_class_Of1_ok

/-- class.Of -/
def class_Of (s : Int) (z : Int) : Int × Bool := (bif decide (z < (1 : Int)) then ((0 : Int), false) else (if (0 : Int) > IndexGe (class_Table s) z then (0 : Int) else IndexGe (class_Table s) z, decide (IndexGe (class_Table s) z ≥ (0 : Int))))
def class_Of_out (r_ : Int × Bool) : List Value → Value := fun ss => .tuple #[.int .i64 (r_.1), .bool (r_.2)]
def class_Of_nw (r_ : Int × Bool) : List (Chunk Sg) := []
def class_Of_rows (r_ : Int × Bool) : List (TypeId × List Col) := []
theorem class_Of_calls {E_ : World} {G_ : Hp} {w_ : World} (s : Int) (z : Int) (hS : Sat E_ G_ w_ []) : Calls Try.prog 24 #[(.int .i64 s), (.int .i64 z)] w_ (Post Dg E_ G_ (class_Of_out (class_Of s z)) (class_Of_nw (class_Of s z)) (class_Of_rows (class_Of s z))) :=
  calls_post Dg T_IndexGe_ok Try.func24 mix (B := bodyOf Try.f24) (by kernel_rfl) [(.int .i64 s), (.int .i64 z)] [.no, .no] (by kernel_rfl) (objs := []) (ros := []) (psOk_cons pOk_no (psOk_cons pOk_no (psOk_nil))) (by kernel_rfl) (trivial) hS 400
    (t := Tree.fresh fun b => Tree.br (decide (z < (1 : Int))) (Tree.ret (Value.tuple { toList := [Value.int IntKind.i64 (0 : Int), Value.bool false] }) [Chunk.cells b 2 [(Value.int IntKind.i64 z, Pr.no)]]) (Tree.freshS fun a cap => Tree.ret (Value.tuple { toList := [Value.int IntKind.i64 (if (0 : Int) > IndexGe (class_Table s) z then (0 : Int) else IndexGe (class_Table s) z), Value.bool (decide (IndexGe (class_Table s) z ≥ (0 : Int)))] }) [Chunk.cells b 2 [(Value.int IntKind.i64 z, Pr.no)], Chunk.row (Prod.fst (a, cap)) (Prod.fst (Prod.fst (2, [Col.ints IntKind.i64 (class_Table s)]), lenC [Col.ints IntKind.i64 (class_Table s)], [Col.ints IntKind.i64 (class_Table s)])) (Prod.fst (lenC [Col.ints IntKind.i64 (class_Table s)], [Col.ints IntKind.i64 (class_Table s)])) (Prod.snd (a, cap)) [Col.ints IntKind.i64 (class_Table s)]]))
    (by kernel_rfl)
    (fun b0_0 => ⟨fun z1 => RetOk.at (outf := class_Of_out) (nwf := class_Of_nw) (rowsf := class_Of_rows) (r := ((0 : Int), false)) (by first | exact Eq.symm ((cT z1).trans rfl) | (simp only [class_Of, z1, cond_true, cond_false]; done) | (exfalso; simp_all; done) | decide) ⟨[], [], (by decide), rfl, rfl, trivial⟩, fun z1 => fun b2_0 b2_1 => RetOk.at (outf := class_Of_out) (nwf := class_Of_nw) (rowsf := class_Of_rows) (r := (if (0 : Int) > IndexGe (class_Table s) z then (0 : Int) else IndexGe (class_Table s) z, decide (IndexGe (class_Table s) z ≥ (0 : Int)))) (by first | exact Eq.symm ((cF z1).trans rfl) | (simp only [class_Of, z1, cond_true, cond_false]; done) | (exfalso; simp_all; done) | decide) ⟨[], [], (by decide), rfl, rfl, trivial⟩⟩)
def class_Of_e : Entry Sg := fun
  | [(.int .i64 s, _), (.int .i64 z, _)] => some ⟨[], none, rowsR [], fun ss => .tuple #[.int .i64 ((class_Of s z).1), .bool ((class_Of s z).2)], fun k_ => .no⟩
  | _ => none
theorem class_Of_ok : EntryOk Dg Try.prog 24 class_Of_e := by
  intro args r h
  unfold class_Of_e at h
  split at h
  · injection h with h; subst h
    refine ⟨fun K acs _ => pOk_no, fun hpre E G w hi hS => ?_⟩
    exact entry_post Dg (nw := []) rfl (class_Of_calls _ _  hS)
  · cases h
def T_class_Of : List (Nat × Entry Sg) := (24, class_Of_e) :: T_IndexGe
theorem T_class_Of_ok : TableOk Dg Try.prog T_class_Of := TableOk.cons Dg class_Of_ok T_IndexGe_ok
end Go.Proofs.Ytaenbinoejnecaa

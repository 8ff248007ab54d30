/-
  DERIVED. What functions of the program compute, read off their bodies by the machine of SlB, and that it is so. Printed by a program of this claim's own (wip/gen/gen2.py).
-/
import Derived.Test.YtaenbinoejnecaaSlClass
namespace Go.Proofs.Ytaenbinoejnecaa
open Go.Sl
set_option linter.unusedSimpArgs false
set_option linter.unusedVariables false

/-- nacrelaw05.live -/
def l05_live : Bool := true
def l05_live_out (r_ : Bool) : List Value → Value := fun ss => .bool (r_)
def l05_live_nw (r_ : Bool) : List (Chunk Sg) := []
def l05_live_rows (r_ : Bool) : List (TypeId × List Col) := []
theorem l05_live_calls {E_ : World} {G_ : Hp} {w_ : World} (hS : Sat E_ G_ w_ []) : Calls Try.prog 23 #[] w_ (Post Dg E_ G_ (l05_live_out l05_live) (l05_live_nw l05_live) (l05_live_rows l05_live)) :=
  calls_post Dg T_class_Of_ok Try.func23 mix (B := bodyOf Try.f23) (by kernel_rfl) [] [] (by kernel_rfl) (objs := []) (ros := []) (psOk_nil) (by kernel_rfl) (trivial) hS 400
    (t := Tree.freshS fun a cap => Tree.fresh fun b => Tree.ret (Value.bool true) [Chunk.row (Prod.fst (a, cap)) 2 9 (Prod.snd (a, cap)) [Col.ints IntKind.i64 [(32 : Int), (48 : Int), (64 : Int), (96 : Int), (128 : Int), (192 : Int), (256 : Int), (336 : Int), (512 : Int)]], Chunk.row (some b) 2 9 9 [Col.ints IntKind.i64 [(32 : Int), (48 : Int), (64 : Int), (96 : Int), (128 : Int), (192 : Int), (256 : Int), (336 : Int), (512 : Int)]]])
    (by kernel_rfl)
    (fun b0_0 b0_1 => fun b1_0 => RetOk.at (outf := l05_live_out) (nwf := l05_live_nw) (rowsf := l05_live_rows) (r := true) (by first | (simp only [l05_live, cond_true, cond_false]; done) | (exfalso; simp_all; done) | decide) ⟨[], [], (by decide), rfl, rfl, trivial⟩)
def l05_live_e : Entry Sg := fun
  | [] => some ⟨[], none, rowsR [], fun ss => .bool (l05_live), fun k_ => .no⟩
  | _ => none
theorem l05_live_ok : EntryOk Dg Try.prog 23 l05_live_e := by
  intro args r h
  unfold l05_live_e at h
  split at h
  · injection h with h; subst h
    refine ⟨fun K acs _ => pOk_no, fun hpre E G w hi hS => ?_⟩
    exact entry_post Dg (nw := []) rfl (l05_live_calls  hS)
  · cases h
def T_l05_live : List (Nat × Entry Sg) := (23, l05_live_e) :: T_class_Of
theorem T_l05_live_ok : TableOk Dg Try.prog T_l05_live := TableOk.cons Dg l05_live_ok T_class_Of_ok

/-- nacrelaw05.ClassTables -/
def ClassTables (s : Int) (k : Int) : Bool := (bif class_Slots k == r05_Slots k && class_Size s k == r05_Size s k then Longs (class_Table s) (r05_Table s) && l05_live else false)
def ClassTables_out (r_ : Bool) : List Value → Value := fun ss => .bool (r_)
def ClassTables_nw (r_ : Bool) : List (Chunk Sg) := []
def ClassTables_rows (r_ : Bool) : List (TypeId × List Col) := []
theorem ClassTables_calls {E_ : World} {G_ : Hp} {w_ : World} (s : Int) (k : Int) (hS : Sat E_ G_ w_ []) : Calls Try.prog 4 #[(.int .i64 s), (.int .i64 k)] w_ (Post Dg E_ G_ (ClassTables_out (ClassTables s k)) (ClassTables_nw (ClassTables s k)) (ClassTables_rows (ClassTables s k))) :=
  calls_post Dg T_l05_live_ok Try.func4 mix (B := bodyOf Try.f4) (by kernel_rfl) [(.int .i64 s), (.int .i64 k)] [.no, .no] (by kernel_rfl) (objs := []) (ros := []) (psOk_cons pOk_no (psOk_cons pOk_no (psOk_nil))) (by kernel_rfl) (trivial) hS 400
    (t := Tree.br (class_Slots k == r05_Slots k && class_Size s k == r05_Size s k) (Tree.freshS fun a cap => Tree.freshS fun a_1 cap_1 => Tree.ret (Value.bool (Longs (class_Table s) (r05_Table s) && l05_live)) [Chunk.row (Prod.fst (a, cap)) (Prod.fst (Prod.fst (2, [Col.ints IntKind.i64 (class_Table s)]), lenC [Col.ints IntKind.i64 (class_Table s)], [Col.ints IntKind.i64 (class_Table s)])) (Prod.fst (lenC [Col.ints IntKind.i64 (class_Table s)], [Col.ints IntKind.i64 (class_Table s)])) (Prod.snd (a, cap)) [Col.ints IntKind.i64 (class_Table s)], Chunk.row (Prod.fst (a_1, cap_1)) (Prod.fst (Prod.fst (2, [Col.ints IntKind.i64 (r05_Table s)]), lenC [Col.ints IntKind.i64 (r05_Table s)], [Col.ints IntKind.i64 (r05_Table s)])) (Prod.fst (lenC [Col.ints IntKind.i64 (r05_Table s)], [Col.ints IntKind.i64 (r05_Table s)])) (Prod.snd (a_1, cap_1)) [Col.ints IntKind.i64 (r05_Table s)]]) (Tree.ret (Value.bool false) []))
    (by kernel_rfl)
    (⟨fun z0 => fun b1_0 b1_1 => fun b2_0 b2_1 => RetOk.at (outf := ClassTables_out) (nwf := ClassTables_nw) (rowsf := ClassTables_rows) (r := Longs (class_Table s) (r05_Table s) && l05_live) (by first | (simp only [ClassTables, z0, cond_true, cond_false]; done) | (exfalso; simp_all; done) | decide) ⟨[], [], (by decide), rfl, rfl, trivial⟩, fun z0 => RetOk.at (outf := ClassTables_out) (nwf := ClassTables_nw) (rowsf := ClassTables_rows) (r := false) (by first | (simp only [ClassTables, z0, cond_true, cond_false]; done) | (exfalso; simp_all; done) | decide) ⟨[], [], (by decide), rfl, rfl, trivial⟩⟩)
theorem ClassTables_plain {E_ : World} {G_ : Hp} {w_ : World} (s : Int) (k : Int) (hS : Sat E_ G_ w_ []) : Calls Try.prog 4 #[(.int .i64 s), (.int .i64 k)] w_ (fun en w' => en = .returned (.bool ((ClassTables s k))) ∧ Sat E_ G_ w' []) := by
  have h := ClassTables_calls (E_ := E_) (G_ := G_) s k  hS
  refine h.mono fun en w' hp => ?_
  have hp' : Post Dg E_ G_ (fun _ => .bool ((ClassTables s k))) ([] : List (Chunk Sg)) [] en w' := hp
  rw [Post.plain] at hp'
  exact hp'
def ClassTables_e : Entry Sg := fun
  | [(.int .i64 s, _), (.int .i64 k, _)] => some ⟨[], none, rowsR [], fun ss => .bool ((ClassTables s k)), fun k_ => .no⟩
  | _ => none
theorem ClassTables_ok : EntryOk Dg Try.prog 4 ClassTables_e := by
  intro args r h
  unfold ClassTables_e at h
  split at h
  · injection h with h; subst h
    refine ⟨fun K acs _ => pOk_no, fun hpre E G w hi hS => ?_⟩
    exact entry_post Dg (nw := []) rfl (ClassTables_calls _ _  hS)
  · cases h
def T_ClassTables : List (Nat × Entry Sg) := (4, ClassTables_e) :: T_l05_live
theorem T_ClassTables_ok : TableOk Dg Try.prog T_ClassTables := TableOk.cons Dg ClassTables_ok T_l05_live_ok

/-- nacrelaw05.ClassOf -/
def ClassOf (s : Int) (z : Int) : Bool := Prod.fst (class_Of s z) == Prod.fst (r05_Of s z) && Prod.snd (class_Of s z) == Prod.snd (r05_Of s z) && l05_live
def ClassOf_out (r_ : Bool) : List Value → Value := fun ss => .bool (r_)
def ClassOf_nw (r_ : Bool) : List (Chunk Sg) := []
def ClassOf_rows (r_ : Bool) : List (TypeId × List Col) := []
theorem ClassOf_calls {E_ : World} {G_ : Hp} {w_ : World} (s : Int) (z : Int) (hS : Sat E_ G_ w_ []) : Calls Try.prog 5 #[(.int .i64 s), (.int .i64 z)] w_ (Post Dg E_ G_ (ClassOf_out (ClassOf s z)) (ClassOf_nw (ClassOf s z)) (ClassOf_rows (ClassOf s z))) :=
  calls_post Dg T_ClassTables_ok Try.func5 mix (B := bodyOf Try.f5) (by kernel_rfl) [(.int .i64 s), (.int .i64 z)] [.no, .no] (by kernel_rfl) (objs := []) (ros := []) (psOk_cons pOk_no (psOk_cons pOk_no (psOk_nil))) (by kernel_rfl) (trivial) hS 400
    (t := Tree.ret (Value.bool (Prod.fst (class_Of s z) == Prod.fst (r05_Of s z) && Prod.snd (class_Of s z) == Prod.snd (r05_Of s z) && l05_live)) [])
    (by kernel_rfl)
    (RetOk.at (outf := ClassOf_out) (nwf := ClassOf_nw) (rowsf := ClassOf_rows) (r := Prod.fst (class_Of s z) == Prod.fst (r05_Of s z) && Prod.snd (class_Of s z) == Prod.snd (r05_Of s z) && l05_live) (by first | (simp only [ClassOf, cond_true, cond_false]; done) | (exfalso; simp_all; done) | decide) ⟨[], [], (by decide), rfl, rfl, trivial⟩)
theorem ClassOf_plain {E_ : World} {G_ : Hp} {w_ : World} (s : Int) (z : Int) (hS : Sat E_ G_ w_ []) : Calls Try.prog 5 #[(.int .i64 s), (.int .i64 z)] w_ (fun en w' => en = .returned (.bool ((ClassOf s z))) ∧ Sat E_ G_ w' []) := by
  have h := ClassOf_calls (E_ := E_) (G_ := G_) s z  hS
  refine h.mono fun en w' hp => ?_
  have hp' : Post Dg E_ G_ (fun _ => .bool ((ClassOf s z))) ([] : List (Chunk Sg)) [] en w' := hp
  rw [Post.plain] at hp'
  exact hp'
def ClassOf_e : Entry Sg := fun
  | [(.int .i64 s, _), (.int .i64 z, _)] => some ⟨[], none, rowsR [], fun ss => .bool ((ClassOf s z)), fun k_ => .no⟩
  | _ => none
theorem ClassOf_ok : EntryOk Dg Try.prog 5 ClassOf_e := by
  intro args r h
  unfold ClassOf_e at h
  split at h
  · injection h with h; subst h
    refine ⟨fun K acs _ => pOk_no, fun hpre E G w hi hS => ?_⟩
    exact entry_post Dg (nw := []) rfl (ClassOf_calls _ _  hS)
  · cases h
def T_ClassOf : List (Nat × Entry Sg) := (5, ClassOf_e) :: T_ClassTables
theorem T_ClassOf_ok : TableOk Dg Try.prog T_ClassOf := TableOk.cons Dg ClassOf_ok T_ClassTables_ok
end Go.Proofs.Ytaenbinoejnecaa

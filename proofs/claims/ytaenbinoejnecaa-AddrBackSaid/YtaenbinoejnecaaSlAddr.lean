/-
  DERIVED. What functions of the program compute, read off their bodies by the machine of SlB, and that it is so. Printed by a program of this claim's own (wip/gen/gen2.py).
-/
import Derived.Test.YtaenbinoejnecaaSlClass
namespace Go.Proofs.Ytaenbinoejnecaa
open Go.Sl
set_option linter.unusedSimpArgs false
set_option linter.unusedVariables false

/-- conf.bounds -/
def conf_bounds (t : Int) (p : Int) (s : Int) : List Int × List Int × List Int := ([t, p, s], [(1 : Int), (4 : Int), (10 : Int)], [(16 : Int), (1024 : Int), (20 : Int)])
def conf_bounds_out (r_ : List Int × List Int × List Int) : List Value → Value := fun ss => ss.getD 0 undef
def conf_bounds_nw (r_ : List Int × List Int × List Int) : List (Chunk Sg) := []
def conf_bounds_rows (r_ : List Int × List Int × List Int) : List (TypeId × List Col) := [(79, [.ints .i64 (r_.1), .ints .i64 (r_.2.1), .ints .i64 (r_.2.2)])]
theorem conf_bounds_calls {E_ : World} {G_ : Hp} {w_ : World} (t : Int) (p : Int) (s : Int) (hS : Sat E_ G_ w_ []) : Calls Try.prog 59 #[(.agg #[.int .i64 t, .int .i64 p, .int .i64 s])] w_ (Post Dg E_ G_ (conf_bounds_out (conf_bounds t p s)) (conf_bounds_nw (conf_bounds t p s)) (conf_bounds_rows (conf_bounds t p s))) :=
  calls_post Dg T_class_Of_ok Try.func59 mix (B := bodyOf Try.f59) (by kernel_rfl) [(.agg #[.int .i64 t, .int .i64 p, .int .i64 s])] [.no] (by kernel_rfl) (objs := []) (ros := []) (psOk_cons pOk_no (psOk_nil)) (by kernel_rfl) (trivial) hS 400
    (t := Tree.fresh fun b => Tree.fresh fun b_1 => Tree.ret (Value.slice (some { block := b_1, off := 0 }) 3 3) [Chunk.cells b 44 [(Value.int IntKind.i64 t, Pr.no), (Value.int IntKind.i64 p, Pr.no), (Value.int IntKind.i64 s, Pr.no)], Chunk.row (some b_1) 79 3 3 [Col.ints IntKind.i64 [t, p, s], Col.ints IntKind.i64 [(1 : Int), (4 : Int), (10 : Int)], Col.ints IntKind.i64 [(16 : Int), (1024 : Int), (20 : Int)]]])
    (by kernel_rfl)
    (fun b0_0 => fun b1_0 => RetOk.at (outf := conf_bounds_out) (nwf := conf_bounds_nw) (rowsf := conf_bounds_rows) (r := ([t, p, s], [(1 : Int), (4 : Int), (10 : Int)], [(16 : Int), (1024 : Int), (20 : Int)])) (by first | exact Eq.symm rfl | (simp only [conf_bounds, cond_true, cond_false]; done) | (exfalso; simp_all; done) | decide) ⟨[(some b1_0, 3, 3)], [1], (by decide), rfl, rfl, ⟨.inl rfl, trivial⟩⟩)
def conf_bounds_e : Entry Sg := fun
  | [(.agg ⟨[.int .i64 t, .int .i64 p, .int .i64 s]⟩, .none)] => some ⟨[], none, rowsR [(79, [.ints .i64 ((conf_bounds t p s).1), .ints .i64 ((conf_bounds t p s).2.1), .ints .i64 ((conf_bounds t p s).2.2)])], fun ss => ss.getD 0 undef, fun k_ => .pt k_ .slice⟩
  | _ => none
theorem conf_bounds_ok : EntryOk Dg Try.prog 59 conf_bounds_e := by
  intro args r h
  unfold conf_bounds_e at h
  split at h
  · injection h with h; subst h
    refine ⟨(by
    intro K acs hl
    match acs, hl with
    | [ac], _ => simp [rowsR, pOk, psOk, cOk, sliceC, sliceV, sliceVal]), fun hpre E G w hi hS => ?_⟩
    exact entry_post Dg (nw := []) rfl (conf_bounds_calls _ _ _  hS)
  · cases h
def T_conf_bounds : List (Nat × Entry Sg) := (59, conf_bounds_e) :: T_class_Of
theorem T_conf_bounds_ok : TableOk Dg Try.prog T_conf_bounds := TableOk.cons Dg conf_bounds_ok T_class_Of_ok

/-- conf.Check$1 -/
def conf_Check1 (n : Int) (lo : Int) (hi : Int) : Bool := decide (n < lo) || decide (n > hi)
def conf_Check1_out (r_ : Bool) : List Value → Value := fun ss => .bool (r_)
def conf_Check1_nw (r_ : Bool) : List (Chunk Sg) := []
def conf_Check1_rows (r_ : Bool) : List (TypeId × List Col) := []
theorem conf_Check1_calls {E_ : World} {G_ : Hp} {w_ : World} (n : Int) (lo : Int) (hi : Int) (hS : Sat E_ G_ w_ []) : Calls Try.prog 60 #[(.agg #[.int .i64 n, .int .i64 lo, .int .i64 hi])] w_ (Post Dg E_ G_ (conf_Check1_out (conf_Check1 n lo hi)) (conf_Check1_nw (conf_Check1 n lo hi)) (conf_Check1_rows (conf_Check1 n lo hi))) :=
  calls_post Dg T_conf_bounds_ok Try.func60 mix (B := bodyOf Try.f60) (by kernel_rfl) [(.agg #[.int .i64 n, .int .i64 lo, .int .i64 hi])] [.no] (by kernel_rfl) (objs := []) (ros := []) (psOk_cons pOk_no (psOk_nil)) (by kernel_rfl) (trivial) hS 400
    (t := Tree.fresh fun b => Tree.ret (Value.bool (decide (n < lo) || decide (n > hi))) [Chunk.cells b 79 [(Value.int IntKind.i64 n, Pr.no), (Value.int IntKind.i64 lo, Pr.no), (Value.int IntKind.i64 hi, Pr.no)]])
    (by kernel_rfl)
    (fun b0_0 => RetOk.at (outf := conf_Check1_out) (nwf := conf_Check1_nw) (rowsf := conf_Check1_rows) (r := decide (n < lo) || decide (n > hi)) (by first | exact Eq.symm rfl | (simp only [conf_Check1, cond_true, cond_false]; done) | (exfalso; simp_all; done) | decide) ⟨[], [], (by decide), rfl, rfl, trivial⟩)
def conf_Check1_e : Entry Sg := fun
  | [(.agg ⟨[.int .i64 n, .int .i64 lo, .int .i64 hi]⟩, .none)] => some ⟨[], none, rowsR [], fun ss => .bool ((conf_Check1 n lo hi)), fun k_ => .no⟩
  | _ => none
theorem conf_Check1_ok : EntryOk Dg Try.prog 60 conf_Check1_e := by
  intro args r h
  unfold conf_Check1_e at h
  split at h
  · injection h with h; subst h
    refine ⟨fun K acs _ => pOk_no, fun hpre E G w hi hS => ?_⟩
    exact entry_post Dg (nw := []) rfl (conf_Check1_calls _ _ _  hS)
  · cases h
def T_conf_Check1 : List (Nat × Entry Sg) := (60, conf_Check1_e) :: T_conf_bounds
theorem T_conf_Check1_ok : TableOk Dg Try.prog T_conf_Check1 := TableOk.cons Dg conf_Check1_ok T_conf_bounds_ok

def firstP (n : Nat) (p : Nat → Bool) : Option Nat := (List.range n).find? p
theorem firstP_some {n i : Nat} {p : Nat → Bool} : firstP n p = some i ↔ p i = true ∧ i < n ∧ ∀ j, j < i → p j = false := by
  unfold firstP
  rw [List.find?_range_eq_some]
  simp
theorem firstP_none {n : Nat} {p : Nat → Bool} : firstP n p = none ↔ ∀ j, j < n → p j = false := by
  unfold firstP
  rw [List.find?_range_eq_none]
  simp


/-- slices.IndexFunc[[]conf.bound,conf.bound] -/
def IndexBad (xs : List Int) (ys : List Int) (zs : List Int) : Int := idxOr (firstP xs.length fun j => conf_Check1 (xs.getD j 0) (ys.getD j 0) (zs.getD j 0))
def IndexBad_out (r_ : Int) : List Value → Value := fun ss => .int .i64 (r_)
def IndexBad_nw (r_ : Int) : List (Chunk Sg) := []
def IndexBad_rows (r_ : Int) : List (TypeId × List Col) := []
def IndexBad_wp0 (xs : List Int) (ys : List Int) (zs : List Int) (a_0 : Option Addr) (c_0 : Nat) (Q1 : Int → Prop) (R_ : Int → Prop) : Prop := (Q1 ((0 : Int)))
theorem IndexBad_pc0 {E_ : World} {G_ : Hp} (xs : List Int) (ys : List Int) (zs : List Int) (a_0 : Option Addr) (c_0 : Nat) {r_ : Int} {Q1 : Int → Prop} (hQ1 : ∀ (i : Int), Q1 i → SW Dg Try.prog 61 (Post Dg E_ G_ (IndexBad_out r_) (IndexBad_nw r_) (IndexBad_rows r_)) (bodyOf Try.f61) Try.f61.ntmps E_ G_ (.code (0 :: [0,1,0,1]) :: .again [0,1,0,1] :: [.blk 0, .code [1,1]]) [⟨8, none, .int .i64 i, .no⟩, ⟨7, none, .int .i64 xs.length, .no⟩, ⟨0, none, .slice a_0 xs.length c_0, .pt 0 .slice⟩, ⟨1, none, .func (.func 60) #[] #[], .no⟩] [.ro a_0 xs.length c_0 [.ints .i64 xs, .ints .i64 ys, .ints .i64 zs]]) (h : IndexBad_wp0 xs ys zs a_0 c_0 Q1 (fun x => x = r_)) : (Tree.stuck [Ab.code [0, 1, 0, 1], Ab.blk 0, Ab.code [1, 1]] [{ s := 8, g := none, v := Value.int IntKind.i64 (0 : Int), p := Pr.no }, { s := 7, g := none, v := Value.int IntKind.i64 (↑(List.length xs) : Int), p := Pr.no }, { s := 6, g := none, v := Value.slice a_0 (List.length xs) c_0, p := Pr.pt 0 PK.slice }, { s := 4, g := none, v := Value.int IntKind.i64 (0 : Int), p := Pr.no }, { s := 0, g := none, v := Value.slice a_0 (List.length xs) c_0, p := Pr.pt 0 PK.slice }, { s := 1, g := none, v := Value.func (Fn.func 60) { toList := [] } { toList := [] }, p := Pr.no }] [Chunk.ro a_0 (List.length xs) c_0 [Col.ints IntKind.i64 xs, Col.ints IntKind.i64 ys, Col.ints IntKind.i64 zs]] : Tree Sg).holds (RetOk (IndexBad_out r_) (IndexBad_nw r_) (IndexBad_rows r_)) (SW Dg Try.prog 61 (Post Dg E_ G_ (IndexBad_out r_) (IndexBad_nw r_) (IndexBad_rows r_)) (bodyOf Try.f61) Try.f61.ntmps E_ G_) :=
  SW.move Dg [8, 7, 0, 1] [0] (by decide) (by kernel_rfl) (by kernel_rfl) (SW.enter Dg (by kernel_rfl) (hQ1 ((0 : Int)) h))
def IndexBad_wp1 (xs : List Int) (ys : List Int) (zs : List Int) (a_0 : Option Addr) (c_0 : Nat) (i : Int) (Q1 : Int → Prop) (R_ : Int → Prop) : Prop := (((decide (i < (↑(List.length xs) : Int))) = true → (((0 : Int) ≤ i ∧ i < (↑(List.length xs) : Int)) ∧ (((0 : Int) ≤ i ∧ i < (↑(List.length xs) : Int)) → (((conf_Check1 (List.getD xs (Int.toNat i) (0 : Int)) (List.getD ys (Int.toNat i) (0 : Int)) (List.getD zs (Int.toNat i) (0 : Int))) = true → (R_ (i))) ∧ ((conf_Check1 (List.getD xs (Int.toNat i) (0 : Int)) (List.getD ys (Int.toNat i) (0 : Int)) (List.getD zs (Int.toNat i) (0 : Int))) = false → (Q1 (IntKind.wrap IntKind.i64 (i + (1 : Int))))))))) ∧ ((decide (i < (↑(List.length xs) : Int))) = false → (R_ ((-1 : Int)))))
theorem IndexBad_pc1 {E_ : World} {G_ : Hp} (xs : List Int) (ys : List Int) (zs : List Int) (a_0 : Option Addr) (c_0 : Nat) (i : Int) {r_ : Int} {Q1 : Int → Prop} (hQ1 : ∀ (i : Int), Q1 i → SW Dg Try.prog 61 (Post Dg E_ G_ (IndexBad_out r_) (IndexBad_nw r_) (IndexBad_rows r_)) (bodyOf Try.f61) Try.f61.ntmps E_ G_ (.code (0 :: [0,1,0,1]) :: .again [0,1,0,1] :: [.blk 0, .code [1,1]]) [⟨8, none, .int .i64 i, .no⟩, ⟨7, none, .int .i64 xs.length, .no⟩, ⟨0, none, .slice a_0 xs.length c_0, .pt 0 .slice⟩, ⟨1, none, .func (.func 60) #[] #[], .no⟩] [.ro a_0 xs.length c_0 [.ints .i64 xs, .ints .i64 ys, .ints .i64 zs]]) (h : IndexBad_wp1 xs ys zs a_0 c_0 i Q1 (fun x => x = r_)) : (Tree.br (decide (i < (↑(List.length xs) : Int))) (Tree.need ((0 : Int) ≤ i ∧ i < (↑(List.length xs) : Int)) (Tree.br (conf_Check1 (List.getD xs (Int.toNat i) (0 : Int)) (List.getD ys (Int.toNat i) (0 : Int)) (List.getD zs (Int.toNat i) (0 : Int))) (Tree.ret (Value.int IntKind.i64 i) [Chunk.ro a_0 (List.length xs) c_0 [Col.ints IntKind.i64 xs, Col.ints IntKind.i64 ys, Col.ints IntKind.i64 zs]]) (Tree.stuck [Ab.again [0, 1, 0, 1], Ab.blk 0, Ab.code [1, 1]] [{ s := 8, g := none, v := Value.int IntKind.i64 (IntKind.wrap IntKind.i64 (i + (1 : Int))), p := Pr.no }, { s := 18, g := none, v := Value.int IntKind.i64 (IntKind.wrap IntKind.i64 (i + (1 : Int))), p := Pr.no }, { s := 16, g := none, v := Value.bool (conf_Check1 (List.getD xs (Int.toNat i) (0 : Int)) (List.getD ys (Int.toNat i) (0 : Int)) (List.getD zs (Int.toNat i) (0 : Int))), p := Pr.no }, { s := 15, g := none, v := Value.agg { toList := [Value.int IntKind.i64 (List.getD xs (Int.toNat i) (0 : Int)), Value.int IntKind.i64 (List.getD ys (Int.toNat i) (0 : Int)), Value.int IntKind.i64 (List.getD zs (Int.toNat i) (0 : Int))] }, p := Pr.no }, { s := 14, g := none, v := Value.pointer (Option.map (fun a => Addr.add a (Int.toNat i * 3)) a_0), p := Pr.pt 0 (PK.elem (Int.toNat i) 0) }, { s := 13, g := none, v := Value.int IntKind.i64 i, p := Pr.no }, { s := 12, g := none, v := Value.slice a_0 (List.length xs) c_0, p := Pr.pt 0 PK.slice }, { s := 11, g := none, v := Value.func (Fn.func 60) { toList := [] } { toList := [] }, p := Pr.no }, { s := 5, g := none, v := Value.int IntKind.i64 i, p := Pr.no }, { s := 10, g := none, v := Value.int IntKind.i64 i, p := Pr.no }, { s := 9, g := none, v := Value.bool (decide (i < (↑(List.length xs) : Int))), p := Pr.no }, { s := 7, g := none, v := Value.int IntKind.i64 (↑(List.length xs) : Int), p := Pr.no }, { s := 0, g := none, v := Value.slice a_0 (List.length xs) c_0, p := Pr.pt 0 PK.slice }, { s := 1, g := none, v := Value.func (Fn.func 60) { toList := [] } { toList := [] }, p := Pr.no }] [Chunk.ro a_0 (List.length xs) c_0 [Col.ints IntKind.i64 xs, Col.ints IntKind.i64 ys, Col.ints IntKind.i64 zs]]))) (Tree.ret (Value.int IntKind.i64 (-1 : Int)) [Chunk.ro a_0 (List.length xs) c_0 [Col.ints IntKind.i64 xs, Col.ints IntKind.i64 ys, Col.ints IntKind.i64 zs]]) : Tree Sg).holds (RetOk (IndexBad_out r_) (IndexBad_nw r_) (IndexBad_rows r_)) (SW Dg Try.prog 61 (Post Dg E_ G_ (IndexBad_out r_) (IndexBad_nw r_) (IndexBad_rows r_)) (bodyOf Try.f61) Try.f61.ntmps E_ G_) :=
  ⟨fun z0 => ⟨(h.1 z0).1, fun z1 => ⟨fun z2 => RetOk.at (outf := IndexBad_out) (nwf := IndexBad_nw) (rowsf := IndexBad_rows) (r := i) (((h.1 z0).2 z1).1 z2) ⟨[], [], (by decide), rfl, rfl, trivial⟩, fun z2 => SW.move Dg [8, 7, 0, 1] [0] (by decide) (by kernel_rfl) (by kernel_rfl) (SW.again Dg (hQ1 (IntKind.wrap IntKind.i64 (i + (1 : Int))) (((h.1 z0).2 z1).2 z2)))⟩⟩, fun z0 => RetOk.at (outf := IndexBad_out) (nwf := IndexBad_nw) (rowsf := IndexBad_rows) (r := (-1 : Int)) (h.2 z0) ⟨[], [], (by decide), rfl, rfl, trivial⟩⟩
theorem IndexBad_go1 {E_ : World} {G_ : Hp} (xs : List Int) (ys : List Int) (zs : List Int) (a_0 : Option Addr) (c_0 : Nat) (i : Int) {r_ : Int} {Q1 : Int → Prop} (hQ1 : ∀ (i : Int), Q1 i → SW Dg Try.prog 61 (Post Dg E_ G_ (IndexBad_out r_) (IndexBad_nw r_) (IndexBad_rows r_)) (bodyOf Try.f61) Try.f61.ntmps E_ G_ (.code (0 :: [0,1,0,1]) :: .again [0,1,0,1] :: [.blk 0, .code [1,1]]) [⟨8, none, .int .i64 i, .no⟩, ⟨7, none, .int .i64 xs.length, .no⟩, ⟨0, none, .slice a_0 xs.length c_0, .pt 0 .slice⟩, ⟨1, none, .func (.func 60) #[] #[], .no⟩] [.ro a_0 xs.length c_0 [.ints .i64 xs, .ints .i64 ys, .ints .i64 zs]]) (h : IndexBad_wp1 xs ys zs a_0 c_0 i Q1 (fun x => x = r_)) : SW Dg Try.prog 61 (Post Dg E_ G_ (IndexBad_out r_) (IndexBad_nw r_) (IndexBad_rows r_)) (bodyOf Try.f61) Try.f61.ntmps E_ G_ (.code (0 :: [0,1,0,1]) :: .again [0,1,0,1] :: [.blk 0, .code [1,1]]) [⟨8, none, .int .i64 i, .no⟩, ⟨7, none, .int .i64 xs.length, .no⟩, ⟨0, none, .slice a_0 xs.length c_0, .pt 0 .slice⟩, ⟨1, none, .func (.func 60) #[] #[], .no⟩] [.ro a_0 xs.length c_0 [.ints .i64 xs, .ints .i64 ys, .ints .i64 zs]] :=
  SW.go Dg T_conf_Check1_ok Try.func61 mix 400 (by kernel_rfl) (IndexBad_pc1 xs ys zs a_0 c_0 i hQ1 h)
theorem IndexBad_start {E_ : World} {G_ : Hp} {w_ : World} (xs : List Int) (ys : List Int) (zs : List Int) (a_0 : Option Addr) (c_0 : Nat) (hr0 : RowAt G_ a_0 xs.length [.ints .i64 xs, .ints .i64 ys, .ints .i64 zs]) {r_ : Int} {Q1 : Int → Prop} (hQ1 : ∀ (i : Int), Q1 i → SW Dg Try.prog 61 (Post Dg E_ G_ (IndexBad_out r_) (IndexBad_nw r_) (IndexBad_rows r_)) (bodyOf Try.f61) Try.f61.ntmps E_ G_ (.code (0 :: [0,1,0,1]) :: .again [0,1,0,1] :: [.blk 0, .code [1,1]]) [⟨8, none, .int .i64 i, .no⟩, ⟨7, none, .int .i64 xs.length, .no⟩, ⟨0, none, .slice a_0 xs.length c_0, .pt 0 .slice⟩, ⟨1, none, .func (.func 60) #[] #[], .no⟩] [.ro a_0 xs.length c_0 [.ints .i64 xs, .ints .i64 ys, .ints .i64 zs]]) (hS : Sat E_ G_ w_ []) (h : IndexBad_wp0 xs ys zs a_0 c_0 Q1 (fun x => x = r_)) : Calls Try.prog 61 #[(.slice a_0 xs.length c_0), (.func (.func 60) #[] #[])] w_ (Post Dg E_ G_ (IndexBad_out r_) (IndexBad_nw r_) (IndexBad_rows r_)) :=
  calls_post Dg T_conf_Check1_ok Try.func61 mix (B := bodyOf Try.f61) (by kernel_rfl) [(.slice a_0 xs.length c_0), (.func (.func 60) #[] #[])] [.pt 0 .slice, .no] (by kernel_rfl) (objs := []) (ros := [.ro a_0 xs.length c_0 [.ints .i64 xs, .ints .i64 ys, .ints .i64 zs]]) (psOk_cons (pOk_at rfl rfl) (psOk_cons pOk_no (psOk_nil))) (by kernel_rfl) (⟨hr0, trivial⟩) hS 400
    (t := Tree.stuck [Ab.code [0, 1, 0, 1], Ab.blk 0, Ab.code [1, 1]] [{ s := 8, g := none, v := Value.int IntKind.i64 (0 : Int), p := Pr.no }, { s := 7, g := none, v := Value.int IntKind.i64 (↑(List.length xs) : Int), p := Pr.no }, { s := 6, g := none, v := Value.slice a_0 (List.length xs) c_0, p := Pr.pt 0 PK.slice }, { s := 4, g := none, v := Value.int IntKind.i64 (0 : Int), p := Pr.no }, { s := 0, g := none, v := Value.slice a_0 (List.length xs) c_0, p := Pr.pt 0 PK.slice }, { s := 1, g := none, v := Value.func (Fn.func 60) { toList := [] } { toList := [] }, p := Pr.no }] [Chunk.ro a_0 (List.length xs) c_0 [Col.ints IntKind.i64 xs, Col.ints IntKind.i64 ys, Col.ints IntKind.i64 zs]])
    (by kernel_rfl)
    (IndexBad_pc0 xs ys zs a_0 c_0 hQ1 h)
def IndexBad_I (xs : List Int) (ys : List Int) (zs : List Int) (a_0 : Option Addr) (c_0 : Nat) (i : Int) (r_ : Int) : Prop := 0 ≤ i ∧ i ≤ xs.length ∧ (∀ j : Nat, j < i.toNat → conf_Check1 (xs.getD j 0) (ys.getD j 0) (zs.getD j 0) = false) ∧ r_ = IndexBad xs ys zs ∧ xs.length ≤ 9223372036854775807
theorem IndexBad_step (xs : List Int) (ys : List Int) (zs : List Int) (a_0 : Option Addr) (c_0 : Nat) (i : Int) {r_ : Int} (hI : IndexBad_I xs ys zs a_0 c_0 i r_) : IndexBad_wp1 xs ys zs a_0 c_0 i (fun i' => IndexBad_I xs ys zs a_0 c_0 i' r_ ∧ ((xs.length - i').toNat) < ((xs.length - i).toNat)) (fun x => x = r_) := by
  unfold IndexBad_I at hI
  unfold IndexBad_wp1 IndexBad_I
  obtain ⟨h0, h1, h2, h3, hl⟩ := hI
  refine ⟨fun h => ?_, fun h => ?_⟩
  · simp only [decide_eq_true_eq] at h
    refine ⟨by omega, fun _ => ⟨fun hg => ?_, fun hg => ?_⟩⟩
    · have := (firstP_some (n := xs.length) (p := fun j => conf_Check1 (xs.getD j 0) (ys.getD j 0) (zs.getD j 0))).2 ⟨hg, by omega, h2⟩
      show i = r_
      simp only [h3, IndexBad, this, idxOr]
      omega
    · rw [w64 (by omega)]
      refine ⟨⟨by omega, by omega, fun j hj => ?_, h3, hl⟩, by omega⟩
      by_cases hk : j = i.toNat
      · subst hk; exact hg
      · exact h2 j (by omega)
  · simp only [decide_eq_false_iff_not] at h
    show (-1 : Int) = r_
    have := (firstP_none (n := xs.length) (p := fun j => conf_Check1 (xs.getD j 0) (ys.getD j 0) (zs.getD j 0))).2 fun j hj => h2 j (by omega)
    simp only [h3, IndexBad, this, idxOr]
theorem IndexBad_loop {E_ : World} {G_ : Hp} (xs : List Int) (ys : List Int) (zs : List Int) (a_0 : Option Addr) (c_0 : Nat) {r_ : Int} : ∀ s_ : Int, IndexBad_I xs ys zs a_0 c_0 s_ r_ → SW Dg Try.prog 61 (Post Dg E_ G_ (IndexBad_out r_) (IndexBad_nw r_) (IndexBad_rows r_)) (bodyOf Try.f61) Try.f61.ntmps E_ G_ (.code (0 :: [0,1,0,1]) :: .again [0,1,0,1] :: [.blk 0, .code [1,1]]) [⟨8, none, .int .i64 s_, .no⟩, ⟨7, none, .int .i64 xs.length, .no⟩, ⟨0, none, .slice a_0 xs.length c_0, .pt 0 .slice⟩, ⟨1, none, .func (.func 60) #[] #[], .no⟩] [.ro a_0 xs.length c_0 [.ints .i64 xs, .ints .i64 ys, .ints .i64 zs]] :=
  SW.loop Dg (α := Int) (fun s_ => [⟨8, none, .int .i64 s_, .no⟩, ⟨7, none, .int .i64 xs.length, .no⟩, ⟨0, none, .slice a_0 xs.length c_0, .pt 0 .slice⟩, ⟨1, none, .func (.func 60) #[] #[], .no⟩]) (fun s_ => [.ro a_0 xs.length c_0 [.ints .i64 xs, .ints .i64 ys, .ints .i64 zs]]) (fun s_ => (xs.length - s_).toNat) (fun s_ => IndexBad_I xs ys zs a_0 c_0 s_ r_) (fun i hI ih => IndexBad_go1 xs ys zs a_0 c_0 i (fun i' h => ih i' h.1 h.2) (IndexBad_step xs ys zs a_0 c_0 i hI))
theorem IndexBad_begin (xs : List Int) (ys : List Int) (zs : List Int) (a_0 : Option Addr) (c_0 : Nat) (hl0 : xs.length ≤ 9223372036854775807) : IndexBad_wp0 xs ys zs a_0 c_0 (fun i => IndexBad_I xs ys zs a_0 c_0 i (IndexBad xs ys zs)) (fun x => x = (IndexBad xs ys zs)) := by
  unfold IndexBad_wp0 IndexBad_I
  exact ⟨by omega, by omega, fun j hj => absurd hj (Nat.not_lt_zero j), rfl, hl0⟩
theorem IndexBad_calls {E_ : World} {G_ : Hp} {w_ : World} (xs : List Int) (ys : List Int) (zs : List Int) (a_0 : Option Addr) (c_0 : Nat) (hr0 : RowAt G_ a_0 xs.length [.ints .i64 xs, .ints .i64 ys, .ints .i64 zs]) (hS : Sat E_ G_ w_ []) : Calls Try.prog 61 #[(.slice a_0 xs.length c_0), (.func (.func 60) #[] #[])] w_ (Post Dg E_ G_ (IndexBad_out (IndexBad xs ys zs)) (IndexBad_nw (IndexBad xs ys zs)) (IndexBad_rows (IndexBad xs ys zs))) :=
  IndexBad_start xs ys zs a_0 c_0 hr0 (fun i h => IndexBad_loop xs ys zs a_0 c_0 i h) hS (IndexBad_begin xs ys zs a_0 c_0 hr0.bound )
def IndexBad_e : Entry Sg := fun
  | [(_, .row n_0 [.ints .i64 xs, .ints .i64 ys, .ints .i64 zs]), (.func (.func 60) ⟨[]⟩ ⟨[]⟩, _)] => some ⟨[], none, rowsR [], fun ss => .int .i64 ((IndexBad xs ys zs)), fun k_ => .no⟩
  | _ => none
theorem IndexBad_ok : EntryOk Dg Try.prog 61 IndexBad_e := by
  intro args r h
  unfold IndexBad_e at h
  split at h
  · injection h with h; subst h
    refine ⟨fun K acs _ => pOk_no, fun hpre E G w hi hS => ?_⟩
    have hi_0 := hi _ (List.mem_of_getElem? (i := 0) rfl)
    simp only [iOk] at hi_0
    obtain ⟨a_0, c_0, e_0, hr0⟩ := hi_0
    have l_0 := hr0.len
    simp only [Col.len] at l_0
    subst l_0
    subst e_0
    exact entry_post Dg (nw := []) rfl (IndexBad_calls _ _ _ _ _ hr0  hS)
  · cases h
def T_IndexBad : List (Nat × Entry Sg) := (61, IndexBad_e) :: T_conf_Check1
theorem T_IndexBad_ok : TableOk Dg Try.prog T_IndexBad := TableOk.cons Dg IndexBad_ok T_conf_Check1_ok

/-- slices.ContainsFunc[[]conf.bound,conf.bound] -/
def ContainsBad (xs : List Int) (ys : List Int) (zs : List Int) : Bool := decide (IndexBad xs ys zs ≥ (0 : Int))
def ContainsBad_out (r_ : Bool) : List Value → Value := fun ss => .bool (r_)
def ContainsBad_nw (r_ : Bool) : List (Chunk Sg) := []
def ContainsBad_rows (r_ : Bool) : List (TypeId × List Col) := []
theorem ContainsBad_calls {E_ : World} {G_ : Hp} {w_ : World} (xs : List Int) (ys : List Int) (zs : List Int) (a_0 : Option Addr) (c_0 : Nat) (hr0 : RowAt G_ a_0 xs.length [.ints .i64 xs, .ints .i64 ys, .ints .i64 zs]) (hS : Sat E_ G_ w_ []) : Calls Try.prog 58 #[(.slice a_0 xs.length c_0), (.func (.func 60) #[] #[])] w_ (Post Dg E_ G_ (ContainsBad_out (ContainsBad xs ys zs)) (ContainsBad_nw (ContainsBad xs ys zs)) (ContainsBad_rows (ContainsBad xs ys zs))) :=
  calls_post Dg T_IndexBad_ok Try.func58 mix (B := bodyOf Try.f58) (by kernel_rfl) [(.slice a_0 xs.length c_0), (.func (.func 60) #[] #[])] [.pt 0 .slice, .no] (by kernel_rfl) (objs := []) (ros := [.ro a_0 xs.length c_0 [.ints .i64 xs, .ints .i64 ys, .ints .i64 zs]]) (psOk_cons (pOk_at rfl rfl) (psOk_cons pOk_no (psOk_nil))) (by kernel_rfl) (⟨hr0, trivial⟩) hS 400
    (t := Tree.ret (Value.bool (decide (IndexBad xs ys zs ≥ (0 : Int)))) [Chunk.ro a_0 (List.length xs) c_0 [Col.ints IntKind.i64 xs, Col.ints IntKind.i64 ys, Col.ints IntKind.i64 zs]])
    (by kernel_rfl)
    (RetOk.at (outf := ContainsBad_out) (nwf := ContainsBad_nw) (rowsf := ContainsBad_rows) (r := decide (IndexBad xs ys zs ≥ (0 : Int))) (by first | exact Eq.symm rfl | (simp only [ContainsBad, cond_true, cond_false]; done) | (exfalso; simp_all; done) | decide) ⟨[], [], (by decide), rfl, rfl, trivial⟩)
def ContainsBad_e : Entry Sg := fun
  | [(_, .row n_0 [.ints .i64 xs, .ints .i64 ys, .ints .i64 zs]), (.func (.func 60) ⟨[]⟩ ⟨[]⟩, _)] => some ⟨[], none, rowsR [], fun ss => .bool ((ContainsBad xs ys zs)), fun k_ => .no⟩
  | _ => none
theorem ContainsBad_ok : EntryOk Dg Try.prog 58 ContainsBad_e := by
  intro args r h
  unfold ContainsBad_e at h
  split at h
  · injection h with h; subst h
    refine ⟨fun K acs _ => pOk_no, fun hpre E G w hi hS => ?_⟩
    have hi_0 := hi _ (List.mem_of_getElem? (i := 0) rfl)
    simp only [iOk] at hi_0
    obtain ⟨a_0, c_0, e_0, hr0⟩ := hi_0
    have l_0 := hr0.len
    simp only [Col.len] at l_0
    subst l_0
    subst e_0
    exact entry_post Dg (nw := []) rfl (ContainsBad_calls _ _ _ _ _ hr0  hS)
  · cases h
def T_ContainsBad : List (Nat × Entry Sg) := (58, ContainsBad_e) :: T_IndexBad
theorem T_ContainsBad_ok : TableOk Dg Try.prog T_ContainsBad := TableOk.cons Dg ContainsBad_ok T_IndexBad_ok

/-- conf.Check -/
def conf_Check (t : Int) (p : Int) (s : Int) : Int := (bif ContainsBad (Prod.fst (conf_bounds t p s)) (Prod.fst (Prod.snd (conf_bounds t p s))) (Prod.snd (Prod.snd (conf_bounds t p s))) then (1 : Int) else (0 : Int))
def conf_Check_out (r_ : Int) : List Value → Value := fun ss => .int .i64 (r_)
def conf_Check_nw (r_ : Int) : List (Chunk Sg) := []
def conf_Check_rows (r_ : Int) : List (TypeId × List Col) := []
theorem conf_Check_calls {E_ : World} {G_ : Hp} {w_ : World} (t : Int) (p : Int) (s : Int) (hS : Sat E_ G_ w_ []) : Calls Try.prog 57 #[(.agg #[.int .i64 t, .int .i64 p, .int .i64 s])] w_ (Post Dg E_ G_ (conf_Check_out (conf_Check t p s)) (conf_Check_nw (conf_Check t p s)) (conf_Check_rows (conf_Check t p s))) :=
  calls_post Dg T_ContainsBad_ok Try.func57 mix (B := bodyOf Try.f57) (by kernel_rfl) [(.agg #[.int .i64 t, .int .i64 p, .int .i64 s])] [.no] (by kernel_rfl) (objs := []) (ros := []) (psOk_cons pOk_no (psOk_nil)) (by kernel_rfl) (trivial) hS 400
    (t := Tree.fresh fun b => Tree.freshS fun a cap => Tree.br (ContainsBad (Prod.fst (conf_bounds t p s)) (Prod.fst (Prod.snd (conf_bounds t p s))) (Prod.snd (Prod.snd (conf_bounds t p s)))) (Tree.ret (Value.int IntKind.i64 (1 : Int)) [Chunk.cells b 44 [(Value.int IntKind.i64 t, Pr.no), (Value.int IntKind.i64 p, Pr.no), (Value.int IntKind.i64 s, Pr.no)], Chunk.row (Prod.fst (a, cap)) (Prod.fst (Prod.fst (79, [Col.ints IntKind.i64 (Prod.fst (conf_bounds t p s)), Col.ints IntKind.i64 (Prod.fst (Prod.snd (conf_bounds t p s))), Col.ints IntKind.i64 (Prod.snd (Prod.snd (conf_bounds t p s)))]), lenC [Col.ints IntKind.i64 (Prod.fst (conf_bounds t p s)), Col.ints IntKind.i64 (Prod.fst (Prod.snd (conf_bounds t p s))), Col.ints IntKind.i64 (Prod.snd (Prod.snd (conf_bounds t p s)))], [Col.ints IntKind.i64 (Prod.fst (conf_bounds t p s)), Col.ints IntKind.i64 (Prod.fst (Prod.snd (conf_bounds t p s))), Col.ints IntKind.i64 (Prod.snd (Prod.snd (conf_bounds t p s)))])) (Prod.fst (lenC [Col.ints IntKind.i64 (Prod.fst (conf_bounds t p s)), Col.ints IntKind.i64 (Prod.fst (Prod.snd (conf_bounds t p s))), Col.ints IntKind.i64 (Prod.snd (Prod.snd (conf_bounds t p s)))], [Col.ints IntKind.i64 (Prod.fst (conf_bounds t p s)), Col.ints IntKind.i64 (Prod.fst (Prod.snd (conf_bounds t p s))), Col.ints IntKind.i64 (Prod.snd (Prod.snd (conf_bounds t p s)))])) (Prod.snd (a, cap)) [Col.ints IntKind.i64 (Prod.fst (conf_bounds t p s)), Col.ints IntKind.i64 (Prod.fst (Prod.snd (conf_bounds t p s))), Col.ints IntKind.i64 (Prod.snd (Prod.snd (conf_bounds t p s)))]]) (Tree.ret (Value.int IntKind.i64 (0 : Int)) [Chunk.cells b 44 [(Value.int IntKind.i64 t, Pr.no), (Value.int IntKind.i64 p, Pr.no), (Value.int IntKind.i64 s, Pr.no)], Chunk.row (Prod.fst (a, cap)) (Prod.fst (Prod.fst (79, [Col.ints IntKind.i64 (Prod.fst (conf_bounds t p s)), Col.ints IntKind.i64 (Prod.fst (Prod.snd (conf_bounds t p s))), Col.ints IntKind.i64 (Prod.snd (Prod.snd (conf_bounds t p s)))]), lenC [Col.ints IntKind.i64 (Prod.fst (conf_bounds t p s)), Col.ints IntKind.i64 (Prod.fst (Prod.snd (conf_bounds t p s))), Col.ints IntKind.i64 (Prod.snd (Prod.snd (conf_bounds t p s)))], [Col.ints IntKind.i64 (Prod.fst (conf_bounds t p s)), Col.ints IntKind.i64 (Prod.fst (Prod.snd (conf_bounds t p s))), Col.ints IntKind.i64 (Prod.snd (Prod.snd (conf_bounds t p s)))])) (Prod.fst (lenC [Col.ints IntKind.i64 (Prod.fst (conf_bounds t p s)), Col.ints IntKind.i64 (Prod.fst (Prod.snd (conf_bounds t p s))), Col.ints IntKind.i64 (Prod.snd (Prod.snd (conf_bounds t p s)))], [Col.ints IntKind.i64 (Prod.fst (conf_bounds t p s)), Col.ints IntKind.i64 (Prod.fst (Prod.snd (conf_bounds t p s))), Col.ints IntKind.i64 (Prod.snd (Prod.snd (conf_bounds t p s)))])) (Prod.snd (a, cap)) [Col.ints IntKind.i64 (Prod.fst (conf_bounds t p s)), Col.ints IntKind.i64 (Prod.fst (Prod.snd (conf_bounds t p s))), Col.ints IntKind.i64 (Prod.snd (Prod.snd (conf_bounds t p s)))]]))
    (by kernel_rfl)
    (fun b0_0 => fun b1_0 b1_1 => ⟨fun z2 => RetOk.at (outf := conf_Check_out) (nwf := conf_Check_nw) (rowsf := conf_Check_rows) (r := (1 : Int)) (by first | exact Eq.symm ((cT z2).trans rfl) | (simp only [conf_Check, z2, cond_true, cond_false]; done) | (exfalso; simp_all; done) | decide) ⟨[], [], (by decide), rfl, rfl, trivial⟩, fun z2 => RetOk.at (outf := conf_Check_out) (nwf := conf_Check_nw) (rowsf := conf_Check_rows) (r := (0 : Int)) (by first | exact Eq.symm ((cF z2).trans rfl) | (simp only [conf_Check, z2, cond_true, cond_false]; done) | (exfalso; simp_all; done) | decide) ⟨[], [], (by decide), rfl, rfl, trivial⟩⟩)
def conf_Check_e : Entry Sg := fun
  | [(.agg ⟨[.int .i64 t, .int .i64 p, .int .i64 s]⟩, .none)] => some ⟨[], none, rowsR [], fun ss => .int .i64 ((conf_Check t p s)), fun k_ => .no⟩
  | _ => none
theorem conf_Check_ok : EntryOk Dg Try.prog 57 conf_Check_e := by
  intro args r h
  unfold conf_Check_e at h
  split at h
  · injection h with h; subst h
    refine ⟨fun K acs _ => pOk_no, fun hpre E G w hi hS => ?_⟩
    exact entry_post Dg (nw := []) rfl (conf_Check_calls _ _ _  hS)
  · cases h
def T_conf_Check : List (Nat × Entry Sg) := (57, conf_Check_e) :: T_ContainsBad
theorem T_conf_Check_ok : TableOk Dg Try.prog T_conf_Check := TableOk.cons Dg conf_Check_ok T_ContainsBad_ok

theorem conf_Check_eq (t p s : Int) : conf_Check t p s = bif r04_Right t p s then 0 else 1 := by
  have e : ∀ o : Option Nat, decide (idxOr o ≥ 0) = o.isSome := fun o => by cases o <;> simp [idxOr]
  have h : ContainsBad [t, p, s] [1, 4, 10] [16, 1024, 20] = !r04_Right t p s := by
    unfold ContainsBad IndexBad
    rw [e]
    cases hf : firstP [t, p, s].length (fun j => conf_Check1 ([t, p, s].getD j 0) ([1, 4, 10].getD j 0) ([16, 1024, 20].getD j 0)) with
    | none =>
      have hn := firstP_none.1 hf
      have h0 := hn 0 (by simp)
      have h1 := hn 1 (by simp)
      have h2 := hn 2 (by simp)
      simp [conf_Check1] at h0 h1 h2
      have : r04_Right t p s = true := by simp only [r04_Right, Bool.and_eq_true, decide_eq_true_eq]; omega
      rw [this]; rfl
    | some j =>
      obtain ⟨h1, h2, _⟩ := firstP_some.1 hf
      have : r04_Right t p s = false := by
        apply Bool.eq_false_iff.2
        intro hr
        simp only [r04_Right, Bool.and_eq_true, decide_eq_true_eq] at hr
        have hj : j = 0 ∨ j = 1 ∨ j = 2 := by simp at h2; omega
        rcases hj with rfl | rfl | rfl <;> simp [conf_Check1] at h1 <;> omega
      rw [this]; rfl
  unfold conf_Check
  simp only [conf_bounds, h]
  cases r04_Right t p s <;> rfl
theorem right_iff {t p s : Int} : r04_Right t p s = true ↔ (1 ≤ t ∧ t ≤ 16) ∧ (4 ≤ p ∧ p ≤ 1024) ∧ 10 ≤ s ∧ s ≤ 20 := by
  simp only [r04_Right, Bool.and_eq_true, decide_eq_true_eq]; omega
theorem need_Page {t p s : Int} (h : (conf_Check t p s != 0) = false) : 0 ≤ s := by
  rw [conf_Check_eq] at h
  cases hr : r04_Right t p s with
  | true => have := right_iff.1 hr; omega
  | false => rw [hr] at h; simp at h
theorem r04_ne {t p s : Int} (h : r04_Right t p s = true) : r04_Page t p s ≠ 0 := by
  have := pow2_pos s.toNat
  simp only [r04_Page, h, Bool.not_true, cond_false]; omega
theorem r06_ne {t p s : Int} {b : Bool} (h : (!r04_Right t p s || b) = false) : r04_Page t p s ≠ 0 := r04_ne (by simpa using (Bool.or_eq_false_iff.1 h).1)
theorem r06_ne2 {t p s : Int} {b c : Bool} (h : (!r04_Right t p s || b || c) = false) : r04_Page t p s ≠ 0 := r06_ne (Bool.or_eq_false_iff.1 h).1
theorem r06_ne3 {t p s : Int} {b c d : Bool} (h : (!r04_Right t p s || b || c || d) = false) : r04_Page t p s ≠ 0 := r06_ne2 (Bool.or_eq_false_iff.1 h).1


/-- conf.Page -/
def conf_Page (t : Int) (p : Int) (s : Int) : Int := (bif conf_Check t p s != (0 : Int) then (0 : Int) else IntKind.wrap IntKind.i64 ((1 : Int) * (2 : Int) ^ min (Int.toNat s) 64))
def conf_Page_out (r_ : Int) : List Value → Value := fun ss => .int .i64 (r_)
def conf_Page_nw (r_ : Int) : List (Chunk Sg) := []
def conf_Page_rows (r_ : Int) : List (TypeId × List Col) := []
theorem conf_Page_calls {E_ : World} {G_ : Hp} {w_ : World} (t : Int) (p : Int) (s : Int) (hS : Sat E_ G_ w_ []) : Calls Try.prog 51 #[(.agg #[.int .i64 t, .int .i64 p, .int .i64 s])] w_ (Post Dg E_ G_ (conf_Page_out (conf_Page t p s)) (conf_Page_nw (conf_Page t p s)) (conf_Page_rows (conf_Page t p s))) :=
  calls_post Dg T_conf_Check_ok Try.func51 mix (B := bodyOf Try.f51) (by kernel_rfl) [(.agg #[.int .i64 t, .int .i64 p, .int .i64 s])] [.no] (by kernel_rfl) (objs := []) (ros := []) (psOk_cons pOk_no (psOk_nil)) (by kernel_rfl) (trivial) hS 400
    (t := Tree.fresh fun b => Tree.br (conf_Check t p s != (0 : Int)) (Tree.ret (Value.int IntKind.i64 (0 : Int)) [Chunk.cells b 44 [(Value.int IntKind.i64 t, Pr.no), (Value.int IntKind.i64 p, Pr.no), (Value.int IntKind.i64 s, Pr.no)]]) (Tree.need ((0 : Int) ≤ s) (Tree.ret (Value.int IntKind.i64 (IntKind.wrap IntKind.i64 ((1 : Int) * (2 : Int) ^ min (Int.toNat s) 64))) [Chunk.cells b 44 [(Value.int IntKind.i64 t, Pr.no), (Value.int IntKind.i64 p, Pr.no), (Value.int IntKind.i64 s, Pr.no)]])))
    (by kernel_rfl)
    (fun b0_0 => ⟨fun z1 => RetOk.at (outf := conf_Page_out) (nwf := conf_Page_nw) (rowsf := conf_Page_rows) (r := (0 : Int)) (by first | exact Eq.symm ((cT z1).trans rfl) | (simp only [conf_Page, z1, cond_true, cond_false]; done) | (exfalso; simp_all; done) | decide) ⟨[], [], (by decide), rfl, rfl, trivial⟩, fun z1 => ⟨by exact need_Page (by assumption), fun y2 => RetOk.at (outf := conf_Page_out) (nwf := conf_Page_nw) (rowsf := conf_Page_rows) (r := IntKind.wrap IntKind.i64 ((1 : Int) * (2 : Int) ^ min (Int.toNat s) 64)) (by first | exact Eq.symm ((cF z1).trans rfl) | (simp only [conf_Page, z1, cond_true, cond_false]; done) | (exfalso; simp_all; done) | decide) ⟨[], [], (by decide), rfl, rfl, trivial⟩⟩⟩)
def conf_Page_e : Entry Sg := fun
  | [(.agg ⟨[.int .i64 t, .int .i64 p, .int .i64 s]⟩, .none)] => some ⟨[], none, rowsR [], fun ss => .int .i64 ((conf_Page t p s)), fun k_ => .no⟩
  | _ => none
theorem conf_Page_ok : EntryOk Dg Try.prog 51 conf_Page_e := by
  intro args r h
  unfold conf_Page_e at h
  split at h
  · injection h with h; subst h
    refine ⟨fun K acs _ => pOk_no, fun hpre E G w hi hS => ?_⟩
    exact entry_post Dg (nw := []) rfl (conf_Page_calls _ _ _  hS)
  · cases h
def T_conf_Page : List (Nat × Entry Sg) := (51, conf_Page_e) :: T_conf_Check
theorem T_conf_Page_ok : TableOk Dg Try.prog T_conf_Page := TableOk.cons Dg conf_Page_ok T_conf_Check_ok

theorem conf_Page_eq (t p s : Int) : conf_Page t p s = r04_Page t p s := by
  unfold conf_Page r04_Page
  rw [conf_Check_eq]
  cases hr : r04_Right t p s with
  | false => rfl
  | true =>
    have := right_iff.1 hr
    have h1 := pow2_pos s.toNat
    have h2 := pow2_le (show s.toNat ≤ 20 by omega)
    simp only [cond_true, Bool.not_true, cond_false, bne_self_eq_false]
    rw [show min s.toNat 64 = s.toNat by omega, Int.one_mul, w64 (by omega)]
theorem page_zero {t p s : Int} (h : r04_Right t p s = false) : r04_Page t p s = 0 := by simp [r04_Page, h]
theorem page_in {t p s : Int} (h : r04_Right t p s = true) : r04_Page t p s = 2 ^ s.toNat := by simp [r04_Page, h]
theorem s_of_page {t p s : Int} (h : r04_Page t p s ≠ 0) : 0 ≤ s := by
  cases hr : r04_Right t p s with
  | true => have := right_iff.1 hr; omega
  | false => exact absurd (page_zero hr) h


/-- conf.Bytes -/
def conf_Bytes (t : Int) (p : Int) (s : Int) : Int := IntKind.wrap IntKind.i64 (conf_Page t p s * p)
def conf_Bytes_out (r_ : Int) : List Value → Value := fun ss => .int .i64 (r_)
def conf_Bytes_nw (r_ : Int) : List (Chunk Sg) := []
def conf_Bytes_rows (r_ : Int) : List (TypeId × List Col) := []
theorem conf_Bytes_calls {E_ : World} {G_ : Hp} {w_ : World} (t : Int) (p : Int) (s : Int) (hS : Sat E_ G_ w_ []) : Calls Try.prog 52 #[(.agg #[.int .i64 t, .int .i64 p, .int .i64 s])] w_ (Post Dg E_ G_ (conf_Bytes_out (conf_Bytes t p s)) (conf_Bytes_nw (conf_Bytes t p s)) (conf_Bytes_rows (conf_Bytes t p s))) :=
  calls_post Dg T_conf_Page_ok Try.func52 mix (B := bodyOf Try.f52) (by kernel_rfl) [(.agg #[.int .i64 t, .int .i64 p, .int .i64 s])] [.no] (by kernel_rfl) (objs := []) (ros := []) (psOk_cons pOk_no (psOk_nil)) (by kernel_rfl) (trivial) hS 400
    (t := Tree.fresh fun b => Tree.ret (Value.int IntKind.i64 (IntKind.wrap IntKind.i64 (conf_Page t p s * p))) [Chunk.cells b 44 [(Value.int IntKind.i64 t, Pr.no), (Value.int IntKind.i64 p, Pr.no), (Value.int IntKind.i64 s, Pr.no)]])
    (by kernel_rfl)
    (fun b0_0 => RetOk.at (outf := conf_Bytes_out) (nwf := conf_Bytes_nw) (rowsf := conf_Bytes_rows) (r := IntKind.wrap IntKind.i64 (conf_Page t p s * p)) (by first | exact Eq.symm rfl | (simp only [conf_Bytes, cond_true, cond_false]; done) | (exfalso; simp_all; done) | decide) ⟨[], [], (by decide), rfl, rfl, trivial⟩)
def conf_Bytes_e : Entry Sg := fun
  | [(.agg ⟨[.int .i64 t, .int .i64 p, .int .i64 s]⟩, .none)] => some ⟨[], none, rowsR [], fun ss => .int .i64 ((conf_Bytes t p s)), fun k_ => .no⟩
  | _ => none
theorem conf_Bytes_ok : EntryOk Dg Try.prog 52 conf_Bytes_e := by
  intro args r h
  unfold conf_Bytes_e at h
  split at h
  · injection h with h; subst h
    refine ⟨fun K acs _ => pOk_no, fun hpre E G w hi hS => ?_⟩
    exact entry_post Dg (nw := []) rfl (conf_Bytes_calls _ _ _  hS)
  · cases h
def T_conf_Bytes : List (Nat × Entry Sg) := (52, conf_Bytes_e) :: T_conf_Page
theorem T_conf_Bytes_ok : TableOk Dg Try.prog T_conf_Bytes := TableOk.cons Dg conf_Bytes_ok T_conf_Page_ok

/-- nacreref04.Bytes -/
def r04_Bytes (t : Int) (p : Int) (s : Int) : Int := (bif !r04_Right t p s then (0 : Int) else IntKind.wrap IntKind.i64 (r04_Page t p s * p))
def r04_Bytes_out (r_ : Int) : List Value → Value := fun ss => .int .i64 (r_)
def r04_Bytes_nw (r_ : Int) : List (Chunk Sg) := []
def r04_Bytes_rows (r_ : Int) : List (TypeId × List Col) := []
theorem r04_Bytes_calls {E_ : World} {G_ : Hp} {w_ : World} (t : Int) (p : Int) (s : Int) (hS : Sat E_ G_ w_ []) : Calls Try.prog 54 #[(.agg #[.int .i64 t, .int .i64 p, .int .i64 s])] w_ (Post Dg E_ G_ (r04_Bytes_out (r04_Bytes t p s)) (r04_Bytes_nw (r04_Bytes t p s)) (r04_Bytes_rows (r04_Bytes t p s))) :=
  calls_post Dg T_conf_Bytes_ok Try.func54 mix (B := bodyOf Try.f54) (by kernel_rfl) [(.agg #[.int .i64 t, .int .i64 p, .int .i64 s])] [.no] (by kernel_rfl) (objs := []) (ros := []) (psOk_cons pOk_no (psOk_nil)) (by kernel_rfl) (trivial) hS 400
    (t := Tree.fresh fun b => Tree.br (!r04_Right t p s) (Tree.ret (Value.int IntKind.i64 (0 : Int)) [Chunk.cells b 44 [(Value.int IntKind.i64 t, Pr.no), (Value.int IntKind.i64 p, Pr.no), (Value.int IntKind.i64 s, Pr.no)]]) (Tree.ret (Value.int IntKind.i64 (IntKind.wrap IntKind.i64 (r04_Page t p s * p))) [Chunk.cells b 44 [(Value.int IntKind.i64 t, Pr.no), (Value.int IntKind.i64 p, Pr.no), (Value.int IntKind.i64 s, Pr.no)]]))
    (by kernel_rfl)
    (fun b0_0 => ⟨fun z1 => RetOk.at (outf := r04_Bytes_out) (nwf := r04_Bytes_nw) (rowsf := r04_Bytes_rows) (r := (0 : Int)) (by first | exact Eq.symm ((cT z1).trans rfl) | (simp only [r04_Bytes, z1, cond_true, cond_false]; done) | (exfalso; simp_all; done) | decide) ⟨[], [], (by decide), rfl, rfl, trivial⟩, fun z1 => RetOk.at (outf := r04_Bytes_out) (nwf := r04_Bytes_nw) (rowsf := r04_Bytes_rows) (r := IntKind.wrap IntKind.i64 (r04_Page t p s * p)) (by first | exact Eq.symm ((cF z1).trans rfl) | (simp only [r04_Bytes, z1, cond_true, cond_false]; done) | (exfalso; simp_all; done) | decide) ⟨[], [], (by decide), rfl, rfl, trivial⟩⟩)
def r04_Bytes_e : Entry Sg := fun
  | [(.agg ⟨[.int .i64 t, .int .i64 p, .int .i64 s]⟩, .none)] => some ⟨[], none, rowsR [], fun ss => .int .i64 ((r04_Bytes t p s)), fun k_ => .no⟩
  | _ => none
theorem r04_Bytes_ok : EntryOk Dg Try.prog 54 r04_Bytes_e := by
  intro args r h
  unfold r04_Bytes_e at h
  split at h
  · injection h with h; subst h
    refine ⟨fun K acs _ => pOk_no, fun hpre E G w hi hS => ?_⟩
    exact entry_post Dg (nw := []) rfl (r04_Bytes_calls _ _ _  hS)
  · cases h
def T_r04_Bytes : List (Nat × Entry Sg) := (54, r04_Bytes_e) :: T_conf_Bytes
theorem T_r04_Bytes_ok : TableOk Dg Try.prog T_r04_Bytes := TableOk.cons Dg r04_Bytes_ok T_conf_Bytes_ok

/-- (addr.spot).there -/
def spot_there (pg : Int) (off : Int) (t : Int) (p : Int) (s : Int) : Bool := conf_Check t p s == (0 : Int) && decide (pg ≥ (0 : Int)) && decide (pg < p) && decide (off ≥ (0 : Int)) && decide (off < conf_Page t p s)
def spot_there_out (r_ : Bool) : List Value → Value := fun ss => .bool (r_)
def spot_there_nw (r_ : Bool) : List (Chunk Sg) := []
def spot_there_rows (r_ : Bool) : List (TypeId × List Col) := []
theorem spot_there_calls {E_ : World} {G_ : Hp} {w_ : World} (pg : Int) (off : Int) (t : Int) (p : Int) (s : Int) (hS : Sat E_ G_ w_ []) : Calls Try.prog 49 #[(.agg #[.int .i64 pg, .int .i64 off]), (.agg #[.int .i64 t, .int .i64 p, .int .i64 s])] w_ (Post Dg E_ G_ (spot_there_out (spot_there pg off t p s)) (spot_there_nw (spot_there pg off t p s)) (spot_there_rows (spot_there pg off t p s))) :=
  calls_post Dg T_r04_Bytes_ok Try.func49 mix (B := bodyOf Try.f49) (by kernel_rfl) [(.agg #[.int .i64 pg, .int .i64 off]), (.agg #[.int .i64 t, .int .i64 p, .int .i64 s])] [.no, .no] (by kernel_rfl) (objs := []) (ros := []) (psOk_cons pOk_no (psOk_cons pOk_no (psOk_nil))) (by kernel_rfl) (trivial) hS 400
    (t := Tree.fresh fun b => Tree.fresh fun b_1 => Tree.ret (Value.bool (conf_Check t p s == (0 : Int) && decide (pg ≥ (0 : Int)) && decide (pg < p) && decide (off ≥ (0 : Int)) && decide (off < conf_Page t p s))) [Chunk.cells b 68 [(Value.int IntKind.i64 pg, Pr.no), (Value.int IntKind.i64 off, Pr.no)], Chunk.cells b_1 44 [(Value.int IntKind.i64 t, Pr.no), (Value.int IntKind.i64 p, Pr.no), (Value.int IntKind.i64 s, Pr.no)]])
    (by kernel_rfl)
    (fun b0_0 => fun b1_0 => RetOk.at (outf := spot_there_out) (nwf := spot_there_nw) (rowsf := spot_there_rows) (r := conf_Check t p s == (0 : Int) && decide (pg ≥ (0 : Int)) && decide (pg < p) && decide (off ≥ (0 : Int)) && decide (off < conf_Page t p s)) (by first | exact Eq.symm rfl | (simp only [spot_there, cond_true, cond_false]; done) | (exfalso; simp_all; done) | decide) ⟨[], [], (by decide), rfl, rfl, trivial⟩)
def spot_there_e : Entry Sg := fun
  | [(.agg ⟨[.int .i64 pg, .int .i64 off]⟩, .none), (.agg ⟨[.int .i64 t, .int .i64 p, .int .i64 s]⟩, .none)] => some ⟨[], none, rowsR [], fun ss => .bool ((spot_there pg off t p s)), fun k_ => .no⟩
  | _ => none
theorem spot_there_ok : EntryOk Dg Try.prog 49 spot_there_e := by
  intro args r h
  unfold spot_there_e at h
  split at h
  · injection h with h; subst h
    refine ⟨fun K acs _ => pOk_no, fun hpre E G w hi hS => ?_⟩
    exact entry_post Dg (nw := []) rfl (spot_there_calls _ _ _ _ _  hS)
  · cases h
def T_spot_there : List (Nat × Entry Sg) := (49, spot_there_e) :: T_r04_Bytes
theorem T_spot_there_ok : TableOk Dg Try.prog T_spot_there := TableOk.cons Dg spot_there_ok T_r04_Bytes_ok

theorem there_right {pg off t p s : Int} (h : spot_there pg off t p s = true) : r04_Right t p s = true := by
  simp only [spot_there, Bool.and_eq_true] at h
  have := h.1.1.1.1
  rw [conf_Check_eq] at this
  cases hr : r04_Right t p s with
  | true => rfl
  | false => rw [hr] at this; simp at this
theorem need_Of {pg off t p s : Int} (h : (!spot_there pg off t p s) = false) : 0 ≤ s := by
  have := right_iff.1 (there_right (by simpa using h)); omega
theorem need_aPage {t p s : Int} {b c : Bool} (h : (conf_Page t p s == 0 || b || c) = false) : 0 ≤ s := by
  simp only [Bool.or_eq_false_iff, beq_eq_false_iff_ne, ne_eq, conf_Page_eq] at h
  exact s_of_page h.1.1
theorem need_Pages {t p s z : Int} (h : (decide (z < 1) || decide (z > conf_Bytes t p s)) = false) : 0 ≤ s := by
  simp only [Bool.or_eq_false_iff, decide_eq_false_iff_not] at h
  apply s_of_page (t := t) (p := p)
  intro h0
  have : conf_Bytes t p s = 0 := by simp only [conf_Bytes, conf_Page_eq, h0, Int.zero_mul]; rfl
  omega
theorem need_Slot {s k : Int} {b : Bool} (h : (class_Size s k == 0 || b) = false) : class_Size s k ≠ 0 := by
  simp only [Bool.or_eq_false_iff, beq_eq_false_iff_ne, ne_eq] at h; exact h.1
theorem r05_slots_le (k : Int) : 0 ≤ r05_Slots k ∧ r05_Slots k ≤ 32 := by
  rw [← slots_same]
  by_cases h : k < 0 ∨ 9 ≤ k
  · have : (decide (k < 0) || decide (k ≥ 9)) = true := by simpa using h
    simp [class_Slots, this]
  · rcases (by omega : k = 0 ∨ k = 1 ∨ k = 2 ∨ k = 3 ∨ k = 4 ∨ k = 5 ∨ k = 6 ∨ k = 7 ∨ k = 8) with rfl | rfl | rfl | rfl | rfl | rfl | rfl | rfl | rfl <;> decide
theorem need_l06 {k : Int} (h : (decide (k < 0) || decide (k ≥ ((9 : Nat) : Int))) = false) : 0 ≤ k ∧ k < ((9 : Nat) : Int) := by
  simp only [Bool.or_eq_false_iff, decide_eq_false_iff_not] at h; omega


/-- addr.Of -/
def addr_Of (t : Int) (p : Int) (s : Int) (pg : Int) (off : Int) : Int × Bool := (bif !spot_there pg off t p s then ((0 : Int), false) else (IntKind.wrap IntKind.i64 (↑(BitVec.toNat (BitVec.ofInt 64 (IntKind.wrap IntKind.i64 (IntKind.wrap IntKind.i64 (pg + (1 : Int)) * (2 : Int) ^ min (Int.toNat s) 64)) ||| BitVec.ofInt 64 off)) : Int), true))
def addr_Of_out (r_ : Int × Bool) : List Value → Value := fun ss => .tuple #[.int .i64 (r_.1), .bool (r_.2)]
def addr_Of_nw (r_ : Int × Bool) : List (Chunk Sg) := []
def addr_Of_rows (r_ : Int × Bool) : List (TypeId × List Col) := []
theorem addr_Of_calls {E_ : World} {G_ : Hp} {w_ : World} (t : Int) (p : Int) (s : Int) (pg : Int) (off : Int) (hS : Sat E_ G_ w_ []) : Calls Try.prog 28 #[(.agg #[.int .i64 t, .int .i64 p, .int .i64 s]), (.int .i64 pg), (.int .i64 off)] w_ (Post Dg E_ G_ (addr_Of_out (addr_Of t p s pg off)) (addr_Of_nw (addr_Of t p s pg off)) (addr_Of_rows (addr_Of t p s pg off))) :=
  calls_post Dg T_spot_there_ok Try.func28 mix (B := bodyOf Try.f28) (by kernel_rfl) [(.agg #[.int .i64 t, .int .i64 p, .int .i64 s]), (.int .i64 pg), (.int .i64 off)] [.no, .no, .no] (by kernel_rfl) (objs := []) (ros := []) (psOk_cons pOk_no (psOk_cons pOk_no (psOk_cons pOk_no (psOk_nil)))) (by kernel_rfl) (trivial) hS 400
    (t := Tree.fresh fun b => Tree.br (!spot_there pg off t p s) (Tree.ret (Value.tuple { toList := [Value.int IntKind.i64 (0 : Int), Value.bool false] }) [Chunk.cells b 44 [(Value.int IntKind.i64 t, Pr.no), (Value.int IntKind.i64 p, Pr.no), (Value.int IntKind.i64 s, Pr.no)]]) (Tree.need ((0 : Int) ≤ s) (Tree.ret (Value.tuple { toList := [Value.int IntKind.i64 (IntKind.wrap IntKind.i64 (↑(BitVec.toNat (BitVec.ofInt 64 (IntKind.wrap IntKind.i64 (IntKind.wrap IntKind.i64 (pg + (1 : Int)) * (2 : Int) ^ min (Int.toNat s) 64)) ||| BitVec.ofInt 64 off)) : Int)), Value.bool true] }) [Chunk.cells b 44 [(Value.int IntKind.i64 t, Pr.no), (Value.int IntKind.i64 p, Pr.no), (Value.int IntKind.i64 s, Pr.no)]])))
    (by kernel_rfl)
    (fun b0_0 => ⟨fun z1 => RetOk.at (outf := addr_Of_out) (nwf := addr_Of_nw) (rowsf := addr_Of_rows) (r := ((0 : Int), false)) (by first | exact Eq.symm ((cT z1).trans rfl) | (simp only [addr_Of, z1, cond_true, cond_false]; done) | (exfalso; simp_all; done) | decide) ⟨[], [], (by decide), rfl, rfl, trivial⟩, fun z1 => ⟨by exact need_Of (by assumption), fun y2 => RetOk.at (outf := addr_Of_out) (nwf := addr_Of_nw) (rowsf := addr_Of_rows) (r := (IntKind.wrap IntKind.i64 (↑(BitVec.toNat (BitVec.ofInt 64 (IntKind.wrap IntKind.i64 (IntKind.wrap IntKind.i64 (pg + (1 : Int)) * (2 : Int) ^ min (Int.toNat s) 64)) ||| BitVec.ofInt 64 off)) : Int), true)) (by first | exact Eq.symm ((cF z1).trans rfl) | (simp only [addr_Of, z1, cond_true, cond_false]; done) | (exfalso; simp_all; done) | decide) ⟨[], [], (by decide), rfl, rfl, trivial⟩⟩⟩)
def addr_Of_e : Entry Sg := fun
  | [(.agg ⟨[.int .i64 t, .int .i64 p, .int .i64 s]⟩, .none), (.int .i64 pg, _), (.int .i64 off, _)] => some ⟨[], none, rowsR [], fun ss => .tuple #[.int .i64 ((addr_Of t p s pg off).1), .bool ((addr_Of t p s pg off).2)], fun k_ => .no⟩
  | _ => none
theorem addr_Of_ok : EntryOk Dg Try.prog 28 addr_Of_e := by
  intro args r h
  unfold addr_Of_e at h
  split at h
  · injection h with h; subst h
    refine ⟨fun K acs _ => pOk_no, fun hpre E G w hi hS => ?_⟩
    exact entry_post Dg (nw := []) rfl (addr_Of_calls _ _ _ _ _  hS)
  · cases h
def T_addr_Of : List (Nat × Entry Sg) := (28, addr_Of_e) :: T_spot_there
theorem T_addr_Of_ok : TableOk Dg Try.prog T_addr_Of := TableOk.cons Dg addr_Of_ok T_spot_there_ok

/-- nacreref06.Of -/
def r06_Of (t : Int) (p : Int) (s : Int) (pg : Int) (off : Int) : Int × Bool := (bif !r04_Right t p s || decide (pg < (0 : Int)) || decide (pg ≥ p) || decide (off < (0 : Int)) || decide (off ≥ r04_Page t p s) then ((0 : Int), false) else (IntKind.wrap IntKind.i64 (IntKind.wrap IntKind.i64 (IntKind.wrap IntKind.i64 (pg + (1 : Int)) * r04_Page t p s) + off), true))
def r06_Of_out (r_ : Int × Bool) : List Value → Value := fun ss => .tuple #[.int .i64 (r_.1), .bool (r_.2)]
def r06_Of_nw (r_ : Int × Bool) : List (Chunk Sg) := []
def r06_Of_rows (r_ : Int × Bool) : List (TypeId × List Col) := []
theorem r06_Of_calls {E_ : World} {G_ : Hp} {w_ : World} (t : Int) (p : Int) (s : Int) (pg : Int) (off : Int) (hS : Sat E_ G_ w_ []) : Calls Try.prog 29 #[(.agg #[.int .i64 t, .int .i64 p, .int .i64 s]), (.int .i64 pg), (.int .i64 off)] w_ (Post Dg E_ G_ (r06_Of_out (r06_Of t p s pg off)) (r06_Of_nw (r06_Of t p s pg off)) (r06_Of_rows (r06_Of t p s pg off))) :=
  calls_post Dg T_addr_Of_ok Try.func29 mix (B := bodyOf Try.f29) (by kernel_rfl) [(.agg #[.int .i64 t, .int .i64 p, .int .i64 s]), (.int .i64 pg), (.int .i64 off)] [.no, .no, .no] (by kernel_rfl) (objs := []) (ros := []) (psOk_cons pOk_no (psOk_cons pOk_no (psOk_cons pOk_no (psOk_nil)))) (by kernel_rfl) (trivial) hS 400
    (t := Tree.fresh fun b => Tree.br (!r04_Right t p s || decide (pg < (0 : Int)) || decide (pg ≥ p) || decide (off < (0 : Int)) || decide (off ≥ r04_Page t p s)) (Tree.ret (Value.tuple { toList := [Value.int IntKind.i64 (0 : Int), Value.bool false] }) [Chunk.cells b 44 [(Value.int IntKind.i64 t, Pr.no), (Value.int IntKind.i64 p, Pr.no), (Value.int IntKind.i64 s, Pr.no)]]) (Tree.ret (Value.tuple { toList := [Value.int IntKind.i64 (IntKind.wrap IntKind.i64 (IntKind.wrap IntKind.i64 (IntKind.wrap IntKind.i64 (pg + (1 : Int)) * r04_Page t p s) + off)), Value.bool true] }) [Chunk.cells b 44 [(Value.int IntKind.i64 t, Pr.no), (Value.int IntKind.i64 p, Pr.no), (Value.int IntKind.i64 s, Pr.no)]]))
    (by kernel_rfl)
    (fun b0_0 => ⟨fun z1 => RetOk.at (outf := r06_Of_out) (nwf := r06_Of_nw) (rowsf := r06_Of_rows) (r := ((0 : Int), false)) (by first | exact Eq.symm ((cT z1).trans rfl) | (simp only [r06_Of, z1, cond_true, cond_false]; done) | (exfalso; simp_all; done) | decide) ⟨[], [], (by decide), rfl, rfl, trivial⟩, fun z1 => RetOk.at (outf := r06_Of_out) (nwf := r06_Of_nw) (rowsf := r06_Of_rows) (r := (IntKind.wrap IntKind.i64 (IntKind.wrap IntKind.i64 (IntKind.wrap IntKind.i64 (pg + (1 : Int)) * r04_Page t p s) + off), true)) (by first | exact Eq.symm ((cF z1).trans rfl) | (simp only [r06_Of, z1, cond_true, cond_false]; done) | (exfalso; simp_all; done) | decide) ⟨[], [], (by decide), rfl, rfl, trivial⟩⟩)
def r06_Of_e : Entry Sg := fun
  | [(.agg ⟨[.int .i64 t, .int .i64 p, .int .i64 s]⟩, .none), (.int .i64 pg, _), (.int .i64 off, _)] => some ⟨[], none, rowsR [], fun ss => .tuple #[.int .i64 ((r06_Of t p s pg off).1), .bool ((r06_Of t p s pg off).2)], fun k_ => .no⟩
  | _ => none
theorem r06_Of_ok : EntryOk Dg Try.prog 29 r06_Of_e := by
  intro args r h
  unfold r06_Of_e at h
  split at h
  · injection h with h; subst h
    refine ⟨fun K acs _ => pOk_no, fun hpre E G w hi hS => ?_⟩
    exact entry_post Dg (nw := []) rfl (r06_Of_calls _ _ _ _ _  hS)
  · cases h
def T_r06_Of : List (Nat × Entry Sg) := (29, r06_Of_e) :: T_addr_Of
theorem T_r06_Of_ok : TableOk Dg Try.prog T_r06_Of := TableOk.cons Dg r06_Of_ok T_addr_Of_ok

/-- addr.Page -/
def addr_Page (t : Int) (p : Int) (s : Int) (a : Int) : Int × Int × Bool := (bif conf_Page t p s == (0 : Int) || decide (a < conf_Page t p s) || decide (a > IntKind.wrap IntKind.i64 (IntKind.wrap IntKind.i64 (conf_Bytes t p s + conf_Page t p s) - (1 : Int))) then ((0 : Int), (0 : Int), false) else (IntKind.wrap IntKind.i64 (Int.fdiv a ((2 : Int) ^ min (Int.toNat s) 64) - (1 : Int)), IntKind.wrap IntKind.i64 (↑(BitVec.toNat (BitVec.ofInt 64 a &&& BitVec.ofInt 64 (IntKind.wrap IntKind.i64 (conf_Page t p s - (1 : Int))))) : Int), true))
def addr_Page_out (r_ : Int × Int × Bool) : List Value → Value := fun ss => .tuple #[.int .i64 (r_.1), .int .i64 (r_.2.1), .bool (r_.2.2)]
def addr_Page_nw (r_ : Int × Int × Bool) : List (Chunk Sg) := []
def addr_Page_rows (r_ : Int × Int × Bool) : List (TypeId × List Col) := []
theorem addr_Page_calls {E_ : World} {G_ : Hp} {w_ : World} (t : Int) (p : Int) (s : Int) (a : Int) (hS : Sat E_ G_ w_ []) : Calls Try.prog 30 #[(.agg #[.int .i64 t, .int .i64 p, .int .i64 s]), (.int .i64 a)] w_ (Post Dg E_ G_ (addr_Page_out (addr_Page t p s a)) (addr_Page_nw (addr_Page t p s a)) (addr_Page_rows (addr_Page t p s a))) :=
  calls_post Dg T_r06_Of_ok Try.func30 mix (B := bodyOf Try.f30) (by kernel_rfl) [(.agg #[.int .i64 t, .int .i64 p, .int .i64 s]), (.int .i64 a)] [.no, .no] (by kernel_rfl) (objs := []) (ros := []) (psOk_cons pOk_no (psOk_cons pOk_no (psOk_nil))) (by kernel_rfl) (trivial) hS 400
    (t := Tree.fresh fun b => Tree.br (conf_Page t p s == (0 : Int) || decide (a < conf_Page t p s) || decide (a > IntKind.wrap IntKind.i64 (IntKind.wrap IntKind.i64 (conf_Bytes t p s + conf_Page t p s) - (1 : Int)))) (Tree.ret (Value.tuple { toList := [Value.int IntKind.i64 (0 : Int), Value.int IntKind.i64 (0 : Int), Value.bool false] }) [Chunk.cells b 44 [(Value.int IntKind.i64 t, Pr.no), (Value.int IntKind.i64 p, Pr.no), (Value.int IntKind.i64 s, Pr.no)]]) (Tree.need ((0 : Int) ≤ s) (Tree.ret (Value.tuple { toList := [Value.int IntKind.i64 (IntKind.wrap IntKind.i64 (Int.fdiv a ((2 : Int) ^ min (Int.toNat s) 64) - (1 : Int))), Value.int IntKind.i64 (IntKind.wrap IntKind.i64 (↑(BitVec.toNat (BitVec.ofInt 64 a &&& BitVec.ofInt 64 (IntKind.wrap IntKind.i64 (conf_Page t p s - (1 : Int))))) : Int)), Value.bool true] }) [Chunk.cells b 44 [(Value.int IntKind.i64 t, Pr.no), (Value.int IntKind.i64 p, Pr.no), (Value.int IntKind.i64 s, Pr.no)]])))
    (by kernel_rfl)
    (fun b0_0 => ⟨fun z1 => RetOk.at (outf := addr_Page_out) (nwf := addr_Page_nw) (rowsf := addr_Page_rows) (r := ((0 : Int), (0 : Int), false)) (by first | exact Eq.symm ((cT z1).trans rfl) | (simp only [addr_Page, z1, cond_true, cond_false]; done) | (exfalso; simp_all; done) | decide) ⟨[], [], (by decide), rfl, rfl, trivial⟩, fun z1 => ⟨by exact need_aPage (by assumption), fun y2 => RetOk.at (outf := addr_Page_out) (nwf := addr_Page_nw) (rowsf := addr_Page_rows) (r := (IntKind.wrap IntKind.i64 (Int.fdiv a ((2 : Int) ^ min (Int.toNat s) 64) - (1 : Int)), IntKind.wrap IntKind.i64 (↑(BitVec.toNat (BitVec.ofInt 64 a &&& BitVec.ofInt 64 (IntKind.wrap IntKind.i64 (conf_Page t p s - (1 : Int))))) : Int), true)) (by first | exact Eq.symm ((cF z1).trans rfl) | (simp only [addr_Page, z1, cond_true, cond_false]; done) | (exfalso; simp_all; done) | decide) ⟨[], [], (by decide), rfl, rfl, trivial⟩⟩⟩)
def addr_Page_e : Entry Sg := fun
  | [(.agg ⟨[.int .i64 t, .int .i64 p, .int .i64 s]⟩, .none), (.int .i64 a, _)] => some ⟨[], none, rowsR [], fun ss => .tuple #[.int .i64 ((addr_Page t p s a).1), .int .i64 ((addr_Page t p s a).2.1), .bool ((addr_Page t p s a).2.2)], fun k_ => .no⟩
  | _ => none
theorem addr_Page_ok : EntryOk Dg Try.prog 30 addr_Page_e := by
  intro args r h
  unfold addr_Page_e at h
  split at h
  · injection h with h; subst h
    refine ⟨fun K acs _ => pOk_no, fun hpre E G w hi hS => ?_⟩
    exact entry_post Dg (nw := []) rfl (addr_Page_calls _ _ _ _  hS)
  · cases h
def T_addr_Page : List (Nat × Entry Sg) := (30, addr_Page_e) :: T_r06_Of
theorem T_addr_Page_ok : TableOk Dg Try.prog T_addr_Page := TableOk.cons Dg addr_Page_ok T_r06_Of_ok

/-- nacreref06.Page -/
def r06_Page (t : Int) (p : Int) (s : Int) (a : Int) : Int × Int × Bool := (bif !r04_Right t p s || decide (a < (0 : Int)) || decide (IntKind.wrap IntKind.i64 (Int.tdiv a (r04_Page t p s)) < (1 : Int)) || decide (IntKind.wrap IntKind.i64 (Int.tdiv a (r04_Page t p s)) > p) then ((0 : Int), (0 : Int), false) else (IntKind.wrap IntKind.i64 (IntKind.wrap IntKind.i64 (Int.tdiv a (r04_Page t p s)) - (1 : Int)), Int.tmod a (r04_Page t p s), true))
def r06_Page_out (r_ : Int × Int × Bool) : List Value → Value := fun ss => .tuple #[.int .i64 (r_.1), .int .i64 (r_.2.1), .bool (r_.2.2)]
def r06_Page_nw (r_ : Int × Int × Bool) : List (Chunk Sg) := []
def r06_Page_rows (r_ : Int × Int × Bool) : List (TypeId × List Col) := []
theorem r06_Page_calls {E_ : World} {G_ : Hp} {w_ : World} (t : Int) (p : Int) (s : Int) (a : Int) (hS : Sat E_ G_ w_ []) : Calls Try.prog 31 #[(.agg #[.int .i64 t, .int .i64 p, .int .i64 s]), (.int .i64 a)] w_ (Post Dg E_ G_ (r06_Page_out (r06_Page t p s a)) (r06_Page_nw (r06_Page t p s a)) (r06_Page_rows (r06_Page t p s a))) :=
  calls_post Dg T_addr_Page_ok Try.func31 mix (B := bodyOf Try.f31) (by kernel_rfl) [(.agg #[.int .i64 t, .int .i64 p, .int .i64 s]), (.int .i64 a)] [.no, .no] (by kernel_rfl) (objs := []) (ros := []) (psOk_cons pOk_no (psOk_cons pOk_no (psOk_nil))) (by kernel_rfl) (trivial) hS 400
    (t := Tree.fresh fun b => Tree.need ((!r04_Right t p s || decide (a < (0 : Int))) = false → r04_Page t p s ≠ (0 : Int)) (Tree.need ((!r04_Right t p s || decide (a < (0 : Int)) || decide (IntKind.wrap IntKind.i64 (Int.tdiv a (r04_Page t p s)) < (1 : Int))) = false → r04_Page t p s ≠ (0 : Int)) (Tree.br (!r04_Right t p s || decide (a < (0 : Int)) || decide (IntKind.wrap IntKind.i64 (Int.tdiv a (r04_Page t p s)) < (1 : Int)) || decide (IntKind.wrap IntKind.i64 (Int.tdiv a (r04_Page t p s)) > p)) (Tree.ret (Value.tuple { toList := [Value.int IntKind.i64 (0 : Int), Value.int IntKind.i64 (0 : Int), Value.bool false] }) [Chunk.cells b 44 [(Value.int IntKind.i64 t, Pr.no), (Value.int IntKind.i64 p, Pr.no), (Value.int IntKind.i64 s, Pr.no)]]) (Tree.need (r04_Page t p s ≠ (0 : Int)) (Tree.need (r04_Page t p s ≠ (0 : Int)) (Tree.ret (Value.tuple { toList := [Value.int IntKind.i64 (IntKind.wrap IntKind.i64 (IntKind.wrap IntKind.i64 (Int.tdiv a (r04_Page t p s)) - (1 : Int))), Value.int IntKind.i64 (Int.tmod a (r04_Page t p s)), Value.bool true] }) [Chunk.cells b 44 [(Value.int IntKind.i64 t, Pr.no), (Value.int IntKind.i64 p, Pr.no), (Value.int IntKind.i64 s, Pr.no)]]))))))
    (by kernel_rfl)
    (fun b0_0 => ⟨by first | exact r06_ne | exact r06_ne2 | exact r06_ne3 | exact r06_ne2 (by assumption) | exact r06_ne3 (by assumption), fun y1 => ⟨by first | exact r06_ne | exact r06_ne2 | exact r06_ne3 | exact r06_ne2 (by assumption) | exact r06_ne3 (by assumption), fun y2 => ⟨fun z3 => RetOk.at (outf := r06_Page_out) (nwf := r06_Page_nw) (rowsf := r06_Page_rows) (r := ((0 : Int), (0 : Int), false)) (by first | exact Eq.symm ((cT z3).trans rfl) | (simp only [r06_Page, z3, cond_true, cond_false]; done) | (exfalso; simp_all; done) | decide) ⟨[], [], (by decide), rfl, rfl, trivial⟩, fun z3 => ⟨by first | exact r06_ne | exact r06_ne2 | exact r06_ne3 | exact r06_ne2 (by assumption) | exact r06_ne3 (by assumption), fun y4 => ⟨by first | exact r06_ne | exact r06_ne2 | exact r06_ne3 | exact r06_ne2 (by assumption) | exact r06_ne3 (by assumption), fun y5 => RetOk.at (outf := r06_Page_out) (nwf := r06_Page_nw) (rowsf := r06_Page_rows) (r := (IntKind.wrap IntKind.i64 (IntKind.wrap IntKind.i64 (Int.tdiv a (r04_Page t p s)) - (1 : Int)), Int.tmod a (r04_Page t p s), true)) (by first | exact Eq.symm ((cF z3).trans rfl) | (simp only [r06_Page, z3, cond_true, cond_false]; done) | (exfalso; simp_all; done) | decide) ⟨[], [], (by decide), rfl, rfl, trivial⟩⟩⟩⟩⟩⟩)
def r06_Page_e : Entry Sg := fun
  | [(.agg ⟨[.int .i64 t, .int .i64 p, .int .i64 s]⟩, .none), (.int .i64 a, _)] => some ⟨[], none, rowsR [], fun ss => .tuple #[.int .i64 ((r06_Page t p s a).1), .int .i64 ((r06_Page t p s a).2.1), .bool ((r06_Page t p s a).2.2)], fun k_ => .no⟩
  | _ => none
theorem r06_Page_ok : EntryOk Dg Try.prog 31 r06_Page_e := by
  intro args r h
  unfold r06_Page_e at h
  split at h
  · injection h with h; subst h
    refine ⟨fun K acs _ => pOk_no, fun hpre E G w hi hS => ?_⟩
    exact entry_post Dg (nw := []) rfl (r06_Page_calls _ _ _ _  hS)
  · cases h
def T_r06_Page : List (Nat × Entry Sg) := (31, r06_Page_e) :: T_addr_Page
theorem T_r06_Page_ok : TableOk Dg Try.prog T_r06_Page := TableOk.cons Dg r06_Page_ok T_addr_Page_ok

/-- addr.first -/
def addr_first (t : Int) (p : Int) (s : Int) (k : Int) (n : Int) : Int × Int × Bool := (bif decide (n < (0 : Int)) || decide (n ≥ class_Slots k) then ((0 : Int), (0 : Int), false) else ((0 : Int), IntKind.wrap IntKind.i64 (n * class_Size s k), true))
def addr_first_out (r_ : Int × Int × Bool) : List Value → Value := fun ss => .tuple #[.agg #[.int .i64 (r_.1), .int .i64 (r_.2.1)], .bool (r_.2.2)]
def addr_first_nw (r_ : Int × Int × Bool) : List (Chunk Sg) := []
def addr_first_rows (r_ : Int × Int × Bool) : List (TypeId × List Col) := []
theorem addr_first_calls {E_ : World} {G_ : Hp} {w_ : World} (t : Int) (p : Int) (s : Int) (k : Int) (n : Int) (hS : Sat E_ G_ w_ []) : Calls Try.prog 53 #[(.agg #[.int .i64 t, .int .i64 p, .int .i64 s]), (.int .i64 k), (.int .i64 n)] w_ (Post Dg E_ G_ (addr_first_out (addr_first t p s k n)) (addr_first_nw (addr_first t p s k n)) (addr_first_rows (addr_first t p s k n))) :=
  calls_post Dg T_r06_Page_ok Try.func53 mix (B := bodyOf Try.f53) (by kernel_rfl) [(.agg #[.int .i64 t, .int .i64 p, .int .i64 s]), (.int .i64 k), (.int .i64 n)] [.no, .no, .no] (by kernel_rfl) (objs := []) (ros := []) (psOk_cons pOk_no (psOk_cons pOk_no (psOk_cons pOk_no (psOk_nil)))) (by kernel_rfl) (trivial) hS 400
    (t := Tree.fresh fun b => Tree.fresh fun b_1 => Tree.br (decide (n < (0 : Int)) || decide (n ≥ class_Slots k)) (Tree.ret (Value.tuple { toList := [Value.agg { toList := [Value.int IntKind.i64 (0 : Int), Value.int IntKind.i64 (0 : Int)] }, Value.bool false] }) [Chunk.cells b 44 [(Value.int IntKind.i64 t, Pr.no), (Value.int IntKind.i64 p, Pr.no), (Value.int IntKind.i64 s, Pr.no)], Chunk.cells b_1 68 [(Value.int IntKind.i64 (0 : Int), Pr.no), (Value.int IntKind.i64 (0 : Int), Pr.no)]]) (Tree.ret (Value.tuple { toList := [Value.agg { toList := [Value.int IntKind.i64 (0 : Int), Value.int IntKind.i64 (IntKind.wrap IntKind.i64 (n * class_Size s k))] }, Value.bool true] }) [Chunk.cells b 44 [(Value.int IntKind.i64 t, Pr.no), (Value.int IntKind.i64 p, Pr.no), (Value.int IntKind.i64 s, Pr.no)], Chunk.cells b_1 68 [(Value.int IntKind.i64 (0 : Int), Pr.no), (Value.int IntKind.i64 (IntKind.wrap IntKind.i64 (n * class_Size s k)), Pr.no)]]))
    (by kernel_rfl)
    (fun b0_0 => fun b1_0 => ⟨fun z2 => RetOk.at (outf := addr_first_out) (nwf := addr_first_nw) (rowsf := addr_first_rows) (r := ((0 : Int), (0 : Int), false)) (by first | exact Eq.symm ((cT z2).trans rfl) | (simp only [addr_first, z2, cond_true, cond_false]; done) | (exfalso; simp_all; done) | decide) ⟨[], [], (by decide), rfl, rfl, trivial⟩, fun z2 => RetOk.at (outf := addr_first_out) (nwf := addr_first_nw) (rowsf := addr_first_rows) (r := ((0 : Int), IntKind.wrap IntKind.i64 (n * class_Size s k), true)) (by first | exact Eq.symm ((cF z2).trans rfl) | (simp only [addr_first, z2, cond_true, cond_false]; done) | (exfalso; simp_all; done) | decide) ⟨[], [], (by decide), rfl, rfl, trivial⟩⟩)
def addr_first_e : Entry Sg := fun
  | [(.agg ⟨[.int .i64 t, .int .i64 p, .int .i64 s]⟩, .none), (.int .i64 k, _), (.int .i64 n, _)] => some ⟨[], none, rowsR [], fun ss => .tuple #[.agg #[.int .i64 ((addr_first t p s k n).1), .int .i64 ((addr_first t p s k n).2.1)], .bool ((addr_first t p s k n).2.2)], fun k_ => .no⟩
  | _ => none
theorem addr_first_ok : EntryOk Dg Try.prog 53 addr_first_e := by
  intro args r h
  unfold addr_first_e at h
  split at h
  · injection h with h; subst h
    refine ⟨fun K acs _ => pOk_no, fun hpre E G w hi hS => ?_⟩
    exact entry_post Dg (nw := []) rfl (addr_first_calls _ _ _ _ _  hS)
  · cases h
def T_addr_first : List (Nat × Entry Sg) := (53, addr_first_e) :: T_r06_Page
theorem T_addr_first_ok : TableOk Dg Try.prog T_addr_first := TableOk.cons Dg addr_first_ok T_r06_Page_ok

/-- addr.At -/
def addr_At (t : Int) (p : Int) (s : Int) (k : Int) (pg : Int) (n : Int) : Int × Bool := (bif !Prod.snd (Prod.snd (addr_first t p s k n)) then ((0 : Int), false) else (Prod.fst (addr_Of t p s pg (Prod.fst (Prod.snd (addr_first t p s k n)))), Prod.snd (addr_Of t p s pg (Prod.fst (Prod.snd (addr_first t p s k n))))))
def addr_At_out (r_ : Int × Bool) : List Value → Value := fun ss => .tuple #[.int .i64 (r_.1), .bool (r_.2)]
def addr_At_nw (r_ : Int × Bool) : List (Chunk Sg) := []
def addr_At_rows (r_ : Int × Bool) : List (TypeId × List Col) := []
theorem addr_At_calls {E_ : World} {G_ : Hp} {w_ : World} (t : Int) (p : Int) (s : Int) (k : Int) (pg : Int) (n : Int) (hS : Sat E_ G_ w_ []) : Calls Try.prog 33 #[(.agg #[.int .i64 t, .int .i64 p, .int .i64 s]), (.int .i64 k), (.int .i64 pg), (.int .i64 n)] w_ (Post Dg E_ G_ (addr_At_out (addr_At t p s k pg n)) (addr_At_nw (addr_At t p s k pg n)) (addr_At_rows (addr_At t p s k pg n))) :=
  calls_post Dg T_addr_first_ok Try.func33 mix (B := bodyOf Try.f33) (by kernel_rfl) [(.agg #[.int .i64 t, .int .i64 p, .int .i64 s]), (.int .i64 k), (.int .i64 pg), (.int .i64 n)] [.no, .no, .no, .no] (by kernel_rfl) (objs := []) (ros := []) (psOk_cons pOk_no (psOk_cons pOk_no (psOk_cons pOk_no (psOk_cons pOk_no (psOk_nil))))) (by kernel_rfl) (trivial) hS 400
    (t := Tree.fresh fun b => Tree.fresh fun b_1 => Tree.br (!Prod.snd (Prod.snd (addr_first t p s k n))) (Tree.ret (Value.tuple { toList := [Value.int IntKind.i64 (0 : Int), Value.bool false] }) [Chunk.cells b 44 [(Value.int IntKind.i64 t, Pr.no), (Value.int IntKind.i64 p, Pr.no), (Value.int IntKind.i64 s, Pr.no)], Chunk.cells b_1 68 [(Value.int IntKind.i64 (Prod.fst (addr_first t p s k n)), Pr.no), (Value.int IntKind.i64 (Prod.fst (Prod.snd (addr_first t p s k n))), Pr.no)]]) (Tree.ret (Value.tuple { toList := [Value.int IntKind.i64 (Prod.fst (addr_Of t p s pg (Prod.fst (Prod.snd (addr_first t p s k n))))), Value.bool (Prod.snd (addr_Of t p s pg (Prod.fst (Prod.snd (addr_first t p s k n)))))] }) [Chunk.cells b 44 [(Value.int IntKind.i64 t, Pr.no), (Value.int IntKind.i64 p, Pr.no), (Value.int IntKind.i64 s, Pr.no)], Chunk.cells b_1 68 [(Value.int IntKind.i64 (Prod.fst (addr_first t p s k n)), Pr.no), (Value.int IntKind.i64 (Prod.fst (Prod.snd (addr_first t p s k n))), Pr.no)]]))
    (by kernel_rfl)
    (fun b0_0 => fun b1_0 => ⟨fun z2 => RetOk.at (outf := addr_At_out) (nwf := addr_At_nw) (rowsf := addr_At_rows) (r := ((0 : Int), false)) (by first | exact Eq.symm ((cT z2).trans rfl) | (simp only [addr_At, z2, cond_true, cond_false]; done) | (exfalso; simp_all; done) | decide) ⟨[], [], (by decide), rfl, rfl, trivial⟩, fun z2 => RetOk.at (outf := addr_At_out) (nwf := addr_At_nw) (rowsf := addr_At_rows) (r := (Prod.fst (addr_Of t p s pg (Prod.fst (Prod.snd (addr_first t p s k n)))), Prod.snd (addr_Of t p s pg (Prod.fst (Prod.snd (addr_first t p s k n)))))) (by first | exact Eq.symm ((cF z2).trans rfl) | (simp only [addr_At, z2, cond_true, cond_false]; done) | (exfalso; simp_all; done) | decide) ⟨[], [], (by decide), rfl, rfl, trivial⟩⟩)
def addr_At_e : Entry Sg := fun
  | [(.agg ⟨[.int .i64 t, .int .i64 p, .int .i64 s]⟩, .none), (.int .i64 k, _), (.int .i64 pg, _), (.int .i64 n, _)] => some ⟨[], none, rowsR [], fun ss => .tuple #[.int .i64 ((addr_At t p s k pg n).1), .bool ((addr_At t p s k pg n).2)], fun k_ => .no⟩
  | _ => none
theorem addr_At_ok : EntryOk Dg Try.prog 33 addr_At_e := by
  intro args r h
  unfold addr_At_e at h
  split at h
  · injection h with h; subst h
    refine ⟨fun K acs _ => pOk_no, fun hpre E G w hi hS => ?_⟩
    exact entry_post Dg (nw := []) rfl (addr_At_calls _ _ _ _ _ _  hS)
  · cases h
def T_addr_At : List (Nat × Entry Sg) := (33, addr_At_e) :: T_addr_first
theorem T_addr_At_ok : TableOk Dg Try.prog T_addr_At := TableOk.cons Dg addr_At_ok T_addr_first_ok

/-- nacreref06.At -/
def r06_At (t : Int) (p : Int) (s : Int) (k : Int) (pg : Int) (n : Int) : Int × Bool := (bif decide (n < (0 : Int)) || decide (n ≥ r05_Slots k) then ((0 : Int), false) else (Prod.fst (r06_Of t p s pg (IntKind.wrap IntKind.i64 (n * r05_Size s k))), Prod.snd (r06_Of t p s pg (IntKind.wrap IntKind.i64 (n * r05_Size s k)))))
def r06_At_out (r_ : Int × Bool) : List Value → Value := fun ss => .tuple #[.int .i64 (r_.1), .bool (r_.2)]
def r06_At_nw (r_ : Int × Bool) : List (Chunk Sg) := []
def r06_At_rows (r_ : Int × Bool) : List (TypeId × List Col) := []
theorem r06_At_calls {E_ : World} {G_ : Hp} {w_ : World} (t : Int) (p : Int) (s : Int) (k : Int) (pg : Int) (n : Int) (hS : Sat E_ G_ w_ []) : Calls Try.prog 34 #[(.agg #[.int .i64 t, .int .i64 p, .int .i64 s]), (.int .i64 k), (.int .i64 pg), (.int .i64 n)] w_ (Post Dg E_ G_ (r06_At_out (r06_At t p s k pg n)) (r06_At_nw (r06_At t p s k pg n)) (r06_At_rows (r06_At t p s k pg n))) :=
  calls_post Dg T_addr_At_ok Try.func34 mix (B := bodyOf Try.f34) (by kernel_rfl) [(.agg #[.int .i64 t, .int .i64 p, .int .i64 s]), (.int .i64 k), (.int .i64 pg), (.int .i64 n)] [.no, .no, .no, .no] (by kernel_rfl) (objs := []) (ros := []) (psOk_cons pOk_no (psOk_cons pOk_no (psOk_cons pOk_no (psOk_cons pOk_no (psOk_nil))))) (by kernel_rfl) (trivial) hS 400
    (t := Tree.fresh fun b => Tree.br (decide (n < (0 : Int)) || decide (n ≥ r05_Slots k)) (Tree.ret (Value.tuple { toList := [Value.int IntKind.i64 (0 : Int), Value.bool false] }) [Chunk.cells b 44 [(Value.int IntKind.i64 t, Pr.no), (Value.int IntKind.i64 p, Pr.no), (Value.int IntKind.i64 s, Pr.no)]]) (Tree.ret (Value.tuple { toList := [Value.int IntKind.i64 (Prod.fst (r06_Of t p s pg (IntKind.wrap IntKind.i64 (n * r05_Size s k)))), Value.bool (Prod.snd (r06_Of t p s pg (IntKind.wrap IntKind.i64 (n * r05_Size s k))))] }) [Chunk.cells b 44 [(Value.int IntKind.i64 t, Pr.no), (Value.int IntKind.i64 p, Pr.no), (Value.int IntKind.i64 s, Pr.no)]]))
    (by kernel_rfl)
    (fun b0_0 => ⟨fun z1 => RetOk.at (outf := r06_At_out) (nwf := r06_At_nw) (rowsf := r06_At_rows) (r := ((0 : Int), false)) (by first | exact Eq.symm ((cT z1).trans rfl) | (simp only [r06_At, z1, cond_true, cond_false]; done) | (exfalso; simp_all; done) | decide) ⟨[], [], (by decide), rfl, rfl, trivial⟩, fun z1 => RetOk.at (outf := r06_At_out) (nwf := r06_At_nw) (rowsf := r06_At_rows) (r := (Prod.fst (r06_Of t p s pg (IntKind.wrap IntKind.i64 (n * r05_Size s k))), Prod.snd (r06_Of t p s pg (IntKind.wrap IntKind.i64 (n * r05_Size s k))))) (by first | exact Eq.symm ((cF z1).trans rfl) | (simp only [r06_At, z1, cond_true, cond_false]; done) | (exfalso; simp_all; done) | decide) ⟨[], [], (by decide), rfl, rfl, trivial⟩⟩)
def r06_At_e : Entry Sg := fun
  | [(.agg ⟨[.int .i64 t, .int .i64 p, .int .i64 s]⟩, .none), (.int .i64 k, _), (.int .i64 pg, _), (.int .i64 n, _)] => some ⟨[], none, rowsR [], fun ss => .tuple #[.int .i64 ((r06_At t p s k pg n).1), .bool ((r06_At t p s k pg n).2)], fun k_ => .no⟩
  | _ => none
theorem r06_At_ok : EntryOk Dg Try.prog 34 r06_At_e := by
  intro args r h
  unfold r06_At_e at h
  split at h
  · injection h with h; subst h
    refine ⟨fun K acs _ => pOk_no, fun hpre E G w hi hS => ?_⟩
    exact entry_post Dg (nw := []) rfl (r06_At_calls _ _ _ _ _ _  hS)
  · cases h
def T_r06_At : List (Nat × Entry Sg) := (34, r06_At_e) :: T_addr_At
theorem T_r06_At_ok : TableOk Dg Try.prog T_r06_At := TableOk.cons Dg r06_At_ok T_addr_At_ok

/-- addr.Slot -/
def addr_Slot (t : Int) (p : Int) (s : Int) (k : Int) (off : Int) : Int × Bool := (bif class_Size s k == (0 : Int) || !spot_there (0 : Int) off t p s then ((0 : Int), false) else (bif !Prod.snd (Prod.snd (addr_first t p s k (IntKind.wrap IntKind.i64 (Int.tdiv off (class_Size s k))))) || !(Prod.fst (addr_first t p s k (IntKind.wrap IntKind.i64 (Int.tdiv off (class_Size s k)))) == (0 : Int) && (Prod.fst (Prod.snd (addr_first t p s k (IntKind.wrap IntKind.i64 (Int.tdiv off (class_Size s k))))) == off && true)) then ((0 : Int), false) else (IntKind.wrap IntKind.i64 (Int.tdiv off (class_Size s k)), true)))
def addr_Slot_out (r_ : Int × Bool) : List Value → Value := fun ss => .tuple #[.int .i64 (r_.1), .bool (r_.2)]
def addr_Slot_nw (r_ : Int × Bool) : List (Chunk Sg) := []
def addr_Slot_rows (r_ : Int × Bool) : List (TypeId × List Col) := []
theorem addr_Slot_calls {E_ : World} {G_ : Hp} {w_ : World} (t : Int) (p : Int) (s : Int) (k : Int) (off : Int) (hS : Sat E_ G_ w_ []) : Calls Try.prog 35 #[(.agg #[.int .i64 t, .int .i64 p, .int .i64 s]), (.int .i64 k), (.int .i64 off)] w_ (Post Dg E_ G_ (addr_Slot_out (addr_Slot t p s k off)) (addr_Slot_nw (addr_Slot t p s k off)) (addr_Slot_rows (addr_Slot t p s k off))) :=
  calls_post Dg T_r06_At_ok Try.func35 mix (B := bodyOf Try.f35) (by kernel_rfl) [(.agg #[.int .i64 t, .int .i64 p, .int .i64 s]), (.int .i64 k), (.int .i64 off)] [.no, .no, .no] (by kernel_rfl) (objs := []) (ros := []) (psOk_cons pOk_no (psOk_cons pOk_no (psOk_cons pOk_no (psOk_nil)))) (by kernel_rfl) (trivial) hS 400
    (t := Tree.fresh fun b => Tree.br (class_Size s k == (0 : Int) || !spot_there (0 : Int) off t p s) (Tree.ret (Value.tuple { toList := [Value.int IntKind.i64 (0 : Int), Value.bool false] }) [Chunk.cells b 44 [(Value.int IntKind.i64 t, Pr.no), (Value.int IntKind.i64 p, Pr.no), (Value.int IntKind.i64 s, Pr.no)]]) (Tree.need (class_Size s k ≠ (0 : Int)) (Tree.fresh fun b_1 => Tree.br (!Prod.snd (Prod.snd (addr_first t p s k (IntKind.wrap IntKind.i64 (Int.tdiv off (class_Size s k))))) || !(Prod.fst (addr_first t p s k (IntKind.wrap IntKind.i64 (Int.tdiv off (class_Size s k)))) == (0 : Int) && (Prod.fst (Prod.snd (addr_first t p s k (IntKind.wrap IntKind.i64 (Int.tdiv off (class_Size s k))))) == off && true))) (Tree.ret (Value.tuple { toList := [Value.int IntKind.i64 (0 : Int), Value.bool false] }) [Chunk.cells b 44 [(Value.int IntKind.i64 t, Pr.no), (Value.int IntKind.i64 p, Pr.no), (Value.int IntKind.i64 s, Pr.no)], Chunk.cells b_1 68 [(Value.int IntKind.i64 (Prod.fst (addr_first t p s k (IntKind.wrap IntKind.i64 (Int.tdiv off (class_Size s k))))), Pr.no), (Value.int IntKind.i64 (Prod.fst (Prod.snd (addr_first t p s k (IntKind.wrap IntKind.i64 (Int.tdiv off (class_Size s k)))))), Pr.no)]]) (Tree.ret (Value.tuple { toList := [Value.int IntKind.i64 (IntKind.wrap IntKind.i64 (Int.tdiv off (class_Size s k))), Value.bool true] }) [Chunk.cells b 44 [(Value.int IntKind.i64 t, Pr.no), (Value.int IntKind.i64 p, Pr.no), (Value.int IntKind.i64 s, Pr.no)], Chunk.cells b_1 68 [(Value.int IntKind.i64 (Prod.fst (addr_first t p s k (IntKind.wrap IntKind.i64 (Int.tdiv off (class_Size s k))))), Pr.no), (Value.int IntKind.i64 (Prod.fst (Prod.snd (addr_first t p s k (IntKind.wrap IntKind.i64 (Int.tdiv off (class_Size s k)))))), Pr.no)]]))))
    (by kernel_rfl)
    (fun b0_0 => ⟨fun z1 => RetOk.at (outf := addr_Slot_out) (nwf := addr_Slot_nw) (rowsf := addr_Slot_rows) (r := ((0 : Int), false)) (by first | exact Eq.symm ((cT z1).trans rfl) | (simp only [addr_Slot, z1, cond_true, cond_false]; done) | (exfalso; simp_all; done) | decide) ⟨[], [], (by decide), rfl, rfl, trivial⟩, fun z1 => ⟨by exact need_Slot (by assumption), fun y2 => fun b3_0 => ⟨fun z4 => RetOk.at (outf := addr_Slot_out) (nwf := addr_Slot_nw) (rowsf := addr_Slot_rows) (r := ((0 : Int), false)) (by first | exact Eq.symm ((cF z1).trans ((cT z4).trans rfl)) | (simp only [addr_Slot, z1, z4, cond_true, cond_false]; done) | (exfalso; simp_all; done) | decide) ⟨[], [], (by decide), rfl, rfl, trivial⟩, fun z4 => RetOk.at (outf := addr_Slot_out) (nwf := addr_Slot_nw) (rowsf := addr_Slot_rows) (r := (IntKind.wrap IntKind.i64 (Int.tdiv off (class_Size s k)), true)) (by first | exact Eq.symm ((cF z1).trans ((cF z4).trans rfl)) | (simp only [addr_Slot, z1, z4, cond_true, cond_false]; done) | (exfalso; simp_all; done) | decide) ⟨[], [], (by decide), rfl, rfl, trivial⟩⟩⟩⟩)
def addr_Slot_e : Entry Sg := fun
  | [(.agg ⟨[.int .i64 t, .int .i64 p, .int .i64 s]⟩, .none), (.int .i64 k, _), (.int .i64 off, _)] => some ⟨[], none, rowsR [], fun ss => .tuple #[.int .i64 ((addr_Slot t p s k off).1), .bool ((addr_Slot t p s k off).2)], fun k_ => .no⟩
  | _ => none
theorem addr_Slot_ok : EntryOk Dg Try.prog 35 addr_Slot_e := by
  intro args r h
  unfold addr_Slot_e at h
  split at h
  · injection h with h; subst h
    refine ⟨fun K acs _ => pOk_no, fun hpre E G w hi hS => ?_⟩
    exact entry_post Dg (nw := []) rfl (addr_Slot_calls _ _ _ _ _  hS)
  · cases h
def T_addr_Slot : List (Nat × Entry Sg) := (35, addr_Slot_e) :: T_r06_At
theorem T_addr_Slot_ok : TableOk Dg Try.prog T_addr_Slot := TableOk.cons Dg addr_Slot_ok T_r06_At_ok

/-- nacreref06.Slot -/
def r06_Slot (t : Int) (p : Int) (s : Int) (k : Int) (off : Int) : Int × Bool := bif !r04_Right t p s then (0, false) else ofOpt (firstP (r05_Slots k).toNat fun i => off == IntKind.wrap IntKind.i64 ((i : Int) * r05_Size s k))
def r06_Slot_out (r_ : Int × Bool) : List Value → Value := fun ss => .tuple #[.int .i64 (r_.1), .bool (r_.2)]
def r06_Slot_nw (r_ : Int × Bool) : List (Chunk Sg) := []
def r06_Slot_rows (r_ : Int × Bool) : List (TypeId × List Col) := []
def r06_Slot_wp0 (t : Int) (p : Int) (s : Int) (k : Int) (off : Int) (Q1 : Int → Nat → Prop) (R_ : Int × Bool → Prop) : Prop := (∀ b0_0 : Nat, (((!r04_Right t p s) = true → (R_ (((0 : Int), false)))) ∧ ((!r04_Right t p s) = false → (Q1 ((0 : Int)) (b0_0)))))
theorem r06_Slot_pc0 {E_ : World} {G_ : Hp} (t : Int) (p : Int) (s : Int) (k : Int) (off : Int) {r_ : Int × Bool} {Q1 : Int → Nat → Prop} (hQ1 : ∀ (i : Int) (b : Nat), Q1 i b → SW Dg Try.prog 36 (Post Dg E_ G_ (r06_Slot_out r_) (r06_Slot_nw r_) (r06_Slot_rows r_)) (bodyOf Try.f36) Try.f36.ntmps E_ G_ (.code (0 :: [0,1,0,1,1]) :: .again [0,1,0,1,1] :: [.blk 0, .code [1,1,1]]) [⟨8, none, .int .i64 i, .no⟩, ⟨3, none, .pointer (some ⟨b, 0, none⟩), .pt 0 (.cell 0)⟩, ⟨1, none, .int .i64 k, .no⟩, ⟨2, none, .int .i64 off, .no⟩] [.cells b 44 [(.int .i64 t, .no), (.int .i64 p, .no), (.int .i64 s, .no)]]) (h : r06_Slot_wp0 t p s k off Q1 (fun x => x = r_)) : (Tree.fresh fun b => Tree.br (!r04_Right t p s) (Tree.ret (Value.tuple { toList := [Value.int IntKind.i64 (0 : Int), Value.bool false] }) [Chunk.cells b 44 [(Value.int IntKind.i64 t, Pr.no), (Value.int IntKind.i64 p, Pr.no), (Value.int IntKind.i64 s, Pr.no)]]) (Tree.stuck [Ab.code [0, 1, 0, 1, 1], Ab.blk 0, Ab.code [1, 1, 1]] [{ s := 8, g := none, v := Value.int IntKind.i64 (0 : Int), p := Pr.no }, { s := 11, g := none, v := Value.bool !r04_Right t p s, p := Pr.no }, { s := 10, g := none, v := Value.bool (r04_Right t p s), p := Pr.no }, { s := 9, g := none, v := Value.agg { toList := [Value.int IntKind.i64 t, Value.int IntKind.i64 p, Value.int IntKind.i64 s] }, p := Pr.no }, { s := 7, g := none, v := Value.bool false, p := Pr.no }, { s := 6, g := none, v := Value.int IntKind.i64 (0 : Int), p := Pr.no }, { s := 3, g := none, v := Value.pointer (some { block := b, off := 0 }), p := Pr.pt 0 (PK.cell 0) }, { s := 0, g := none, v := Value.agg { toList := [Value.int IntKind.i64 t, Value.int IntKind.i64 p, Value.int IntKind.i64 s] }, p := Pr.no }, { s := 1, g := none, v := Value.int IntKind.i64 k, p := Pr.no }, { s := 2, g := none, v := Value.int IntKind.i64 off, p := Pr.no }] [Chunk.cells b 44 [(Value.int IntKind.i64 t, Pr.no), (Value.int IntKind.i64 p, Pr.no), (Value.int IntKind.i64 s, Pr.no)]]) : Tree Sg).holds (RetOk (r06_Slot_out r_) (r06_Slot_nw r_) (r06_Slot_rows r_)) (SW Dg Try.prog 36 (Post Dg E_ G_ (r06_Slot_out r_) (r06_Slot_nw r_) (r06_Slot_rows r_)) (bodyOf Try.f36) Try.f36.ntmps E_ G_) :=
  fun b0_0 => ⟨fun z1 => RetOk.at (outf := r06_Slot_out) (nwf := r06_Slot_nw) (rowsf := r06_Slot_rows) (r := ((0 : Int), false)) ((h b0_0).1 z1) ⟨[], [], (by decide), rfl, rfl, trivial⟩, fun z1 => SW.move Dg [8, 3, 1, 2] [0] (by decide) (by kernel_rfl) (by kernel_rfl) (SW.enter Dg (by kernel_rfl) (hQ1 ((0 : Int)) (b0_0) ((h b0_0).2 z1)))⟩
def r06_Slot_wp1 (t : Int) (p : Int) (s : Int) (k : Int) (off : Int) (i : Int) (b : Nat) (Q1 : Int → Nat → Prop) (R_ : Int × Bool → Prop) : Prop := (((decide (i < r05_Slots k)) = true → (((off == IntKind.wrap IntKind.i64 (i * r05_Size s k)) = true → (R_ ((i, true)))) ∧ ((off == IntKind.wrap IntKind.i64 (i * r05_Size s k)) = false → (Q1 (IntKind.wrap IntKind.i64 (i + (1 : Int))) (b))))) ∧ ((decide (i < r05_Slots k)) = false → (R_ (((0 : Int), false)))))
theorem r06_Slot_pc1 {E_ : World} {G_ : Hp} (t : Int) (p : Int) (s : Int) (k : Int) (off : Int) (i : Int) (b : Nat) {r_ : Int × Bool} {Q1 : Int → Nat → Prop} (hQ1 : ∀ (i : Int) (b : Nat), Q1 i b → SW Dg Try.prog 36 (Post Dg E_ G_ (r06_Slot_out r_) (r06_Slot_nw r_) (r06_Slot_rows r_)) (bodyOf Try.f36) Try.f36.ntmps E_ G_ (.code (0 :: [0,1,0,1,1]) :: .again [0,1,0,1,1] :: [.blk 0, .code [1,1,1]]) [⟨8, none, .int .i64 i, .no⟩, ⟨3, none, .pointer (some ⟨b, 0, none⟩), .pt 0 (.cell 0)⟩, ⟨1, none, .int .i64 k, .no⟩, ⟨2, none, .int .i64 off, .no⟩] [.cells b 44 [(.int .i64 t, .no), (.int .i64 p, .no), (.int .i64 s, .no)]]) (h : r06_Slot_wp1 t p s k off i b Q1 (fun x => x = r_)) : (Tree.br (decide (i < r05_Slots k)) (Tree.br (off == IntKind.wrap IntKind.i64 (i * r05_Size s k)) (Tree.ret (Value.tuple { toList := [Value.int IntKind.i64 i, Value.bool true] }) [Chunk.cells b 44 [(Value.int IntKind.i64 t, Pr.no), (Value.int IntKind.i64 p, Pr.no), (Value.int IntKind.i64 s, Pr.no)]]) (Tree.stuck [Ab.again [0, 1, 0, 1, 1], Ab.blk 0, Ab.code [1, 1, 1]] [{ s := 8, g := none, v := Value.int IntKind.i64 (IntKind.wrap IntKind.i64 (i + (1 : Int))), p := Pr.no }, { s := 17, g := none, v := Value.int IntKind.i64 (IntKind.wrap IntKind.i64 (i + (1 : Int))), p := Pr.no }, { s := 16, g := none, v := Value.int IntKind.i64 i, p := Pr.no }, { s := 25, g := none, v := Value.bool (off == IntKind.wrap IntKind.i64 (i * r05_Size s k)), p := Pr.no }, { s := 24, g := none, v := Value.int IntKind.i64 (IntKind.wrap IntKind.i64 (i * r05_Size s k)), p := Pr.no }, { s := 23, g := none, v := Value.int IntKind.i64 (r05_Size s k), p := Pr.no }, { s := 22, g := none, v := Value.int IntKind.i64 k, p := Pr.no }, { s := 21, g := none, v := Value.int IntKind.i64 s, p := Pr.no }, { s := 20, g := none, v := Value.pointer (some { block := Addr.block { block := b, off := 0 }, off := Addr.off { block := b, off := 0 } + 2 }), p := Pr.pt 0 (PK.cell 2) }, { s := 19, g := none, v := Value.int IntKind.i64 i, p := Pr.no }, { s := 18, g := none, v := Value.int IntKind.i64 off, p := Pr.no }, { s := 15, g := none, v := Value.bool (decide (i < r05_Slots k)), p := Pr.no }, { s := 14, g := none, v := Value.int IntKind.i64 (r05_Slots k), p := Pr.no }, { s := 13, g := none, v := Value.int IntKind.i64 k, p := Pr.no }, { s := 12, g := none, v := Value.int IntKind.i64 i, p := Pr.no }, { s := 3, g := none, v := Value.pointer (some { block := b, off := 0 }), p := Pr.pt 0 (PK.cell 0) }, { s := 1, g := none, v := Value.int IntKind.i64 k, p := Pr.no }, { s := 2, g := none, v := Value.int IntKind.i64 off, p := Pr.no }] [Chunk.cells b 44 [(Value.int IntKind.i64 t, Pr.no), (Value.int IntKind.i64 p, Pr.no), (Value.int IntKind.i64 s, Pr.no)]])) (Tree.ret (Value.tuple { toList := [Value.int IntKind.i64 (0 : Int), Value.bool false] }) [Chunk.cells b 44 [(Value.int IntKind.i64 t, Pr.no), (Value.int IntKind.i64 p, Pr.no), (Value.int IntKind.i64 s, Pr.no)]]) : Tree Sg).holds (RetOk (r06_Slot_out r_) (r06_Slot_nw r_) (r06_Slot_rows r_)) (SW Dg Try.prog 36 (Post Dg E_ G_ (r06_Slot_out r_) (r06_Slot_nw r_) (r06_Slot_rows r_)) (bodyOf Try.f36) Try.f36.ntmps E_ G_) :=
  ⟨fun z0 => ⟨fun z1 => RetOk.at (outf := r06_Slot_out) (nwf := r06_Slot_nw) (rowsf := r06_Slot_rows) (r := (i, true)) ((h.1 z0).1 z1) ⟨[], [], (by decide), rfl, rfl, trivial⟩, fun z1 => SW.move Dg [8, 3, 1, 2] [0] (by decide) (by kernel_rfl) (by kernel_rfl) (SW.again Dg (hQ1 (IntKind.wrap IntKind.i64 (i + (1 : Int))) (b) ((h.1 z0).2 z1)))⟩, fun z0 => RetOk.at (outf := r06_Slot_out) (nwf := r06_Slot_nw) (rowsf := r06_Slot_rows) (r := ((0 : Int), false)) (h.2 z0) ⟨[], [], (by decide), rfl, rfl, trivial⟩⟩
theorem r06_Slot_go1 {E_ : World} {G_ : Hp} (t : Int) (p : Int) (s : Int) (k : Int) (off : Int) (i : Int) (b : Nat) {r_ : Int × Bool} {Q1 : Int → Nat → Prop} (hQ1 : ∀ (i : Int) (b : Nat), Q1 i b → SW Dg Try.prog 36 (Post Dg E_ G_ (r06_Slot_out r_) (r06_Slot_nw r_) (r06_Slot_rows r_)) (bodyOf Try.f36) Try.f36.ntmps E_ G_ (.code (0 :: [0,1,0,1,1]) :: .again [0,1,0,1,1] :: [.blk 0, .code [1,1,1]]) [⟨8, none, .int .i64 i, .no⟩, ⟨3, none, .pointer (some ⟨b, 0, none⟩), .pt 0 (.cell 0)⟩, ⟨1, none, .int .i64 k, .no⟩, ⟨2, none, .int .i64 off, .no⟩] [.cells b 44 [(.int .i64 t, .no), (.int .i64 p, .no), (.int .i64 s, .no)]]) (h : r06_Slot_wp1 t p s k off i b Q1 (fun x => x = r_)) : SW Dg Try.prog 36 (Post Dg E_ G_ (r06_Slot_out r_) (r06_Slot_nw r_) (r06_Slot_rows r_)) (bodyOf Try.f36) Try.f36.ntmps E_ G_ (.code (0 :: [0,1,0,1,1]) :: .again [0,1,0,1,1] :: [.blk 0, .code [1,1,1]]) [⟨8, none, .int .i64 i, .no⟩, ⟨3, none, .pointer (some ⟨b, 0, none⟩), .pt 0 (.cell 0)⟩, ⟨1, none, .int .i64 k, .no⟩, ⟨2, none, .int .i64 off, .no⟩] [.cells b 44 [(.int .i64 t, .no), (.int .i64 p, .no), (.int .i64 s, .no)]] :=
  SW.go Dg T_addr_Slot_ok Try.func36 mix 400 (by kernel_rfl) (r06_Slot_pc1 t p s k off i b hQ1 h)
theorem r06_Slot_start {E_ : World} {G_ : Hp} {w_ : World} (t : Int) (p : Int) (s : Int) (k : Int) (off : Int) {r_ : Int × Bool} {Q1 : Int → Nat → Prop} (hQ1 : ∀ (i : Int) (b : Nat), Q1 i b → SW Dg Try.prog 36 (Post Dg E_ G_ (r06_Slot_out r_) (r06_Slot_nw r_) (r06_Slot_rows r_)) (bodyOf Try.f36) Try.f36.ntmps E_ G_ (.code (0 :: [0,1,0,1,1]) :: .again [0,1,0,1,1] :: [.blk 0, .code [1,1,1]]) [⟨8, none, .int .i64 i, .no⟩, ⟨3, none, .pointer (some ⟨b, 0, none⟩), .pt 0 (.cell 0)⟩, ⟨1, none, .int .i64 k, .no⟩, ⟨2, none, .int .i64 off, .no⟩] [.cells b 44 [(.int .i64 t, .no), (.int .i64 p, .no), (.int .i64 s, .no)]]) (hS : Sat E_ G_ w_ []) (h : r06_Slot_wp0 t p s k off Q1 (fun x => x = r_)) : Calls Try.prog 36 #[(.agg #[.int .i64 t, .int .i64 p, .int .i64 s]), (.int .i64 k), (.int .i64 off)] w_ (Post Dg E_ G_ (r06_Slot_out r_) (r06_Slot_nw r_) (r06_Slot_rows r_)) :=
  calls_post Dg T_addr_Slot_ok Try.func36 mix (B := bodyOf Try.f36) (by kernel_rfl) [(.agg #[.int .i64 t, .int .i64 p, .int .i64 s]), (.int .i64 k), (.int .i64 off)] [.no, .no, .no] (by kernel_rfl) (objs := []) (ros := []) (psOk_cons pOk_no (psOk_cons pOk_no (psOk_cons pOk_no (psOk_nil)))) (by kernel_rfl) (trivial) hS 400
    (t := Tree.fresh fun b => Tree.br (!r04_Right t p s) (Tree.ret (Value.tuple { toList := [Value.int IntKind.i64 (0 : Int), Value.bool false] }) [Chunk.cells b 44 [(Value.int IntKind.i64 t, Pr.no), (Value.int IntKind.i64 p, Pr.no), (Value.int IntKind.i64 s, Pr.no)]]) (Tree.stuck [Ab.code [0, 1, 0, 1, 1], Ab.blk 0, Ab.code [1, 1, 1]] [{ s := 8, g := none, v := Value.int IntKind.i64 (0 : Int), p := Pr.no }, { s := 11, g := none, v := Value.bool !r04_Right t p s, p := Pr.no }, { s := 10, g := none, v := Value.bool (r04_Right t p s), p := Pr.no }, { s := 9, g := none, v := Value.agg { toList := [Value.int IntKind.i64 t, Value.int IntKind.i64 p, Value.int IntKind.i64 s] }, p := Pr.no }, { s := 7, g := none, v := Value.bool false, p := Pr.no }, { s := 6, g := none, v := Value.int IntKind.i64 (0 : Int), p := Pr.no }, { s := 3, g := none, v := Value.pointer (some { block := b, off := 0 }), p := Pr.pt 0 (PK.cell 0) }, { s := 0, g := none, v := Value.agg { toList := [Value.int IntKind.i64 t, Value.int IntKind.i64 p, Value.int IntKind.i64 s] }, p := Pr.no }, { s := 1, g := none, v := Value.int IntKind.i64 k, p := Pr.no }, { s := 2, g := none, v := Value.int IntKind.i64 off, p := Pr.no }] [Chunk.cells b 44 [(Value.int IntKind.i64 t, Pr.no), (Value.int IntKind.i64 p, Pr.no), (Value.int IntKind.i64 s, Pr.no)]]))
    (by kernel_rfl)
    (r06_Slot_pc0 t p s k off hQ1 h)
def r06_Slot_I (t : Int) (p : Int) (s : Int) (k : Int) (off : Int) (i : Int) (b : Nat) (r_ : Int × Bool) : Prop := 0 ≤ i ∧ i ≤ r05_Slots k ∧ r04_Right t p s = true ∧ (∀ j : Nat, j < i.toNat → (off == IntKind.wrap IntKind.i64 ((j : Int) * r05_Size s k)) = false) ∧ r_ = r06_Slot t p s k off
theorem r06_Slot_step (t : Int) (p : Int) (s : Int) (k : Int) (off : Int) (i : Int) (b : Nat) {r_ : Int × Bool} (hI : r06_Slot_I t p s k off i b r_) : r06_Slot_wp1 t p s k off i b (fun i' b' => r06_Slot_I t p s k off i' b' r_ ∧ ((r05_Slots k - i').toNat) < ((r05_Slots k - i).toNat)) (fun x => x = r_) := by
  unfold r06_Slot_I at hI
  unfold r06_Slot_wp1 r06_Slot_I
  obtain ⟨h0, h1, h2, h3, h4⟩ := hI
  have hs := r05_slots_le k
  refine ⟨fun h => ⟨fun hg => ?_, fun hg => ?_⟩, fun h => ?_⟩
  · show (i, true) = r_
    simp only [decide_eq_true_eq] at h
    have := (firstP_some (n := (r05_Slots k).toNat) (i := i.toNat) (p := fun i => off == IntKind.wrap IntKind.i64 ((i : Int) * r05_Size s k))).2 ⟨by
      show (off == IntKind.wrap IntKind.i64 ((i.toNat : Int) * r05_Size s k)) = true
      rw [Int.toNat_of_nonneg h0]; exact hg, by omega, h3⟩
    rw [h4]
    simp only [r06_Slot, h2, this, Bool.not_true, cond_false, ofOpt]
    rw [Int.toNat_of_nonneg h0]
  · simp only [decide_eq_true_eq] at h
    rw [w64 (by omega)]
    refine ⟨⟨by omega, by omega, h2, fun j hj => ?_, h4⟩, by omega⟩
    by_cases hk : j = i.toNat
    · subst hk; rw [Int.toNat_of_nonneg h0]; exact hg
    · exact h3 j (by omega)
  · show ((0 : Int), false) = r_
    simp only [decide_eq_false_iff_not] at h
    have := (firstP_none (n := (r05_Slots k).toNat) (p := fun i => off == IntKind.wrap IntKind.i64 ((i : Int) * r05_Size s k))).2 fun j hj => h3 j (by omega)
    rw [h4]
    simp only [r06_Slot, h2, this, Bool.not_true, cond_false, ofOpt]
theorem r06_Slot_loop {E_ : World} {G_ : Hp} (t : Int) (p : Int) (s : Int) (k : Int) (off : Int) {r_ : Int × Bool} : ∀ s_ : Int × Nat, r06_Slot_I t p s k off s_.1 s_.2 r_ → SW Dg Try.prog 36 (Post Dg E_ G_ (r06_Slot_out r_) (r06_Slot_nw r_) (r06_Slot_rows r_)) (bodyOf Try.f36) Try.f36.ntmps E_ G_ (.code (0 :: [0,1,0,1,1]) :: .again [0,1,0,1,1] :: [.blk 0, .code [1,1,1]]) [⟨8, none, .int .i64 s_.1, .no⟩, ⟨3, none, .pointer (some ⟨s_.2, 0, none⟩), .pt 0 (.cell 0)⟩, ⟨1, none, .int .i64 k, .no⟩, ⟨2, none, .int .i64 off, .no⟩] [.cells s_.2 44 [(.int .i64 t, .no), (.int .i64 p, .no), (.int .i64 s, .no)]] :=
  SW.loop Dg (α := Int × Nat) (fun s_ => [⟨8, none, .int .i64 s_.1, .no⟩, ⟨3, none, .pointer (some ⟨s_.2, 0, none⟩), .pt 0 (.cell 0)⟩, ⟨1, none, .int .i64 k, .no⟩, ⟨2, none, .int .i64 off, .no⟩]) (fun s_ => [.cells s_.2 44 [(.int .i64 t, .no), (.int .i64 p, .no), (.int .i64 s, .no)]]) (fun s_ => (r05_Slots k - s_.1).toNat) (fun s_ => r06_Slot_I t p s k off s_.1 s_.2 r_) (fun ⟨i, b⟩ hI ih => r06_Slot_go1 t p s k off i b (fun i' b' h => ih (i', b') h.1 h.2) (r06_Slot_step t p s k off i b hI))
theorem r06_Slot_begin (t : Int) (p : Int) (s : Int) (k : Int) (off : Int) : r06_Slot_wp0 t p s k off (fun i b => r06_Slot_I t p s k off i b (r06_Slot t p s k off)) (fun x => x = (r06_Slot t p s k off)) := by
  unfold r06_Slot_wp0 r06_Slot_I
  intro b
  refine ⟨fun h => ?_, fun h => ?_⟩
  · simp only [r06_Slot, h, cond_true]
  · have := r05_slots_le k
    refine ⟨by omega, by omega, by simpa using h, fun j hj => absurd hj (Nat.not_lt_zero j), rfl⟩
theorem r06_Slot_calls {E_ : World} {G_ : Hp} {w_ : World} (t : Int) (p : Int) (s : Int) (k : Int) (off : Int) (hS : Sat E_ G_ w_ []) : Calls Try.prog 36 #[(.agg #[.int .i64 t, .int .i64 p, .int .i64 s]), (.int .i64 k), (.int .i64 off)] w_ (Post Dg E_ G_ (r06_Slot_out (r06_Slot t p s k off)) (r06_Slot_nw (r06_Slot t p s k off)) (r06_Slot_rows (r06_Slot t p s k off))) :=
  r06_Slot_start t p s k off (fun i b h => r06_Slot_loop t p s k off (i, b) h) hS (r06_Slot_begin t p s k off )
def r06_Slot_e : Entry Sg := fun
  | [(.agg ⟨[.int .i64 t, .int .i64 p, .int .i64 s]⟩, .none), (.int .i64 k, _), (.int .i64 off, _)] => some ⟨[], none, rowsR [], fun ss => .tuple #[.int .i64 ((r06_Slot t p s k off).1), .bool ((r06_Slot t p s k off).2)], fun k_ => .no⟩
  | _ => none
theorem r06_Slot_ok : EntryOk Dg Try.prog 36 r06_Slot_e := by
  intro args r h
  unfold r06_Slot_e at h
  split at h
  · injection h with h; subst h
    refine ⟨fun K acs _ => pOk_no, fun hpre E G w hi hS => ?_⟩
    exact entry_post Dg (nw := []) rfl (r06_Slot_calls _ _ _ _ _  hS)
  · cases h
def T_r06_Slot : List (Nat × Entry Sg) := (36, r06_Slot_e) :: T_addr_Slot
theorem T_r06_Slot_ok : TableOk Dg Try.prog T_r06_Slot := TableOk.cons Dg r06_Slot_ok T_addr_Slot_ok

/-- addr.Pages -/
def addr_Pages (t : Int) (p : Int) (s : Int) (z : Int) : Int × Bool := (bif decide (z < (1 : Int)) || decide (z > conf_Bytes t p s) then ((0 : Int), false) else (IntKind.wrap IntKind.i64 (Int.fdiv (IntKind.wrap IntKind.i64 (z - (1 : Int))) ((2 : Int) ^ min (Int.toNat s) 64) + (1 : Int)), true))
def addr_Pages_out (r_ : Int × Bool) : List Value → Value := fun ss => .tuple #[.int .i64 (r_.1), .bool (r_.2)]
def addr_Pages_nw (r_ : Int × Bool) : List (Chunk Sg) := []
def addr_Pages_rows (r_ : Int × Bool) : List (TypeId × List Col) := []
theorem addr_Pages_calls {E_ : World} {G_ : Hp} {w_ : World} (t : Int) (p : Int) (s : Int) (z : Int) (hS : Sat E_ G_ w_ []) : Calls Try.prog 37 #[(.agg #[.int .i64 t, .int .i64 p, .int .i64 s]), (.int .i64 z)] w_ (Post Dg E_ G_ (addr_Pages_out (addr_Pages t p s z)) (addr_Pages_nw (addr_Pages t p s z)) (addr_Pages_rows (addr_Pages t p s z))) :=
  calls_post Dg T_r06_Slot_ok Try.func37 mix (B := bodyOf Try.f37) (by kernel_rfl) [(.agg #[.int .i64 t, .int .i64 p, .int .i64 s]), (.int .i64 z)] [.no, .no] (by kernel_rfl) (objs := []) (ros := []) (psOk_cons pOk_no (psOk_cons pOk_no (psOk_nil))) (by kernel_rfl) (trivial) hS 400
    (t := Tree.fresh fun b => Tree.br (decide (z < (1 : Int)) || decide (z > conf_Bytes t p s)) (Tree.ret (Value.tuple { toList := [Value.int IntKind.i64 (0 : Int), Value.bool false] }) [Chunk.cells b 44 [(Value.int IntKind.i64 t, Pr.no), (Value.int IntKind.i64 p, Pr.no), (Value.int IntKind.i64 s, Pr.no)]]) (Tree.need ((0 : Int) ≤ s) (Tree.ret (Value.tuple { toList := [Value.int IntKind.i64 (IntKind.wrap IntKind.i64 (Int.fdiv (IntKind.wrap IntKind.i64 (z - (1 : Int))) ((2 : Int) ^ min (Int.toNat s) 64) + (1 : Int))), Value.bool true] }) [Chunk.cells b 44 [(Value.int IntKind.i64 t, Pr.no), (Value.int IntKind.i64 p, Pr.no), (Value.int IntKind.i64 s, Pr.no)]])))
    (by kernel_rfl)
    (fun b0_0 => ⟨fun z1 => RetOk.at (outf := addr_Pages_out) (nwf := addr_Pages_nw) (rowsf := addr_Pages_rows) (r := ((0 : Int), false)) (by first | exact Eq.symm ((cT z1).trans rfl) | (simp only [addr_Pages, z1, cond_true, cond_false]; done) | (exfalso; simp_all; done) | decide) ⟨[], [], (by decide), rfl, rfl, trivial⟩, fun z1 => ⟨by exact need_Pages (by assumption), fun y2 => RetOk.at (outf := addr_Pages_out) (nwf := addr_Pages_nw) (rowsf := addr_Pages_rows) (r := (IntKind.wrap IntKind.i64 (Int.fdiv (IntKind.wrap IntKind.i64 (z - (1 : Int))) ((2 : Int) ^ min (Int.toNat s) 64) + (1 : Int)), true)) (by first | exact Eq.symm ((cF z1).trans rfl) | (simp only [addr_Pages, z1, cond_true, cond_false]; done) | (exfalso; simp_all; done) | decide) ⟨[], [], (by decide), rfl, rfl, trivial⟩⟩⟩)
def addr_Pages_e : Entry Sg := fun
  | [(.agg ⟨[.int .i64 t, .int .i64 p, .int .i64 s]⟩, .none), (.int .i64 z, _)] => some ⟨[], none, rowsR [], fun ss => .tuple #[.int .i64 ((addr_Pages t p s z).1), .bool ((addr_Pages t p s z).2)], fun k_ => .no⟩
  | _ => none
theorem addr_Pages_ok : EntryOk Dg Try.prog 37 addr_Pages_e := by
  intro args r h
  unfold addr_Pages_e at h
  split at h
  · injection h with h; subst h
    refine ⟨fun K acs _ => pOk_no, fun hpre E G w hi hS => ?_⟩
    exact entry_post Dg (nw := []) rfl (addr_Pages_calls _ _ _ _  hS)
  · cases h
def T_addr_Pages : List (Nat × Entry Sg) := (37, addr_Pages_e) :: T_r06_Slot
theorem T_addr_Pages_ok : TableOk Dg Try.prog T_addr_Pages := TableOk.cons Dg addr_Pages_ok T_r06_Slot_ok

/-- nacreref06.Pages -/
def r06_Pages (t : Int) (p : Int) (s : Int) (z : Int) : Int × Bool := (bif !r04_Right t p s || decide (z < (1 : Int)) || decide (z > r04_Bytes t p s) then ((0 : Int), false) else (bif decide (Int.tmod z (r04_Page t p s) > (0 : Int)) then (IntKind.wrap IntKind.i64 (IntKind.wrap IntKind.i64 (Int.tdiv z (r04_Page t p s)) + (1 : Int)), true) else (IntKind.wrap IntKind.i64 (Int.tdiv z (r04_Page t p s)), true)))
def r06_Pages_out (r_ : Int × Bool) : List Value → Value := fun ss => .tuple #[.int .i64 (r_.1), .bool (r_.2)]
def r06_Pages_nw (r_ : Int × Bool) : List (Chunk Sg) := []
def r06_Pages_rows (r_ : Int × Bool) : List (TypeId × List Col) := []
theorem r06_Pages_calls {E_ : World} {G_ : Hp} {w_ : World} (t : Int) (p : Int) (s : Int) (z : Int) (hS : Sat E_ G_ w_ []) : Calls Try.prog 38 #[(.agg #[.int .i64 t, .int .i64 p, .int .i64 s]), (.int .i64 z)] w_ (Post Dg E_ G_ (r06_Pages_out (r06_Pages t p s z)) (r06_Pages_nw (r06_Pages t p s z)) (r06_Pages_rows (r06_Pages t p s z))) :=
  calls_post Dg T_addr_Pages_ok Try.func38 mix (B := bodyOf Try.f38) (by kernel_rfl) [(.agg #[.int .i64 t, .int .i64 p, .int .i64 s]), (.int .i64 z)] [.no, .no] (by kernel_rfl) (objs := []) (ros := []) (psOk_cons pOk_no (psOk_cons pOk_no (psOk_nil))) (by kernel_rfl) (trivial) hS 400
    (t := Tree.fresh fun b => Tree.br (!r04_Right t p s || decide (z < (1 : Int)) || decide (z > r04_Bytes t p s)) (Tree.ret (Value.tuple { toList := [Value.int IntKind.i64 (0 : Int), Value.bool false] }) [Chunk.cells b 44 [(Value.int IntKind.i64 t, Pr.no), (Value.int IntKind.i64 p, Pr.no), (Value.int IntKind.i64 s, Pr.no)]]) (Tree.need (r04_Page t p s ≠ (0 : Int)) (Tree.need (r04_Page t p s ≠ (0 : Int)) (Tree.br (decide (Int.tmod z (r04_Page t p s) > (0 : Int))) (Tree.ret (Value.tuple { toList := [Value.int IntKind.i64 (IntKind.wrap IntKind.i64 (IntKind.wrap IntKind.i64 (Int.tdiv z (r04_Page t p s)) + (1 : Int))), Value.bool true] }) [Chunk.cells b 44 [(Value.int IntKind.i64 t, Pr.no), (Value.int IntKind.i64 p, Pr.no), (Value.int IntKind.i64 s, Pr.no)]]) (Tree.ret (Value.tuple { toList := [Value.int IntKind.i64 (IntKind.wrap IntKind.i64 (Int.tdiv z (r04_Page t p s))), Value.bool true] }) [Chunk.cells b 44 [(Value.int IntKind.i64 t, Pr.no), (Value.int IntKind.i64 p, Pr.no), (Value.int IntKind.i64 s, Pr.no)]])))))
    (by kernel_rfl)
    (fun b0_0 => ⟨fun z1 => RetOk.at (outf := r06_Pages_out) (nwf := r06_Pages_nw) (rowsf := r06_Pages_rows) (r := ((0 : Int), false)) (by first | exact Eq.symm ((cT z1).trans rfl) | (simp only [r06_Pages, z1, cond_true, cond_false]; done) | (exfalso; simp_all; done) | decide) ⟨[], [], (by decide), rfl, rfl, trivial⟩, fun z1 => ⟨by first | exact r06_ne | exact r06_ne2 | exact r06_ne3 | exact r06_ne2 (by assumption) | exact r06_ne3 (by assumption), fun y2 => ⟨by first | exact r06_ne | exact r06_ne2 | exact r06_ne3 | exact r06_ne2 (by assumption) | exact r06_ne3 (by assumption), fun y3 => ⟨fun z4 => RetOk.at (outf := r06_Pages_out) (nwf := r06_Pages_nw) (rowsf := r06_Pages_rows) (r := (IntKind.wrap IntKind.i64 (IntKind.wrap IntKind.i64 (Int.tdiv z (r04_Page t p s)) + (1 : Int)), true)) (by first | exact Eq.symm ((cF z1).trans ((cT z4).trans rfl)) | (simp only [r06_Pages, z1, z4, cond_true, cond_false]; done) | (exfalso; simp_all; done) | decide) ⟨[], [], (by decide), rfl, rfl, trivial⟩, fun z4 => RetOk.at (outf := r06_Pages_out) (nwf := r06_Pages_nw) (rowsf := r06_Pages_rows) (r := (IntKind.wrap IntKind.i64 (Int.tdiv z (r04_Page t p s)), true)) (by first | exact Eq.symm ((cF z1).trans ((cF z4).trans rfl)) | (simp only [r06_Pages, z1, z4, cond_true, cond_false]; done) | (exfalso; simp_all; done) | decide) ⟨[], [], (by decide), rfl, rfl, trivial⟩⟩⟩⟩⟩)
def r06_Pages_e : Entry Sg := fun
  | [(.agg ⟨[.int .i64 t, .int .i64 p, .int .i64 s]⟩, .none), (.int .i64 z, _)] => some ⟨[], none, rowsR [], fun ss => .tuple #[.int .i64 ((r06_Pages t p s z).1), .bool ((r06_Pages t p s z).2)], fun k_ => .no⟩
  | _ => none
theorem r06_Pages_ok : EntryOk Dg Try.prog 38 r06_Pages_e := by
  intro args r h
  unfold r06_Pages_e at h
  split at h
  · injection h with h; subst h
    refine ⟨fun K acs _ => pOk_no, fun hpre E G w hi hS => ?_⟩
    exact entry_post Dg (nw := []) rfl (r06_Pages_calls _ _ _ _  hS)
  · cases h
def T_r06_Pages : List (Nat × Entry Sg) := (38, r06_Pages_e) :: T_addr_Pages
theorem T_r06_Pages_ok : TableOk Dg Try.prog T_r06_Pages := TableOk.cons Dg r06_Pages_ok T_addr_Pages_ok

/-- nacrelaw06.slots -/
def l06_slots (k : Int) : Int := (bif decide (k < (0 : Int)) || decide (k ≥ (↑9 : Int)) then (1 : Int) else List.getD [(32 : Int), (21 : Int), (16 : Int), (10 : Int), (8 : Int), (5 : Int), (4 : Int), (3 : Int), (2 : Int)] (Int.toNat k) (0 : Int))
def l06_slots_out (r_ : Int) : List Value → Value := fun ss => .int .i64 (r_)
def l06_slots_nw (r_ : Int) : List (Chunk Sg) := []
def l06_slots_rows (r_ : Int) : List (TypeId × List Col) := []
theorem l06_slots_calls {E_ : World} {G_ : Hp} {w_ : World} (k : Int) (hS : Sat E_ G_ w_ []) : Calls Try.prog 39 #[(.int .i64 k)] w_ (Post Dg E_ G_ (l06_slots_out (l06_slots k)) (l06_slots_nw (l06_slots k)) (l06_slots_rows (l06_slots k))) :=
  calls_post Dg T_r06_Pages_ok Try.func39 mix (B := bodyOf Try.f39) (by kernel_rfl) [(.int .i64 k)] [.no] (by kernel_rfl) (objs := []) (ros := []) (psOk_cons pOk_no (psOk_nil)) (by kernel_rfl) (trivial) hS 400
    (t := Tree.fresh fun b => Tree.br (decide (k < (0 : Int)) || decide (k ≥ (↑9 : Int))) (Tree.ret (Value.int IntKind.i64 (1 : Int)) [Chunk.row (some b) 3 9 9 [Col.ints IntKind.i64 [(32 : Int), (21 : Int), (16 : Int), (10 : Int), (8 : Int), (5 : Int), (4 : Int), (3 : Int), (2 : Int)]]]) (Tree.need ((0 : Int) ≤ k ∧ k < (↑9 : Int)) (Tree.ret (Value.int IntKind.i64 (List.getD [(32 : Int), (21 : Int), (16 : Int), (10 : Int), (8 : Int), (5 : Int), (4 : Int), (3 : Int), (2 : Int)] (Int.toNat k) (0 : Int))) [Chunk.row (some b) 3 9 9 [Col.ints IntKind.i64 [(32 : Int), (21 : Int), (16 : Int), (10 : Int), (8 : Int), (5 : Int), (4 : Int), (3 : Int), (2 : Int)]]])))
    (by kernel_rfl)
    (fun b0_0 => ⟨fun z1 => RetOk.at (outf := l06_slots_out) (nwf := l06_slots_nw) (rowsf := l06_slots_rows) (r := (1 : Int)) (by first | exact Eq.symm ((cT z1).trans rfl) | (simp only [l06_slots, z1, cond_true, cond_false]; done) | (exfalso; simp_all; done) | decide) ⟨[], [], (by decide), rfl, rfl, trivial⟩, fun z1 => ⟨by exact need_l06 (by assumption), fun y2 => RetOk.at (outf := l06_slots_out) (nwf := l06_slots_nw) (rowsf := l06_slots_rows) (r := List.getD [(32 : Int), (21 : Int), (16 : Int), (10 : Int), (8 : Int), (5 : Int), (4 : Int), (3 : Int), (2 : Int)] (Int.toNat k) (0 : Int)) (by first | exact Eq.symm ((cF z1).trans rfl) | (simp only [l06_slots, z1, cond_true, cond_false]; done) | (exfalso; simp_all; done) | decide) ⟨[], [], (by decide), rfl, rfl, trivial⟩⟩⟩)
def l06_slots_e : Entry Sg := fun
  | [(.int .i64 k, _)] => some ⟨[], none, rowsR [], fun ss => .int .i64 ((l06_slots k)), fun k_ => .no⟩
  | _ => none
theorem l06_slots_ok : EntryOk Dg Try.prog 39 l06_slots_e := by
  intro args r h
  unfold l06_slots_e at h
  split at h
  · injection h with h; subst h
    refine ⟨fun K acs _ => pOk_no, fun hpre E G w hi hS => ?_⟩
    exact entry_post Dg (nw := []) rfl (l06_slots_calls _  hS)
  · cases h
def T_l06_slots : List (Nat × Entry Sg) := (39, l06_slots_e) :: T_r06_Pages
theorem T_l06_slots_ok : TableOk Dg Try.prog T_l06_slots := TableOk.cons Dg l06_slots_ok T_r06_Pages_ok
end Go.Proofs.Ytaenbinoejnecaa

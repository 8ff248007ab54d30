/-
  DERIVED. What functions of the program compute, read off their bodies by the machine of SlB, and that it is so. Printed by a program of this claim's own (wip/gen/gen2.py).
-/
import Derived.Test.YtaenbinoejnecaaDoorPlHalf
namespace Go.Proofs.YtaenbinoejnecaaDoor
open Go.Sl
set_option linter.unusedSimpArgs false
set_option linter.unusedVariables false

/- nacrelaw01.HalfBack -/
def HalfBack (w : Int) (x : Int) (y : Int) (v : Int) (x2 : Int) (y2 : Int) (v2 : Int) : Bool := (bif !Prod.snd (half_Put w x y v) then Prod.fst (half_Put w x y v) == (0 : Int) && true else (bif half_Get (Prod.fst (half_Put w x y v)) x y != v then false else (bif !Prod.snd (half_Put (Prod.fst (half_Put w x y v)) x y (half_Get w x y)) || Prod.fst (half_Put (Prod.fst (half_Put w x y v)) x y (half_Get w x y)) != w then false else (bif decide (x2 < (0 : Int)) || decide (x2 > (63 : Int)) || decide (y2 < (1 : Int)) || decide (y2 > IntKind.wrap IntKind.i64 ((64 : Int) - x2)) || decide (x2 < IntKind.wrap IntKind.i64 (x + y)) && decide (x < IntKind.wrap IntKind.i64 (x2 + y2)) then true else half_Get (Prod.fst (half_Put w x y v)) x2 y2 == half_Get w x2 y2 && true))))
def HalfBack_out (r_ : Bool) : List Value → Value := fun ss => .bool (r_)
def HalfBack_nw (r_ : Bool) : List (Chunk Sg) := []
def HalfBack_rows (r_ : Bool) : List (Mk Sg) := []
section
variable (w : Int) (x : Int) (y : Int) (v : Int) (x2 : Int) (y2 : Int) (v2 : Int)
theorem HalfBack_calls {E_ : World} {G_ : Hp} {w_ : World} (hS : Sat E_ G_ w_ []) : Calls Tryd.prog 6 #[(.int .u64 w), (.agg #[.int .i64 x, .int .i64 y, .int .u64 v]), (.agg #[.int .i64 x2, .int .i64 y2, .int .u64 v2])] w_ (Post Dg E_ G_ (HalfBack_out (HalfBack w x y v x2 y2 v2)) (HalfBack_nw (HalfBack w x y v x2 y2 v2)) (HalfBack_rows (HalfBack w x y v x2 y2 v2))) :=
  calls_post Dg T_l01_live_ok (I := []) Tryd.func6 mix (B := bodyOf Tryd.f6) (by kernel_rfl) [(.int .u64 w), (.agg #[.int .i64 x, .int .i64 y, .int .u64 v]), (.agg #[.int .i64 x2, .int .i64 y2, .int .u64 v2])] [.no, .no, .no] (by kernel_rfl) (objs := []) (ros := []) (psOk_cons pOk_no (psOk_cons pOk_no (psOk_cons pOk_no (psOk_nil)))) (by kernel_rfl) (trivial) hS 400
    (t := Tree.fresh fun b => Tree.fresh fun b_1 => Tree.br (!Prod.snd (half_Put w x y v)) (Tree.ret (Value.bool (Prod.fst (half_Put w x y v) == (0 : Int) && true)) pn_ [kc_ b 35 [(vi_ x, pn_), (vi_ y, pn_), (Value.int IntKind.u64 v, pn_)], kc_ b_1 35 [(vi_ x2, pn_), (vi_ y2, pn_), (Value.int IntKind.u64 v2, pn_)]]) (Tree.br (half_Get (Prod.fst (half_Put w x y v)) x y != v) (Tree.ret (Value.bool false) pn_ [kc_ b 35 [(vi_ x, pn_), (vi_ y, pn_), (Value.int IntKind.u64 v, pn_)], kc_ b_1 35 [(vi_ x2, pn_), (vi_ y2, pn_), (Value.int IntKind.u64 v2, pn_)]]) (Tree.br (!Prod.snd (half_Put (Prod.fst (half_Put w x y v)) x y (half_Get w x y)) || Prod.fst (half_Put (Prod.fst (half_Put w x y v)) x y (half_Get w x y)) != w) (Tree.ret (Value.bool false) pn_ [kc_ b 35 [(vi_ x, pn_), (vi_ y, pn_), (Value.int IntKind.u64 v, pn_)], kc_ b_1 35 [(vi_ x2, pn_), (vi_ y2, pn_), (Value.int IntKind.u64 v2, pn_)]]) (Tree.br (decide (x2 < (0 : Int)) || decide (x2 > (63 : Int)) || decide (y2 < (1 : Int)) || decide (y2 > IntKind.wrap IntKind.i64 ((64 : Int) - x2)) || decide (x2 < IntKind.wrap IntKind.i64 (x + y)) && decide (x < IntKind.wrap IntKind.i64 (x2 + y2))) (Tree.ret (Value.bool true) pn_ [kc_ b 35 [(vi_ x, pn_), (vi_ y, pn_), (Value.int IntKind.u64 v, pn_)], kc_ b_1 35 [(vi_ x2, pn_), (vi_ y2, pn_), (Value.int IntKind.u64 v2, pn_)]]) (Tree.ret (Value.bool (half_Get (Prod.fst (half_Put w x y v)) x2 y2 == half_Get w x2 y2 && true)) pn_ [kc_ b 35 [(vi_ x, pn_), (vi_ y, pn_), (Value.int IntKind.u64 v, pn_)], kc_ b_1 35 [(vi_ x2, pn_), (vi_ y2, pn_), (Value.int IntKind.u64 v2, pn_)]])))))
    (by kernel_rfl)
    (fun b0_0 => fun b1_0 => ⟨fun z2 => RetOk.at (outf := HalfBack_out) (nwf := HalfBack_nw) (rowsf := HalfBack_rows) (r := Prod.fst (half_Put w x y v) == (0 : Int) && true) (by first | exact Eq.symm ((cT z2).trans rfl) | (simp only [HalfBack, z2, cond_true, cond_false]; done) | (exfalso; simp_all; done) | decide) ⟨[], [], (by decide), rfl, rfl, trivial⟩, fun z2 => ⟨fun z3 => RetOk.at (outf := HalfBack_out) (nwf := HalfBack_nw) (rowsf := HalfBack_rows) (r := false) (by first | exact Eq.symm ((cF z2).trans ((cT z3).trans rfl)) | (simp only [HalfBack, z2, z3, cond_true, cond_false]; done) | (exfalso; simp_all; done) | decide) ⟨[], [], (by decide), rfl, rfl, trivial⟩, fun z3 => ⟨fun z4 => RetOk.at (outf := HalfBack_out) (nwf := HalfBack_nw) (rowsf := HalfBack_rows) (r := false) (by first | exact Eq.symm ((cF z2).trans ((cF z3).trans ((cT z4).trans rfl))) | (simp only [HalfBack, z2, z3, z4, cond_true, cond_false]; done) | (exfalso; simp_all; done) | decide) ⟨[], [], (by decide), rfl, rfl, trivial⟩, fun z4 => ⟨fun z5 => RetOk.at (outf := HalfBack_out) (nwf := HalfBack_nw) (rowsf := HalfBack_rows) (r := true) (by first | exact Eq.symm ((cF z2).trans ((cF z3).trans ((cF z4).trans ((cT z5).trans rfl)))) | (simp only [HalfBack, z2, z3, z4, z5, cond_true, cond_false]; done) | (exfalso; simp_all; done) | decide) ⟨[], [], (by decide), rfl, rfl, trivial⟩, fun z5 => RetOk.at (outf := HalfBack_out) (nwf := HalfBack_nw) (rowsf := HalfBack_rows) (r := half_Get (Prod.fst (half_Put w x y v)) x2 y2 == half_Get w x2 y2 && true) (by first | exact Eq.symm ((cF z2).trans ((cF z3).trans ((cF z4).trans ((cF z5).trans rfl)))) | (simp only [HalfBack, z2, z3, z4, z5, cond_true, cond_false]; done) | (exfalso; simp_all; done) | decide) ⟨[], [], (by decide), rfl, rfl, trivial⟩⟩⟩⟩⟩)
theorem HalfBack_plain {E_ : World} {G_ : Hp} {w_ : World} (hS : Sat E_ G_ w_ []) : Calls Tryd.prog 6 #[(.int .u64 w), (.agg #[.int .i64 x, .int .i64 y, .int .u64 v]), (.agg #[.int .i64 x2, .int .i64 y2, .int .u64 v2])] w_ (fun en w' => en = .returned (.bool ((HalfBack w x y v x2 y2 v2))) ∧ Sat E_ G_ w' []) := by
  have h := HalfBack_calls (E_ := E_) (G_ := G_) w x y v x2 y2 v2  hS
  refine h.mono fun en w' hp => ?_
  have hp' : Post Dg E_ G_ (fun _ => .bool ((HalfBack w x y v x2 y2 v2))) ([] : List (Chunk Sg)) [] en w' := hp
  rw [Post.plain] at hp'
  exact hp'
end
def HalfBack_e : Entry Sg := fun
  | [(.int .u64 w, _), (.agg ⟨[.int .i64 x, .int .i64 y, .int .u64 v]⟩, .none), (.agg ⟨[.int .i64 x2, .int .i64 y2, .int .u64 v2]⟩, .none)] => some ⟨(HalfBack w x y v x2 y2 v2), fun (r_ : Bool) => ⟨[], none, [], fun ss => .bool (r_), fun k_ => .no⟩⟩
  | _ => none
theorem HalfBack_ok : EntryOk Dg Tryd.prog 6 HalfBack_e := by
  intro args c r h hr_
  unfold HalfBack_e at h
  split at h
  · injection h with h; subst h; subst hr_
    refine ⟨fun K acs _ => pOk_no, fun hpre E G w hi hS => ?_⟩
    exact entry_post Dg (by exact rfl) (HalfBack_calls _ _ _ _ _ _ _  hS)
  · cases h
def T_HalfBack : List (Nat × Entry Sg) := (6, HalfBack_e) :: T_l01_live
theorem T_HalfBack_ok : TableOk Dg Tryd.prog T_HalfBack := TableOk.cons Dg HalfBack_ok T_l01_live_ok
end Go.Proofs.YtaenbinoejnecaaDoor

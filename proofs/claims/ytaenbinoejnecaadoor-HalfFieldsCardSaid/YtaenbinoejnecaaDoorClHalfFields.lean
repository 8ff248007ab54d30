/-
  HalfFields proved. Conditions: none.
-/
import Derived.Test.YtaenbinoejnecaaDoorTie
import Derived.Test.YtaenbinoejnecaaDoorCards
import Derived.LaidMore
import Derived.OpenShut
import Derived.Stop.Joined
import Derived.SevenTiedAt
import Derived.LaidLaws
import Derived.LaidHandle
import Derived.Lay
import Derived.Test.YtaenbinoejnecaaDoorSlL
import Derived.Test.YtaenbinoejnecaaDoorPlHalf3
namespace Go.Proofs.YtaenbinoejnecaaDoor
open Go.ChangeShapes Go.WideShapes Go.ChangeAt Go.RowKit Go.Joins Go.Sl

theorem HalfFields_own : ownKnob Tryd.prog.godebug = none := by kernel_rfl
theorem HalfFields_met (os : Os) (args : Array Value) : laidMetH Tryd.prog Rows.halfFieldsRow.laid ((World.doorLaid Tryd.prog 400 os).forCall (fun _ _ => 0) ⟨#[], args, []⟩).memory :=
  laidMetH_of_parts3 (fuel := 8) (laidMet_of_run' 8 (by kernel_rfl) (by kernel_rfl)) (by kernel_rfl) (by kernel_rfl)
theorem HalfFields_laidOut : laidOutB Tryd.prog = true := by kernel_rfl
set_option maxRecDepth 100000 in
theorem HalfFields_lifted (os : Os) (started : os.Started) (H : Type) (enc : TypeId × Value → H) :
    ReturnsInHanded {} Tryd.checked os 5 .any (fun w args => (Rows.halfFieldsSpec.pre enc Tryd.prog Tryd.f5 [] false w args ∧ laidMetH Tryd.prog Rows.halfFieldsRow.laid w) ∧ sizedMet enc Tryd.prog Tryd.f5 (OpenSpec.ofChange Rows.halfFieldsSpec) false w args) (Rows.halfFieldsSpec.post enc Tryd.prog Tryd.f5 false true false false) := by
  refine returnsInHanded_of_change_and (C := Tryd.checked) (X := fun w _ => laidMetH Tryd.prog Rows.halfFieldsRow.laid w) (fun _ _ _ hh h => h.of_heap hh) HalfFields_own started (by kernel_rfl) Tryd.func5
    (ChangeSpec.witness_shaped (enc := enc) (C := Tryd.checked) (os := os) (X := fun w _ => laidMetH Tryd.prog Rows.halfFieldsRow.laid w) false (World.doorLaid Tryd.prog 400 os) #[.int .u64 0, .agg #[.int .i64 0, .int .i64 0, .int .u64 0]] 8 rfl (World.shaped_of_RefB (by kernel_rfl) (by kernel_rfl)) (by kernel_rfl) (by kernel_rfl) (by kernel_rfl) (HalfFields_met os _)) ?_
  intro W base args ds gs before hval0 hW _ _ hL _
  have hval : ∀ (j : Nat) t v, Tryd.f5.params[j]? = some t → args[j]? = some v → Value.okWide Tryd.prog W .any base t v := hval0
  have hW' := hW
  obtain ⟨p, q, hA0, _, _, _, _⟩ := hW
  have hA : DataW.TrodAll enc Tryd.prog W 0 (fun _ => true) true Tryd.f5.params.toList args.toList ds p := hA0
  rw [Tryd.params5] at hA hval
  obtain ⟨v0, v1, d0, d1, p0, p1, rfl, rfl, _, h0, h1⟩ := trodAll_two hA
  obtain ⟨a0, rfl, _, _, wa0⟩ := open_int Tryd.underlying22 (hval 0 22 v0 rfl rfl) h0
  have ba0 := bd_u64 wa0
  obtain ⟨c1_0, c1_1, c1_2, y1_0, y1_1, y1_2, m1, rfl, rfl, _, hy1_0, hy1_1, hy1_2⟩ := open_agg3 Tryd.underlying35 (by kernel_rfl) (by kernel_rfl) (hval 1 35 v1 rfl rfl) h1
  obtain ⟨a1_0, e1_0, rfl, wa1_0⟩ := DataW.trod_int Tryd.underlying3 hy1_0
  have ba1_0 := bd_i64 wa1_0
  simp only [List.cons.injEq, and_true] at e1_0
  subst e1_0
  obtain ⟨a1_1, e1_1, rfl, wa1_1⟩ := DataW.trod_int Tryd.underlying3 hy1_1
  have ba1_1 := bd_i64 wa1_1
  simp only [List.cons.injEq, and_true] at e1_1
  subst e1_1
  obtain ⟨a1_2, e1_2, rfl, wa1_2⟩ := DataW.trod_int Tryd.underlying22 hy1_2
  have ba1_2 := bd_u64 wa1_2
  simp only [List.cons.injEq, and_true] at e1_2
  subst e1_2
  clear hA0 hval0
  refine (HalfFields_plain a0 a1_0 a1_1 a1_2 (Sat.start W)).mono fun e W' ⟨he, hS⟩ => ?_
  rw [show HalfFields a0 a1_0 a1_1 a1_2 = true from HalfFields_true ba0 ba1_0 ba1_1 ba1_2] at he
  subst he
  exact ⟨_, rfl, law_post 4 HalfFields_laidOut hW' rfl rfl Tryd.underlying4 (by kernel_rfl) ⟨rfl, rfl, rfl⟩ hS.below⟩

theorem HalfFields_row : Rows.HalfFieldsSaid :=
  OpenClaim.holds_of_wide 5 Tryd.f5 rfl rfl rfl rfl rfl rfl rfl ⟨rfl, rfl, rfl, rfl, rfl⟩ rfl rfl rfl rfl rfl (by kernel_rfl) Tryd.func5 (by kernel_rfl)
    (of_decide_eq_true (by kernel_rfl)) (by unfold Func.isWrapper; rw [if_neg (of_decide_eq_false (by kernel_rfl))]; exact ⟨rfl, rfl⟩)
    (fun os started H enc _ => HalfFields_lifted os started H enc)
theorem HalfFields_holds : Rows.HalfFieldsCardSaid :=
  Claim7.holds_tied_plain_at .later [] [.data] true (true, "2ca3a5f92ab485cbd961a932f3adc087a8538e8f8ba678991a3c50a0fa53245d") false
    HalfFields_row (fun _ h => by cases h) (by kernel_rfl) (fun _ h => by cases h) halfFields_row_tie rfl ⟨rfl, rfl⟩ (by kernel_rfl) rfl
    (fun f fn hf hfn => by
      obtain rfl : f = 5 := Option.some.inj ((show Tryd.prog.funcNamed "nacre/nacrelaw01.HalfFields" = some 5 by kernel_rfl).symm.trans hf) |>.symm
      obtain rfl : fn = Tryd.f5 := (Option.some.inj (Tryd.func5.symm.trans hfn)).symm
      exact ⟨by kernel_rfl, fun j t ht => by
        rw [Tryd.params5] at ht
        have hm : t ∈ [22, 35] := by simpa using Array.mem_of_getElem? ht
        have hall : ([22, 35].all fun u => !Tryd.prog.wantsStandIn u) = true := by kernel_rfl
        exact (show Tryd.prog.wantsStandIn t = false by simpa using List.all_eq_true.1 hall t hm)⟩)
    (by kernel_rfl)
#print axioms HalfFields_holds
end Go.Proofs.YtaenbinoejnecaaDoor

/-
  HalfJoins proved. Conditions: none.
-/
import Derived.Test.YtaenbinoejnecaaDoorTie
import Derived.Test.YtaenbinoejnecaaDoorCards
import Derived.LaidMore
import Derived.OpenShut
import Derived.Stop.Joined
import Derived.SevenTiedAt
import Derived.LaidLaws
import Derived.LaidHandle
import Derived.Lay
import Derived.Test.YtaenbinoejnecaaDoorSlL
import Derived.Test.YtaenbinoejnecaaDoorPlHalf
namespace Go.Proofs.YtaenbinoejnecaaDoor
open Go.ChangeShapes Go.WideShapes Go.ChangeAt Go.RowKit Go.Joins Go.Sl

theorem HalfJoins_own : ownKnob Tryd.prog.godebug = none := by kernel_rfl
theorem HalfJoins_met (os : Os) (args : Array Value) : laidMetH Tryd.prog Rows.halfJoinsRow.laid ((World.doorLaid Tryd.prog 400 os).forCall (fun _ _ => 0) ⟨#[], args, []⟩).memory :=
  laidMetH_of_parts3 (fuel := 8) (laidMet_of_run' 8 (by kernel_rfl) (by kernel_rfl)) (by kernel_rfl) (by kernel_rfl)
theorem HalfJoins_laidOut : laidOutB Tryd.prog = true := by kernel_rfl
set_option maxRecDepth 100000 in
theorem HalfJoins_lifted (os : Os) (started : os.Started) (H : Type) (enc : TypeId × Value → H) :
    ReturnsInHanded {} Tryd.checked os 3 .any (fun w args => (Rows.halfJoinsSpec.pre enc Tryd.prog Tryd.f3 [] false w args ∧ laidMetH Tryd.prog Rows.halfJoinsRow.laid w) ∧ sizedMet enc Tryd.prog Tryd.f3 (OpenSpec.ofChange Rows.halfJoinsSpec) false w args) (Rows.halfJoinsSpec.post enc Tryd.prog Tryd.f3 false true false false) := by
  refine returnsInHanded_of_change_and (C := Tryd.checked) (X := fun w _ => laidMetH Tryd.prog Rows.halfJoinsRow.laid w) (fun _ _ _ hh h => h.of_heap hh) HalfJoins_own started (by kernel_rfl) Tryd.func3
    (ChangeSpec.witness_shaped (enc := enc) (C := Tryd.checked) (os := os) (X := fun w _ => laidMetH Tryd.prog Rows.halfJoinsRow.laid w) false (World.doorLaid Tryd.prog 400 os) #[.int .u64 0, .int .u32 0, .int .u32 0] 8 rfl (World.shaped_of_RefB (by kernel_rfl) (by kernel_rfl)) (by kernel_rfl) (by kernel_rfl) (by kernel_rfl) (HalfJoins_met os _)) ?_
  intro W base args ds gs before hval0 hW _ _ hL _
  have hval : ∀ (j : Nat) t v, Tryd.f3.params[j]? = some t → args[j]? = some v → Value.okWide Tryd.prog W .any base t v := hval0
  have hW' := hW
  obtain ⟨p, q, hA0, _, _, _, _⟩ := hW
  have hA : DataW.TrodAll enc Tryd.prog W 0 (fun _ => true) true Tryd.f3.params.toList args.toList ds p := hA0
  rw [Tryd.params3] at hA hval
  obtain ⟨v0, v1, v2, d0, d1, d2, p0, p1, p2, rfl, rfl, _, h0, h1, h2⟩ := trodAll_three hA
  obtain ⟨a0, rfl, _, _, wa0⟩ := open_int Tryd.underlying22 (hval 0 22 v0 rfl rfl) h0
  have ba0 := bd_u64 wa0
  obtain ⟨a1, rfl, _, _, wa1⟩ := open_int Tryd.underlying23 (hval 1 23 v1 rfl rfl) h1
  have ba1 := bd_u32 wa1
  obtain ⟨a2, rfl, _, _, wa2⟩ := open_int Tryd.underlying23 (hval 2 23 v2 rfl rfl) h2
  have ba2 := bd_u32 wa2
  clear hA0 hval0
  refine (HalfJoins_plain a0 a1 a2 (Sat.start W)).mono fun e W' ⟨he, hS⟩ => ?_
  rw [show HalfJoins a0 a1 a2 = true from HalfJoins_true ba0 ba1 ba2] at he
  subst he
  exact ⟨_, rfl, law_post 4 HalfJoins_laidOut hW' rfl rfl Tryd.underlying4 (by kernel_rfl) ⟨rfl, rfl, rfl⟩ hS.below⟩

theorem HalfJoins_row : Rows.HalfJoinsSaid :=
  OpenClaim.holds_of_wide 3 Tryd.f3 rfl rfl rfl rfl rfl rfl rfl ⟨rfl, rfl, rfl, rfl, rfl⟩ rfl rfl rfl rfl rfl (by kernel_rfl) Tryd.func3 (by kernel_rfl)
    (of_decide_eq_true (by kernel_rfl)) (by unfold Func.isWrapper; rw [if_neg (of_decide_eq_false (by kernel_rfl))]; exact ⟨rfl, rfl⟩)
    (fun os started H enc _ => HalfJoins_lifted os started H enc)
theorem HalfJoins_holds : Rows.HalfJoinsCardSaid :=
  Claim7.holds_tied_plain_at .later [] [.data] true (true, "2ca3a5f92ab485cbd961a932f3adc087a8538e8f8ba678991a3c50a0fa53245d") false
    HalfJoins_row (fun _ h => by cases h) (by kernel_rfl) (fun _ h => by cases h) halfJoins_row_tie rfl ⟨rfl, rfl⟩ (by kernel_rfl) rfl
    (fun f fn hf hfn => by
      obtain rfl : f = 3 := Option.some.inj ((show Tryd.prog.funcNamed "nacre/nacrelaw01.HalfJoins" = some 3 by kernel_rfl).symm.trans hf) |>.symm
      obtain rfl : fn = Tryd.f3 := (Option.some.inj (Tryd.func3.symm.trans hfn)).symm
      exact ⟨by kernel_rfl, fun j t ht => by
        rw [Tryd.params3] at ht
        have hm : t ∈ [22, 23, 23] := by simpa using Array.mem_of_getElem? ht
        have hall : ([22, 23, 23].all fun u => !Tryd.prog.wantsStandIn u) = true := by kernel_rfl
        exact (show Tryd.prog.wantsStandIn t = false by simpa using List.all_eq_true.1 hall t hm)⟩)
    (by kernel_rfl)
#print axioms HalfJoins_holds
end Go.Proofs.YtaenbinoejnecaaDoor

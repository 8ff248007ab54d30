/-
  The law InfoGets of layer 9 returns true for every value, and leaves its argument as it was. Conditions: none.
-/
import Derived.Test.YtaenbinoejnecaaRows
import Derived.Test.YtaenbinoejnecaaSlL
import Derived.Test.YtaenbinoejnecaaPlInfo
namespace Go.Proofs.Ytaenbinoejnecaa
open Go.ChangeShapes Go.WideShapes Go.ChangeAt Go.RowKit Go.Joins Go.Sl

theorem InfoGets_own : ownKnob Try.prog.godebug = none := by kernel_rfl
theorem InfoGets_laidOut : laidOutB Try.prog = true := by kernel_rfl
set_option maxRecDepth 100000 in
theorem InfoGets_lifted (os : Os) (started : os.Started) (H : Type) (enc : TypeId × Value → H) :
    ReturnsInHanded {} Try.checked os 7 .any (Rows.infoGetsSpec.pre6 enc Try.prog Try.f7 Rows.infoGetsRow.domain false) (Rows.infoGetsSpec.post enc Try.prog Try.f7 false true false false) := by
  refine returnsInHanded_of_change (C := Try.checked) InfoGets_own started (by kernel_rfl) Try.func7
    (ChangeSpec.witness6 (enc := enc) (C := Try.checked) false ⟨#[], #[.int .u32 0], []⟩ 8 (by kernel_rfl) (by kernel_rfl) (by kernel_rfl) (by kernel_rfl)) ?_
  intro W base args ds gs before hval0 hW _ _
  have hval : ∀ (j : Nat) t v, Try.f7.params[j]? = some t → args[j]? = some v → Value.okWide Try.prog W .any base t v := hval0
  have hW' := hW
  obtain ⟨p, q, hA0, _, _, _, _⟩ := hW
  have hA : DataW.TrodAll enc Try.prog W 0 (fun _ => true) true Try.f7.params.toList args.toList ds p := hA0
  rw [Try.params7] at hA hval
  obtain ⟨v0, d0, rfl, rfl, h0⟩ := trodAll_one hA
  obtain ⟨a0, rfl, _, _, wa0⟩ := open_int Try.underlying24 (hval 0 24 v0 rfl rfl) h0
  have ba0 := bd_u32 wa0
  clear hA0 hval0
  refine (InfoGets_calls a0 (Sat.start W)).mono fun e W' ⟨he, hS⟩ => ?_
  rw [InfoGets_true ba0.1 ba0.2] at he
  subst he
  exact ⟨_, rfl, law_post 4 InfoGets_laidOut hW' rfl rfl Try.underlying4 (by kernel_rfl) ⟨rfl, rfl, rfl⟩ hS.below⟩

theorem InfoGets_holds : Rows.InfoGetsSaid :=
  OpenClaim.holds_of_wide 7 Try.f7 rfl rfl rfl rfl rfl rfl rfl ⟨rfl, rfl, rfl, rfl, rfl⟩ rfl rfl rfl rfl rfl (by kernel_rfl) Try.func7 (by kernel_rfl)
    (of_decide_eq_true (by kernel_rfl)) (by unfold Func.isWrapper; rw [if_neg (of_decide_eq_false (by kernel_rfl))]; exact ⟨rfl, rfl⟩)
    (fun os started H enc _ => InfoGets_lifted os started H enc)
#print axioms InfoGets_holds
end Go.Proofs.Ytaenbinoejnecaa

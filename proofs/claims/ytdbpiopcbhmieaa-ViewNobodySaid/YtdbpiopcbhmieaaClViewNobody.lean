/-
  What is no View has no cells: the law's function answers true for every cell and value. Conditions: none.
-/
import Derived.Test.YtdbpiopcbhmieaaRows
import Derived.Test.YtdbpiopcbhmieaaSlL
import Derived.Test.YtdbpiopcbhmieaaSlView10
namespace Go.Proofs.Ytdbpiopcbhmieaa
open Go.ChangeShapes Go.WideShapes Go.ChangeAt Go.RowKit Go.Joins Go.Sl

theorem ViewNobody_own : ownKnob Try.prog.godebug = none := by kernel_rfl
theorem ViewNobody_laidOut : laidOutB Try.prog = true := by kernel_rfl
set_option maxRecDepth 100000 in
theorem ViewNobody_lifted (os : Os) (started : os.Started) (H : Type) (enc : TypeId × Value → H) :
    ReturnsInHanded {} Try.checked os 5 .any (Rows.viewNobodySpec.pre6 enc Try.prog Try.f5 Rows.viewNobodyRow.domain false) (Rows.viewNobodySpec.post enc Try.prog Try.f5 false true false false) := by
  refine returnsInHanded_of_change (C := Try.checked) ViewNobody_own started (by kernel_rfl) Try.func5
    (ChangeSpec.witness6 (enc := enc) (C := Try.checked) false ⟨#[], #[.int .i64 0, .int .u32 0], []⟩ 8 (by kernel_rfl) (by kernel_rfl) (by kernel_rfl) (by kernel_rfl)) ?_
  intro W base args ds gs before hval0 hW _ _
  have hval : ∀ (j : Nat) t v, Try.f5.params[j]? = some t → args[j]? = some v → Value.okWide Try.prog W .any base t v := hval0
  have hW' := hW
  obtain ⟨p, q, hA0, _, _, _, _⟩ := hW
  have hA : DataW.TrodAll enc Try.prog W 0 (fun _ => true) true Try.f5.params.toList args.toList ds p := hA0
  rw [Try.params5] at hA hval
  obtain ⟨v0, v1, d0, d1, p0, p1, rfl, rfl, _, h0, h1⟩ := trodAll_two hA
  obtain ⟨a0, rfl, _, _, wa0⟩ := open_int Try.underlying3 (hval 0 3 v0 rfl rfl) h0
  have ba0 := bd_i64 wa0
  obtain ⟨a1, rfl, _, _, wa1⟩ := open_int Try.underlying32 (hval 1 32 v1 rfl rfl) h1
  have ba1 := bd_u32 wa1
  clear hA0 hval0
  refine (ViewNobody_plain a0 a1 (Sat.start W)).mono fun e W' ⟨he, hS⟩ => ?_
  rw [show ViewNobody a0 a1 = true from rfl] at he
  subst he
  exact ⟨_, rfl, law_post 4 ViewNobody_laidOut hW' rfl rfl Try.underlying4 (by kernel_rfl) ⟨rfl, rfl, rfl⟩ hS.below⟩

theorem ViewNobody_holds : Rows.ViewNobodySaid :=
  OpenClaim.holds_of_wide 5 Try.f5 rfl rfl rfl rfl rfl rfl rfl ⟨rfl, rfl, rfl, rfl, rfl⟩ rfl rfl rfl rfl rfl (by kernel_rfl) Try.func5 (by kernel_rfl)
    (of_decide_eq_true (by kernel_rfl)) (by unfold Func.isWrapper; rw [if_neg (of_decide_eq_false (by kernel_rfl))]; exact ⟨rfl, rfl⟩)
    (fun os started H enc _ => ViewNobody_lifted os started H enc)
#print axioms ViewNobody_holds
end Go.Proofs.Ytdbpiopcbhmieaa

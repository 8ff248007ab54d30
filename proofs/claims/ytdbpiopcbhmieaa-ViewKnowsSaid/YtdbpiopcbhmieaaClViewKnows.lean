/-
  A View that knows just what was read tells, and does, the same as one that knows all; one that knows fewer of these reads asks for the next one: the law's function answers true for every values, touches and number. Conditions: none.
-/
import Derived.Test.YtdbpiopcbhmieaaRows
import Derived.Test.YtdbpiopcbhmieaaSlS
import Derived.Test.YtdbpiopcbhmieaaSlView11
namespace Go.Proofs.Ytdbpiopcbhmieaa
open Go.ChangeShapes Go.WideShapes Go.ChangeAt Go.RowKit Go.Joins Go.Sl
set_option linter.unusedVariables false

theorem ViewKnows_own : ownKnob Try.prog.godebug = none := by kernel_rfl
theorem ViewKnows_laidOut : laidOutB Try.prog = true := by kernel_rfl
set_option maxRecDepth 100000 in
theorem ViewKnows_lifted (os : Os) (started : os.Started) (H : Type) (enc : TypeId × Value → H) :
    ReturnsInHanded {} Try.checked os 4 .any (Rows.viewKnowsSpec.pre6 enc Try.prog Try.f4 Rows.viewKnowsRow.domain false) (Rows.viewKnowsSpec.post enc Try.prog Try.f4 false true false false) := by
  refine returnsInHanded_of_change (C := Try.checked) ViewKnows_own started (by kernel_rfl) Try.func4
    (ChangeSpec.witness6 (enc := enc) (C := Try.checked) false ⟨#[], #[.slice none 0 0, .slice none 0 0, .int .i64 0], []⟩ 8 (by kernel_rfl) (by kernel_rfl) (by kernel_rfl) (by kernel_rfl)) ?_
  intro W base args ds gs before hval0 hW _ _
  have hval : ∀ (j : Nat) t v, Try.f4.params[j]? = some t → args[j]? = some v → Value.okWide Try.prog W .any base t v := hval0
  have hW' := hW
  obtain ⟨p, q, hA0, _, _, _, _⟩ := hW
  have hA : DataW.TrodAll enc Try.prog W 0 (fun _ => true) true Try.f4.params.toList args.toList ds p := hA0
  rw [Try.params4] at hA hval
  obtain ⟨v0, v1, v2, d0, d1, d2, p0, p1, p2, rfl, rfl, _, h0, h1, h2⟩ := trodAll_three hA
  obtain ⟨s0, n0, c0, k0, rfl, hk0, hr0⟩ := open_rows 8 Try.underlying22 (sh := [.int .u32]) (by kernel_rfl) (by kernel_rfl) (hval 0 22 v0 rfl rfl) h0
  obtain ⟨_, r0_0, rfl, ⟨x0_0, rfl, hl0_0, hw0_0⟩, hk0⟩ := hk0
  obtain rfl := hk0
  subst hl0_0
  obtain ⟨s1, n1, c1, k1, rfl, hk1, hr1⟩ := open_rows 8 Try.underlying24 (sh := [.bool, .int .i64, .int .u32]) (by kernel_rfl) (by kernel_rfl) (hval 1 24 v1 rfl rfl) h1
  obtain ⟨_, r1_0, rfl, ⟨x1_0, rfl, hl1_0⟩, hk1⟩ := hk1
  obtain ⟨_, r1_1, rfl, ⟨x1_1, rfl, hl1_1, hw1_1⟩, hk1⟩ := hk1
  obtain ⟨_, r1_2, rfl, ⟨x1_2, rfl, hl1_2, hw1_2⟩, hk1⟩ := hk1
  obtain rfl := hk1
  subst hl1_0
  obtain ⟨a2, rfl, _, _, wa2⟩ := open_int Try.underlying3 (hval 2 3 v2 rfl rfl) h2
  have ba2 := bd_i64 wa2
  clear hA0 hval0
  refine (ViewKnows_plain x0_0 x1_0 x1_1 x1_2 a2 s0 c0 s1 c1 hr0 hr1 (fun v hv => bd_u32 (hw0_0 v hv)) (fun v hv => bd_u32 (hw1_2 v hv)) hl1_2.symm (Sat.start W)).mono fun e W' ⟨he, hS⟩ => ?_
  rw [show ViewKnows x0_0 x1_0 x1_1 x1_2 a2 = true from rfl] at he
  subst he
  exact ⟨_, rfl, law_post 4 ViewKnows_laidOut hW' rfl rfl Try.underlying4 (by kernel_rfl) ⟨rfl, rfl, rfl⟩ hS.below⟩

theorem ViewKnows_holds : Rows.ViewKnowsSaid :=
  OpenClaim.holds_of_wide 4 Try.f4 rfl rfl rfl rfl rfl rfl rfl ⟨rfl, rfl, rfl, rfl, rfl⟩ rfl rfl rfl rfl rfl (by kernel_rfl) Try.func4 (by kernel_rfl)
    (of_decide_eq_true (by kernel_rfl)) (by unfold Func.isWrapper; rw [if_neg (of_decide_eq_false (by kernel_rfl))]; exact ⟨rfl, rfl⟩)
    (fun os started H enc _ => ViewKnows_lifted os started H enc)
#print axioms ViewKnows_holds
end Go.Proofs.Ytdbpiopcbhmieaa

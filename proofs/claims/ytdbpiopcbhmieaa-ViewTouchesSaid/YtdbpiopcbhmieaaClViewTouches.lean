/-
  What every touches tell of a View that knows all cells, or some, and what was read, written and is missing, is what the document says: the law's function answers true for every values, cells and touches. Conditions: none.
-/
import Derived.Test.YtdbpiopcbhmieaaRows
import Derived.Test.YtdbpiopcbhmieaaSlS
import Derived.Test.YtdbpiopcbhmieaaSlView9b
namespace Go.Proofs.Ytdbpiopcbhmieaa
open Go.ChangeShapes Go.WideShapes Go.ChangeAt Go.RowKit Go.Joins Go.Sl
set_option linter.unusedVariables false

theorem ViewTouches_own : ownKnob Try.prog.godebug = none := by kernel_rfl
theorem ViewTouches_laidOut : laidOutB Try.prog = true := by kernel_rfl
set_option maxRecDepth 100000 in
theorem ViewTouches_lifted (os : Os) (started : os.Started) (H : Type) (enc : TypeId × Value → H) :
    ReturnsInHanded {} Try.checked os 3 .any (Rows.viewTouchesSpec.pre6 enc Try.prog Try.f3 Rows.viewTouchesRow.domain false) (Rows.viewTouchesSpec.post enc Try.prog Try.f3 false true false false) := by
  refine returnsInHanded_of_change (C := Try.checked) ViewTouches_own started (by kernel_rfl) Try.func3
    (ChangeSpec.witness6 (enc := enc) (C := Try.checked) false ⟨#[], #[.slice none 0 0, .slice none 0 0, .slice none 0 0], []⟩ 8 (by kernel_rfl) (by kernel_rfl) (by kernel_rfl) (by kernel_rfl)) ?_
  intro W base args ds gs before hval0 hW _ _
  have hval : ∀ (j : Nat) t v, Try.f3.params[j]? = some t → args[j]? = some v → Value.okWide Try.prog W .any base t v := hval0
  have hW' := hW
  obtain ⟨p, q, hA0, _, _, _, _⟩ := hW
  have hA : DataW.TrodAll enc Try.prog W 0 (fun _ => true) true Try.f3.params.toList args.toList ds p := hA0
  rw [Try.params3] at hA hval
  obtain ⟨v0, v1, v2, d0, d1, d2, p0, p1, p2, rfl, rfl, _, h0, h1, h2⟩ := trodAll_three hA
  obtain ⟨s0, n0, c0, k0, rfl, hk0, hr0⟩ := open_rows 8 Try.underlying22 (sh := [.int .u32]) (by kernel_rfl) (by kernel_rfl) (hval 0 22 v0 rfl rfl) h0
  obtain ⟨_, r0_0, rfl, ⟨x0_0, rfl, hl0_0, hw0_0⟩, hk0⟩ := hk0
  obtain rfl := hk0
  subst hl0_0
  obtain ⟨s1, n1, c1, k1, rfl, hk1, hr1⟩ := open_rows 8 Try.underlying23 (sh := [.int .i64, .int .u32]) (by kernel_rfl) (by kernel_rfl) (hval 1 23 v1 rfl rfl) h1
  obtain ⟨_, r1_0, rfl, ⟨x1_0, rfl, hl1_0, hw1_0⟩, hk1⟩ := hk1
  obtain ⟨_, r1_1, rfl, ⟨x1_1, rfl, hl1_1, hw1_1⟩, hk1⟩ := hk1
  obtain rfl := hk1
  subst hl1_0
  obtain ⟨s2, n2, c2, k2, rfl, hk2, hr2⟩ := open_rows 8 Try.underlying24 (sh := [.bool, .int .i64, .int .u32]) (by kernel_rfl) (by kernel_rfl) (hval 2 24 v2 rfl rfl) h2
  obtain ⟨_, r2_0, rfl, ⟨x2_0, rfl, hl2_0⟩, hk2⟩ := hk2
  obtain ⟨_, r2_1, rfl, ⟨x2_1, rfl, hl2_1, hw2_1⟩, hk2⟩ := hk2
  obtain ⟨_, r2_2, rfl, ⟨x2_2, rfl, hl2_2, hw2_2⟩, hk2⟩ := hk2
  obtain rfl := hk2
  subst hl2_0
  clear hA0 hval0
  refine (ViewTouches_plain x0_0 x1_0 x1_1 x2_0 x2_1 x2_2 s0 c0 s1 c1 s2 c2 hr0 hr1 hr2 (fun v hv => bd_u32 (hw0_0 v hv)) (fun v hv => bd_u32 (hw1_1 v hv)) (fun v hv => bd_u32 (hw2_2 v hv)) hl1_1.symm hl2_2.symm (Sat.start W)).mono fun e W' ⟨he, hS⟩ => ?_
  rw [show ViewTouches x0_0 x1_0 x1_1 x2_0 x2_1 x2_2 = true from rfl] at he
  subst he
  exact ⟨_, rfl, law_post 4 ViewTouches_laidOut hW' rfl rfl Try.underlying4 (by kernel_rfl) ⟨rfl, rfl, rfl⟩ hS.below⟩

theorem ViewTouches_holds : Rows.ViewTouchesSaid :=
  OpenClaim.holds_of_wide 3 Try.f3 rfl rfl rfl rfl rfl rfl rfl ⟨rfl, rfl, rfl, rfl, rfl⟩ rfl rfl rfl rfl rfl (by kernel_rfl) Try.func3 (by kernel_rfl)
    (of_decide_eq_true (by kernel_rfl)) (by unfold Func.isWrapper; rw [if_neg (of_decide_eq_false (by kernel_rfl))]; exact ⟨rfl, rfl⟩)
    (fun os started H enc _ => ViewTouches_lifted os started H enc)
#print axioms ViewTouches_holds
end Go.Proofs.Ytdbpiopcbhmieaa

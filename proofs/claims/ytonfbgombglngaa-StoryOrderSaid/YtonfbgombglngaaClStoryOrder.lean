/-
  Of a story that fits: no call is before itself, what is before one is before what that is before, and of two calls of one thread one is before the other: the law's function answers true for every configuration and events. Conditions: none.
-/
import Derived.Test.YtonfbgombglngaaRows
import Derived.Test.YtonfbgombglngaaSlS
import Derived.Test.YtonfbgombglngaaSlStory8
import Derived.Test.YtonfbgombglngaaSlL
namespace Go.Proofs.Ytonfbgombglngaa
open Go.ChangeShapes Go.WideShapes Go.ChangeAt Go.RowKit Go.Joins Go.Sl
set_option linter.unusedVariables false

theorem StoryOrder_own : ownKnob Try.prog.godebug = none := by kernel_rfl
theorem StoryOrder_laidOut : laidOutB Try.prog = true := by kernel_rfl
set_option maxRecDepth 100000 in
theorem StoryOrder_lifted (os : Os) (started : os.Started) (H : Type) (enc : TypeId × Value → H) :
    ReturnsInHanded {} Try.checked os 6 .any (Rows.storyOrderSpec.pre6 enc Try.prog Try.f6 Rows.storyOrderRow.domain false) (Rows.storyOrderSpec.post enc Try.prog Try.f6 false true false false) := by
  refine returnsInHanded_of_change (C := Try.checked) StoryOrder_own started (by kernel_rfl) Try.func6
    (ChangeSpec.witness6 (enc := enc) (C := Try.checked) false ⟨#[], #[.agg #[.int .i64 0, .int .i64 0, .int .i64 0], .slice none 0 0], []⟩ 8 (by kernel_rfl) (by kernel_rfl) (by kernel_rfl) (by kernel_rfl)) ?_
  intro W base args ds gs before hval0 hW _ _
  have hval : ∀ (j : Nat) t v, Try.f6.params[j]? = some t → args[j]? = some v → Value.okWide Try.prog W .any base t v := hval0
  have hW' := hW
  obtain ⟨p, q, hA0, _, _, _, _⟩ := hW
  have hA : DataW.TrodAll enc Try.prog W 0 (fun _ => true) true Try.f6.params.toList args.toList ds p := hA0
  rw [Try.params6] at hA hval
  obtain ⟨v0, v1, d0, d1, p0, p1, rfl, rfl, _, h0, h1⟩ := trodAll_two hA
  obtain ⟨k0, rfl, hk0⟩ := open_flat 8 (by kernel_rfl) (sh := [.int .i64, .int .i64, .int .i64]) (by kernel_rfl) (hval 0 39 v0 rfl rfl) h0
  obtain ⟨_, r0_0, rfl, ⟨a0_0, rfl, wa0_0⟩, hk0⟩ := hk0
  have ba0_0 := bd_i64 wa0_0
  obtain ⟨_, r0_1, rfl, ⟨a0_1, rfl, wa0_1⟩, hk0⟩ := hk0
  have ba0_1 := bd_i64 wa0_1
  obtain ⟨_, r0_2, rfl, ⟨a0_2, rfl, wa0_2⟩, hk0⟩ := hk0
  have ba0_2 := bd_i64 wa0_2
  obtain rfl := hk0
  obtain ⟨s1, n1, c1, k1, rfl, hk1, hr1⟩ := open_rows 8 Try.underlying40 (sh := [.int .i64, .int .i64, .int .i64, .int .i64, .int .i64, .int .i64, .int .i64, .int .i64, .int .i64, .int .i64, .int .i64, .int .i64, .int .i64, .int .i64, .int .i64, .int .i64, .int .i64]) (by kernel_rfl) (by kernel_rfl) (hval 1 40 v1 rfl rfl) h1
  obtain ⟨_, r1_0, rfl, ⟨x1_0, rfl, hl1_0, hw1_0⟩, hk1⟩ := hk1
  obtain ⟨_, r1_1, rfl, ⟨x1_1, rfl, hl1_1, hw1_1⟩, hk1⟩ := hk1
  obtain ⟨_, r1_2, rfl, ⟨x1_2, rfl, hl1_2, hw1_2⟩, hk1⟩ := hk1
  obtain ⟨_, r1_3, rfl, ⟨x1_3, rfl, hl1_3, hw1_3⟩, hk1⟩ := hk1
  obtain ⟨_, r1_4, rfl, ⟨x1_4, rfl, hl1_4, hw1_4⟩, hk1⟩ := hk1
  obtain ⟨_, r1_5, rfl, ⟨x1_5, rfl, hl1_5, hw1_5⟩, hk1⟩ := hk1
  obtain ⟨_, r1_6, rfl, ⟨x1_6, rfl, hl1_6, hw1_6⟩, hk1⟩ := hk1
  obtain ⟨_, r1_7, rfl, ⟨x1_7, rfl, hl1_7, hw1_7⟩, hk1⟩ := hk1
  obtain ⟨_, r1_8, rfl, ⟨x1_8, rfl, hl1_8, hw1_8⟩, hk1⟩ := hk1
  obtain ⟨_, r1_9, rfl, ⟨x1_9, rfl, hl1_9, hw1_9⟩, hk1⟩ := hk1
  obtain ⟨_, r1_10, rfl, ⟨x1_10, rfl, hl1_10, hw1_10⟩, hk1⟩ := hk1
  obtain ⟨_, r1_11, rfl, ⟨x1_11, rfl, hl1_11, hw1_11⟩, hk1⟩ := hk1
  obtain ⟨_, r1_12, rfl, ⟨x1_12, rfl, hl1_12, hw1_12⟩, hk1⟩ := hk1
  obtain ⟨_, r1_13, rfl, ⟨x1_13, rfl, hl1_13, hw1_13⟩, hk1⟩ := hk1
  obtain ⟨_, r1_14, rfl, ⟨x1_14, rfl, hl1_14, hw1_14⟩, hk1⟩ := hk1
  obtain ⟨_, r1_15, rfl, ⟨x1_15, rfl, hl1_15, hw1_15⟩, hk1⟩ := hk1
  obtain ⟨_, r1_16, rfl, ⟨x1_16, rfl, hl1_16, hw1_16⟩, hk1⟩ := hk1
  obtain rfl := hk1
  subst hl1_0
  clear hA0 hval0
  refine (StoryOrder_plain a0_0 a0_1 a0_2 x1_0 x1_1 x1_2 x1_3 x1_4 x1_5 x1_6 x1_7 x1_8 x1_9 x1_10 x1_11 x1_12 x1_13 x1_14 x1_15 x1_16 s1 c1 hr1 (Sat.start W)).mono fun e W' ⟨he, hS⟩ => ?_
  rw [show StoryOrder a0_0 a0_1 a0_2 x1_0 x1_1 x1_2 x1_3 x1_4 x1_5 x1_6 x1_7 x1_8 x1_9 x1_10 x1_11 x1_12 x1_13 x1_14 x1_15 x1_16 = true from rfl] at he
  subst he
  exact ⟨_, rfl, law_post 4 StoryOrder_laidOut hW' rfl rfl Try.underlying4 (by kernel_rfl) ⟨rfl, rfl, rfl⟩ hS.below⟩

theorem StoryOrder_holds : Rows.StoryOrderSaid :=
  OpenClaim.holds_of_wide 6 Try.f6 rfl rfl rfl rfl rfl rfl rfl ⟨rfl, rfl, rfl, rfl, rfl⟩ rfl rfl rfl rfl rfl (by kernel_rfl) Try.func6 (by kernel_rfl)
    (of_decide_eq_true (by kernel_rfl)) (by unfold Func.isWrapper; rw [if_neg (of_decide_eq_false (by kernel_rfl))]; exact ⟨rfl, rfl⟩)
    (fun os started H enc _ => StoryOrder_lifted os started H enc)
#print axioms StoryOrder_holds
end Go.Proofs.Ytonfbgombglngaa

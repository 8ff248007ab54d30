/-
  Which operations every events tell of, and which of two are over ahead of the other one, is as the document says: the law's function answers true for every events and calls. Conditions: none.
-/
import Derived.Test.YtonfbgombglngaaRows
import Derived.Test.YtonfbgombglngaaSlS
import Derived.Test.YtonfbgombglngaaSlStory7
import Derived.Test.YtonfbgombglngaaSlL
namespace Go.Proofs.Ytonfbgombglngaa
open Go.ChangeShapes Go.WideShapes Go.ChangeAt Go.RowKit Go.Joins Go.Sl
set_option linter.unusedVariables false

theorem StoryCalls_own : ownKnob Try.prog.godebug = none := by kernel_rfl
theorem StoryCalls_laidOut : laidOutB Try.prog = true := by kernel_rfl
set_option maxRecDepth 100000 in
theorem StoryCalls_lifted (os : Os) (started : os.Started) (H : Type) (enc : TypeId × Value → H) :
    ReturnsInHanded {} Try.checked os 5 .any (Rows.storyCallsSpec.pre6 enc Try.prog Try.f5 Rows.storyCallsRow.domain false) (Rows.storyCallsSpec.post enc Try.prog Try.f5 false true false false) := by
  refine returnsInHanded_of_change (C := Try.checked) StoryCalls_own started (by kernel_rfl) Try.func5
    (ChangeSpec.witness6 (enc := enc) (C := Try.checked) false ⟨#[], #[.slice none 0 0, .agg #[.int .i64 0, .int .i64 0, .int .i64 0, .int .i64 0, .int .i64 0, .int .i64 0, .int .i64 0, .int .i64 0, .int .i64 0, .int .i64 0, .int .i64 0], .agg #[.int .i64 0, .int .i64 0, .int .i64 0, .int .i64 0, .int .i64 0, .int .i64 0, .int .i64 0, .int .i64 0, .int .i64 0, .int .i64 0, .int .i64 0]], []⟩ 8 (by kernel_rfl) (by kernel_rfl) (by kernel_rfl) (by kernel_rfl)) ?_
  intro W base args ds gs before hval0 hW _ _
  have hval : ∀ (j : Nat) t v, Try.f5.params[j]? = some t → args[j]? = some v → Value.okWide Try.prog W .any base t v := hval0
  have hW' := hW
  obtain ⟨p, q, hA0, _, _, _, _⟩ := hW
  have hA : DataW.TrodAll enc Try.prog W 0 (fun _ => true) true Try.f5.params.toList args.toList ds p := hA0
  rw [Try.params5] at hA hval
  obtain ⟨v0, v1, v2, d0, d1, d2, p0, p1, p2, rfl, rfl, _, h0, h1, h2⟩ := trodAll_three hA
  obtain ⟨s0, n0, c0, k0, rfl, hk0, hr0⟩ := open_rows 8 Try.underlying40 (sh := [.int .i64, .int .i64, .int .i64, .int .i64, .int .i64, .int .i64, .int .i64, .int .i64, .int .i64, .int .i64, .int .i64, .int .i64, .int .i64, .int .i64, .int .i64, .int .i64, .int .i64]) (by kernel_rfl) (by kernel_rfl) (hval 0 40 v0 rfl rfl) h0
  obtain ⟨_, r0_0, rfl, ⟨x0_0, rfl, hl0_0, hw0_0⟩, hk0⟩ := hk0
  obtain ⟨_, r0_1, rfl, ⟨x0_1, rfl, hl0_1, hw0_1⟩, hk0⟩ := hk0
  obtain ⟨_, r0_2, rfl, ⟨x0_2, rfl, hl0_2, hw0_2⟩, hk0⟩ := hk0
  obtain ⟨_, r0_3, rfl, ⟨x0_3, rfl, hl0_3, hw0_3⟩, hk0⟩ := hk0
  obtain ⟨_, r0_4, rfl, ⟨x0_4, rfl, hl0_4, hw0_4⟩, hk0⟩ := hk0
  obtain ⟨_, r0_5, rfl, ⟨x0_5, rfl, hl0_5, hw0_5⟩, hk0⟩ := hk0
  obtain ⟨_, r0_6, rfl, ⟨x0_6, rfl, hl0_6, hw0_6⟩, hk0⟩ := hk0
  obtain ⟨_, r0_7, rfl, ⟨x0_7, rfl, hl0_7, hw0_7⟩, hk0⟩ := hk0
  obtain ⟨_, r0_8, rfl, ⟨x0_8, rfl, hl0_8, hw0_8⟩, hk0⟩ := hk0
  obtain ⟨_, r0_9, rfl, ⟨x0_9, rfl, hl0_9, hw0_9⟩, hk0⟩ := hk0
  obtain ⟨_, r0_10, rfl, ⟨x0_10, rfl, hl0_10, hw0_10⟩, hk0⟩ := hk0
  obtain ⟨_, r0_11, rfl, ⟨x0_11, rfl, hl0_11, hw0_11⟩, hk0⟩ := hk0
  obtain ⟨_, r0_12, rfl, ⟨x0_12, rfl, hl0_12, hw0_12⟩, hk0⟩ := hk0
  obtain ⟨_, r0_13, rfl, ⟨x0_13, rfl, hl0_13, hw0_13⟩, hk0⟩ := hk0
  obtain ⟨_, r0_14, rfl, ⟨x0_14, rfl, hl0_14, hw0_14⟩, hk0⟩ := hk0
  obtain ⟨_, r0_15, rfl, ⟨x0_15, rfl, hl0_15, hw0_15⟩, hk0⟩ := hk0
  obtain ⟨_, r0_16, rfl, ⟨x0_16, rfl, hl0_16, hw0_16⟩, hk0⟩ := hk0
  obtain rfl := hk0
  subst hl0_0
  obtain ⟨k1, rfl, hk1⟩ := open_flat 8 (by kernel_rfl) (sh := [.int .i64, .int .i64, .int .i64, .int .i64, .int .i64, .int .i64, .int .i64, .int .i64, .int .i64, .int .i64, .int .i64]) (by kernel_rfl) (hval 1 50 v1 rfl rfl) h1
  obtain ⟨_, r1_0, rfl, ⟨a1_0, rfl, wa1_0⟩, hk1⟩ := hk1
  have ba1_0 := bd_i64 wa1_0
  obtain ⟨_, r1_1, rfl, ⟨a1_1, rfl, wa1_1⟩, hk1⟩ := hk1
  have ba1_1 := bd_i64 wa1_1
  obtain ⟨_, r1_2, rfl, ⟨a1_2, rfl, wa1_2⟩, hk1⟩ := hk1
  have ba1_2 := bd_i64 wa1_2
  obtain ⟨_, r1_3, rfl, ⟨a1_3, rfl, wa1_3⟩, hk1⟩ := hk1
  have ba1_3 := bd_i64 wa1_3
  obtain ⟨_, r1_4, rfl, ⟨a1_4, rfl, wa1_4⟩, hk1⟩ := hk1
  have ba1_4 := bd_i64 wa1_4
  obtain ⟨_, r1_5, rfl, ⟨a1_5, rfl, wa1_5⟩, hk1⟩ := hk1
  have ba1_5 := bd_i64 wa1_5
  obtain ⟨_, r1_6, rfl, ⟨a1_6, rfl, wa1_6⟩, hk1⟩ := hk1
  have ba1_6 := bd_i64 wa1_6
  obtain ⟨_, r1_7, rfl, ⟨a1_7, rfl, wa1_7⟩, hk1⟩ := hk1
  have ba1_7 := bd_i64 wa1_7
  obtain ⟨_, r1_8, rfl, ⟨a1_8, rfl, wa1_8⟩, hk1⟩ := hk1
  have ba1_8 := bd_i64 wa1_8
  obtain ⟨_, r1_9, rfl, ⟨a1_9, rfl, wa1_9⟩, hk1⟩ := hk1
  have ba1_9 := bd_i64 wa1_9
  obtain ⟨_, r1_10, rfl, ⟨a1_10, rfl, wa1_10⟩, hk1⟩ := hk1
  have ba1_10 := bd_i64 wa1_10
  obtain rfl := hk1
  obtain ⟨k2, rfl, hk2⟩ := open_flat 8 (by kernel_rfl) (sh := [.int .i64, .int .i64, .int .i64, .int .i64, .int .i64, .int .i64, .int .i64, .int .i64, .int .i64, .int .i64, .int .i64]) (by kernel_rfl) (hval 2 50 v2 rfl rfl) h2
  obtain ⟨_, r2_0, rfl, ⟨a2_0, rfl, wa2_0⟩, hk2⟩ := hk2
  have ba2_0 := bd_i64 wa2_0
  obtain ⟨_, r2_1, rfl, ⟨a2_1, rfl, wa2_1⟩, hk2⟩ := hk2
  have ba2_1 := bd_i64 wa2_1
  obtain ⟨_, r2_2, rfl, ⟨a2_2, rfl, wa2_2⟩, hk2⟩ := hk2
  have ba2_2 := bd_i64 wa2_2
  obtain ⟨_, r2_3, rfl, ⟨a2_3, rfl, wa2_3⟩, hk2⟩ := hk2
  have ba2_3 := bd_i64 wa2_3
  obtain ⟨_, r2_4, rfl, ⟨a2_4, rfl, wa2_4⟩, hk2⟩ := hk2
  have ba2_4 := bd_i64 wa2_4
  obtain ⟨_, r2_5, rfl, ⟨a2_5, rfl, wa2_5⟩, hk2⟩ := hk2
  have ba2_5 := bd_i64 wa2_5
  obtain ⟨_, r2_6, rfl, ⟨a2_6, rfl, wa2_6⟩, hk2⟩ := hk2
  have ba2_6 := bd_i64 wa2_6
  obtain ⟨_, r2_7, rfl, ⟨a2_7, rfl, wa2_7⟩, hk2⟩ := hk2
  have ba2_7 := bd_i64 wa2_7
  obtain ⟨_, r2_8, rfl, ⟨a2_8, rfl, wa2_8⟩, hk2⟩ := hk2
  have ba2_8 := bd_i64 wa2_8
  obtain ⟨_, r2_9, rfl, ⟨a2_9, rfl, wa2_9⟩, hk2⟩ := hk2
  have ba2_9 := bd_i64 wa2_9
  obtain ⟨_, r2_10, rfl, ⟨a2_10, rfl, wa2_10⟩, hk2⟩ := hk2
  have ba2_10 := bd_i64 wa2_10
  obtain rfl := hk2
  clear hA0 hval0
  refine (StoryCalls_plain x0_0 x0_1 x0_2 x0_3 x0_4 x0_5 x0_6 x0_7 x0_8 x0_9 x0_10 x0_11 x0_12 x0_13 x0_14 x0_15 x0_16 a1_0 a1_1 a1_2 a1_3 a1_4 a1_5 a1_6 a1_7 a1_8 a1_9 a1_10 a2_0 a2_1 a2_2 a2_3 a2_4 a2_5 a2_6 a2_7 a2_8 a2_9 a2_10 s0 c0 hr0 (Sat.start W)).mono fun e W' ⟨he, hS⟩ => ?_
  rw [show StoryCalls x0_0 x0_1 x0_2 x0_3 x0_4 x0_5 x0_6 x0_7 x0_8 x0_9 x0_10 x0_11 x0_12 x0_13 x0_14 x0_15 x0_16 a1_0 a1_1 a1_2 a1_3 a1_4 a1_5 a1_6 a1_7 a1_8 a1_9 a1_10 a2_0 a2_1 a2_2 a2_3 a2_4 a2_5 a2_6 a2_7 a2_8 a2_9 a2_10 = true from rfl] at he
  subst he
  exact ⟨_, rfl, law_post 4 StoryCalls_laidOut hW' rfl rfl Try.underlying4 (by kernel_rfl) ⟨rfl, rfl, rfl⟩ hS.below⟩

theorem StoryCalls_holds : Rows.StoryCallsSaid :=
  OpenClaim.holds_of_wide 5 Try.f5 rfl rfl rfl rfl rfl rfl rfl ⟨rfl, rfl, rfl, rfl, rfl⟩ rfl rfl rfl rfl rfl (by kernel_rfl) Try.func5 (by kernel_rfl)
    (of_decide_eq_true (by kernel_rfl)) (by unfold Func.isWrapper; rw [if_neg (of_decide_eq_false (by kernel_rfl))]; exact ⟨rfl, rfl⟩)
    (fun os started H enc _ => StoryCalls_lifted os started H enc)
#print axioms StoryCalls_holds
end Go.Proofs.Ytonfbgombglngaa

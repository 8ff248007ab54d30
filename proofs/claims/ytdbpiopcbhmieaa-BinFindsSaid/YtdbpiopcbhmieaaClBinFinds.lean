/-
  Which free span is found for every number of pages, and what is read for it, on every values of cells, is as the document says: the law's function answers true for every configuration, values and number. Conditions: none.
-/
import Derived.Test.YtdbpiopcbhmieaaRows
import Derived.Test.YtdbpiopcbhmieaaSlS
import Derived.Test.YtdbpiopcbhmieaaSlBinL
namespace Go.Proofs.Ytdbpiopcbhmieaa
open Go.ChangeShapes Go.WideShapes Go.ChangeAt Go.RowKit Go.Joins Go.Sl
set_option linter.unusedVariables false

theorem BinFinds_own : ownKnob Try.prog.godebug = none := by kernel_rfl
theorem BinFinds_laidOut : laidOutB Try.prog = true := by kernel_rfl
set_option maxRecDepth 100000 in
theorem BinFinds_lifted (os : Os) (started : os.Started) (H : Type) (enc : TypeId × Value → H) :
    ReturnsInHanded {} Try.checked os 9 .any (Rows.binFindsSpec.pre6 enc Try.prog Try.f9 Rows.binFindsRow.domain false) (Rows.binFindsSpec.post enc Try.prog Try.f9 false true false false) := by
  refine returnsInHanded_of_change (C := Try.checked) BinFinds_own started (by kernel_rfl) Try.func9
    (ChangeSpec.witness6 (enc := enc) (C := Try.checked) false ⟨#[], #[.agg #[.int .i64 0, .int .i64 0, .int .i64 0], .slice none 0 0, .int .i64 0], []⟩ 8 (by kernel_rfl) (by kernel_rfl) (by kernel_rfl) (by kernel_rfl)) ?_
  intro W base args ds gs before hval0 hW _ _
  have hval : ∀ (j : Nat) t v, Try.f9.params[j]? = some t → args[j]? = some v → Value.okWide Try.prog W .any base t v := hval0
  have hW' := hW
  obtain ⟨p, q, hA0, _, _, _, _⟩ := hW
  have hA : DataW.TrodAll enc Try.prog W 0 (fun _ => true) true Try.f9.params.toList args.toList ds p := hA0
  rw [Try.params9] at hA hval
  obtain ⟨v0, v1, v2, d0, d1, d2, p0, p1, p2, rfl, rfl, _, h0, h1, h2⟩ := trodAll_three hA
  obtain ⟨k0, rfl, hk0⟩ := open_flat 8 (by kernel_rfl) (sh := [.int .i64, .int .i64, .int .i64]) (by kernel_rfl) (hval 0 77 v0 rfl rfl) h0
  obtain ⟨_, r0_0, rfl, ⟨a0_0, rfl, wa0_0⟩, hk0⟩ := hk0
  have ba0_0 := bd_i64 wa0_0
  obtain ⟨_, r0_1, rfl, ⟨a0_1, rfl, wa0_1⟩, hk0⟩ := hk0
  have ba0_1 := bd_i64 wa0_1
  obtain ⟨_, r0_2, rfl, ⟨a0_2, rfl, wa0_2⟩, hk0⟩ := hk0
  have ba0_2 := bd_i64 wa0_2
  obtain rfl := hk0
  obtain ⟨s1, n1, c1, k1, rfl, hk1, hr1⟩ := open_rows 8 Try.underlying22 (sh := [.int .u32]) (by kernel_rfl) (by kernel_rfl) (hval 1 22 v1 rfl rfl) h1
  obtain ⟨_, r1_0, rfl, ⟨x1_0, rfl, hl1_0, hw1_0⟩, hk1⟩ := hk1
  obtain rfl := hk1
  subst hl1_0
  obtain ⟨a2, rfl, _, _, wa2⟩ := open_int Try.underlying3 (hval 2 3 v2 rfl rfl) h2
  have ba2 := bd_i64 wa2
  clear hA0 hval0
  refine (BinFinds_plain a0_0 a0_1 a0_2 x1_0 a2 s1 c1 hr1 (fun v hv => bd_u32 (hw1_0 v hv)) (Sat.start W)).mono fun e W' ⟨he, hS⟩ => ?_
  rw [show BinFinds a0_0 a0_1 a0_2 x1_0 a2 = true from rfl] at he
  subst he
  exact ⟨_, rfl, law_post 4 BinFinds_laidOut hW' rfl rfl Try.underlying4 (by kernel_rfl) ⟨rfl, rfl, rfl⟩ hS.below⟩

theorem BinFinds_holds : Rows.BinFindsSaid :=
  OpenClaim.holds_of_wide 9 Try.f9 rfl rfl rfl rfl rfl rfl rfl ⟨rfl, rfl, rfl, rfl, rfl⟩ rfl rfl rfl rfl rfl (by kernel_rfl) Try.func9 (by kernel_rfl)
    (of_decide_eq_true (by kernel_rfl)) (by unfold Func.isWrapper; rw [if_neg (of_decide_eq_false (by kernel_rfl))]; exact ⟨rfl, rfl⟩)
    (fun os started H enc _ => BinFinds_lifted os started H enc)
#print axioms BinFinds_holds
end Go.Proofs.Ytdbpiopcbhmieaa

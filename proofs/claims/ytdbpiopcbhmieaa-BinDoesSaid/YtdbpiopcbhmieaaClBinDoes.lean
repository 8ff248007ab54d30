/-
  What every adding and dropping reads and writes, on every values of cells, is as the document says: the law's function answers true for every configuration, values and steps. Conditions: none.
-/
import Derived.Test.YtdbpiopcbhmieaaRows
import Derived.Test.YtdbpiopcbhmieaaSlS
import Derived.Test.YtdbpiopcbhmieaaSlBinL
namespace Go.Proofs.Ytdbpiopcbhmieaa
open Go.ChangeShapes Go.WideShapes Go.ChangeAt Go.RowKit Go.Joins Go.Sl
set_option linter.unusedVariables false

theorem BinDoes_own : ownKnob Try.prog.godebug = none := by kernel_rfl
theorem BinDoes_laidOut : laidOutB Try.prog = true := by kernel_rfl
set_option maxRecDepth 100000 in
theorem BinDoes_lifted (os : Os) (started : os.Started) (H : Type) (enc : TypeId × Value → H) :
    ReturnsInHanded {} Try.checked os 10 .any (Rows.binDoesSpec.pre6 enc Try.prog Try.f10 Rows.binDoesRow.domain false) (Rows.binDoesSpec.post enc Try.prog Try.f10 false true false false) := by
  refine returnsInHanded_of_change (C := Try.checked) BinDoes_own started (by kernel_rfl) Try.func10
    (ChangeSpec.witness6 (enc := enc) (C := Try.checked) false ⟨#[], #[.agg #[.int .i64 0, .int .i64 0, .int .i64 0], .slice none 0 0, .slice none 0 0], []⟩ 8 (by kernel_rfl) (by kernel_rfl) (by kernel_rfl) (by kernel_rfl)) ?_
  intro W base args ds gs before hval0 hW _ _
  have hval : ∀ (j : Nat) t v, Try.f10.params[j]? = some t → args[j]? = some v → Value.okWide Try.prog W .any base t v := hval0
  have hW' := hW
  obtain ⟨p, q, hA0, _, _, _, _⟩ := hW
  have hA : DataW.TrodAll enc Try.prog W 0 (fun _ => true) true Try.f10.params.toList args.toList ds p := hA0
  rw [Try.params10] at hA hval
  obtain ⟨v0, v1, v2, d0, d1, d2, p0, p1, p2, rfl, rfl, _, h0, h1, h2⟩ := trodAll_three hA
  obtain ⟨k0, rfl, hk0⟩ := open_flat 8 (by kernel_rfl) (sh := [.int .i64, .int .i64, .int .i64]) (by kernel_rfl) (hval 0 77 v0 rfl rfl) h0
  obtain ⟨_, r0_0, rfl, ⟨a0_0, rfl, wa0_0⟩, hk0⟩ := hk0
  have ba0_0 := bd_i64 wa0_0
  obtain ⟨_, r0_1, rfl, ⟨a0_1, rfl, wa0_1⟩, hk0⟩ := hk0
  have ba0_1 := bd_i64 wa0_1
  obtain ⟨_, r0_2, rfl, ⟨a0_2, rfl, wa0_2⟩, hk0⟩ := hk0
  have ba0_2 := bd_i64 wa0_2
  obtain rfl := hk0
  obtain ⟨s1, n1, c1, k1, rfl, hk1, hr1⟩ := open_rows 8 Try.underlying22 (sh := [.int .u32]) (by kernel_rfl) (by kernel_rfl) (hval 1 22 v1 rfl rfl) h1
  obtain ⟨_, r1_0, rfl, ⟨x1_0, rfl, hl1_0, hw1_0⟩, hk1⟩ := hk1
  obtain rfl := hk1
  subst hl1_0
  obtain ⟨s2, n2, c2, k2, rfl, hk2, hr2⟩ := open_rows 8 Try.underlying90 (sh := [.bool, .int .i64, .int .i64]) (by kernel_rfl) (by kernel_rfl) (hval 2 90 v2 rfl rfl) h2
  obtain ⟨_, r2_0, rfl, ⟨x2_0, rfl, hl2_0⟩, hk2⟩ := hk2
  obtain ⟨_, r2_1, rfl, ⟨x2_1, rfl, hl2_1, hw2_1⟩, hk2⟩ := hk2
  obtain ⟨_, r2_2, rfl, ⟨x2_2, rfl, hl2_2, hw2_2⟩, hk2⟩ := hk2
  obtain rfl := hk2
  subst hl2_0
  clear hA0 hval0
  refine (BinDoes_plain a0_0 a0_1 a0_2 x1_0 x2_0 x2_1 x2_2 s1 c1 s2 c2 hr1 hr2 (fun v hv => bd_u32 (hw1_0 v hv)) (fun v hv => Int.lt_add_one_iff.1 (bd_i64 (hw2_2 v hv)).2) (Sat.start W)).mono fun e W' ⟨he, hS⟩ => ?_
  rw [show BinDoes a0_0 a0_1 a0_2 x1_0 x2_0 x2_1 x2_2 = true from rfl] at he
  subst he
  exact ⟨_, rfl, law_post 4 BinDoes_laidOut hW' rfl rfl Try.underlying4 (by kernel_rfl) ⟨rfl, rfl, rfl⟩ hS.below⟩

theorem BinDoes_holds : Rows.BinDoesSaid :=
  OpenClaim.holds_of_wide 10 Try.f10 rfl rfl rfl rfl rfl rfl rfl ⟨rfl, rfl, rfl, rfl, rfl⟩ rfl rfl rfl rfl rfl (by kernel_rfl) Try.func10 (by kernel_rfl)
    (of_decide_eq_true (by kernel_rfl)) (by unfold Func.isWrapper; rw [if_neg (of_decide_eq_false (by kernel_rfl))]; exact ⟨rfl, rfl⟩)
    (fun os started H enc _ => BinDoes_lifted os started H enc)
#print axioms BinDoes_holds
end Go.Proofs.Ytdbpiopcbhmieaa

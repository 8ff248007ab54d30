/-
  At which address every slot begins, which slot begins at every byte, and how many pages every bytes need, are those of the reference. Conditions: none.
-/
import Derived.Test.YtaenbinoejnecaaRows
import Derived.Test.YtaenbinoejnecaaSlL
import Derived.Test.YtaenbinoejnecaaPlAddr
namespace Go.Proofs.Ytaenbinoejnecaa
open Go.ChangeShapes Go.WideShapes Go.ChangeAt Go.RowKit Go.Joins Go.Sl

theorem AddrSlots_own : ownKnob Try.prog.godebug = none := by kernel_rfl
theorem AddrSlots_laidOut : laidOutB Try.prog = true := by kernel_rfl
set_option maxRecDepth 100000 in
theorem AddrSlots_lifted (os : Os) (started : os.Started) (H : Type) (enc : TypeId × Value → H) :
    ReturnsInHanded {} Try.checked os 10 .any (Rows.addrSlotsSpec.pre6 enc Try.prog Try.f10 Rows.addrSlotsRow.domain false) (Rows.addrSlotsSpec.post enc Try.prog Try.f10 false true false false) := by
  refine returnsInHanded_of_change (C := Try.checked) AddrSlots_own started (by kernel_rfl) Try.func10
    (ChangeSpec.witness6 (enc := enc) (C := Try.checked) false ⟨#[], #[.agg #[.int .i64 0, .int .i64 0, .int .i64 0], .agg #[.int .i64 0, .int .i64 0, .int .i64 0], .int .i64 0], []⟩ 8 (by kernel_rfl) (by kernel_rfl) (by kernel_rfl) (by kernel_rfl)) ?_
  intro W base args ds gs before hval0 hW _ _
  have hval : ∀ (j : Nat) t v, Try.f10.params[j]? = some t → args[j]? = some v → Value.okWide Try.prog W .any base t v := hval0
  have hW' := hW
  obtain ⟨p, q, hA0, _, _, _, _⟩ := hW
  have hA : DataW.TrodAll enc Try.prog W 0 (fun _ => true) true Try.f10.params.toList args.toList ds p := hA0
  rw [Try.params10] at hA hval
  obtain ⟨v0, v1, v2, d0, d1, d2, p0, p1, p2, rfl, rfl, _, h0, h1, h2⟩ := trodAll_three hA
  obtain ⟨c0_0, c0_1, c0_2, y0_0, y0_1, y0_2, m0, rfl, rfl, _, hy0_0, hy0_1, hy0_2⟩ := open_agg3 Try.underlying44 (by kernel_rfl) (by kernel_rfl) (hval 0 44 v0 rfl rfl) h0
  obtain ⟨a0_0, e0_0, rfl, wa0_0⟩ := DataW.trod_int Try.underlying3 hy0_0
  have ba0_0 := bd_i64 wa0_0
  simp only [List.cons.injEq, and_true] at e0_0
  subst e0_0
  obtain ⟨a0_1, e0_1, rfl, wa0_1⟩ := DataW.trod_int Try.underlying3 hy0_1
  have ba0_1 := bd_i64 wa0_1
  simp only [List.cons.injEq, and_true] at e0_1
  subst e0_1
  obtain ⟨a0_2, e0_2, rfl, wa0_2⟩ := DataW.trod_int Try.underlying3 hy0_2
  have ba0_2 := bd_i64 wa0_2
  simp only [List.cons.injEq, and_true] at e0_2
  subst e0_2
  obtain ⟨c1_0, c1_1, c1_2, y1_0, y1_1, y1_2, m1, rfl, rfl, _, hy1_0, hy1_1, hy1_2⟩ := open_agg3 Try.underlying51 (by kernel_rfl) (by kernel_rfl) (hval 1 51 v1 rfl rfl) h1
  obtain ⟨a1_0, e1_0, rfl, wa1_0⟩ := DataW.trod_int Try.underlying3 hy1_0
  have ba1_0 := bd_i64 wa1_0
  simp only [List.cons.injEq, and_true] at e1_0
  subst e1_0
  obtain ⟨a1_1, e1_1, rfl, wa1_1⟩ := DataW.trod_int Try.underlying3 hy1_1
  have ba1_1 := bd_i64 wa1_1
  simp only [List.cons.injEq, and_true] at e1_1
  subst e1_1
  obtain ⟨a1_2, e1_2, rfl, wa1_2⟩ := DataW.trod_int Try.underlying3 hy1_2
  have ba1_2 := bd_i64 wa1_2
  simp only [List.cons.injEq, and_true] at e1_2
  subst e1_2
  obtain ⟨a2, rfl, _, _, wa2⟩ := open_int Try.underlying2 (hval 2 2 v2 rfl rfl) h2
  have ba2 := bd_i64 wa2
  clear hA0 hval0
  refine (AddrSlots_plain a0_0 a0_1 a0_2 a1_0 a1_1 a1_2 a2 (Sat.start W)).mono fun e W' ⟨he, hS⟩ => ?_
  rw [AddrSlots_true a0_0 a0_1 a0_2 a1_0 a1_1 a1_2 a2] at he
  subst he
  exact ⟨_, rfl, law_post 4 AddrSlots_laidOut hW' rfl rfl Try.underlying4 (by kernel_rfl) ⟨rfl, rfl, rfl⟩ hS.below⟩

theorem AddrSlots_holds : Rows.AddrSlotsSaid :=
  OpenClaim.holds_of_wide 10 Try.f10 rfl rfl rfl rfl rfl rfl rfl ⟨rfl, rfl, rfl, rfl, rfl⟩ rfl rfl rfl rfl rfl (by kernel_rfl) Try.func10 (by kernel_rfl)
    (of_decide_eq_true (by kernel_rfl)) (by unfold Func.isWrapper; rw [if_neg (of_decide_eq_false (by kernel_rfl))]; exact ⟨rfl, rfl⟩)
    (fun os started H enc _ => AddrSlots_lifted os started H enc)
#print axioms AddrSlots_holds
end Go.Proofs.Ytaenbinoejnecaa

/-
  The law InfoPuts of layer 9 returns true for every info, and leaves its argument as it was. Conditions: none.
-/
import Derived.Test.YtaenbinoejnecaaRows
import Derived.Test.YtaenbinoejnecaaSlL
import Derived.Test.YtaenbinoejnecaaPlInfo
namespace Go.Proofs.Ytaenbinoejnecaa
open Go.ChangeShapes Go.WideShapes Go.ChangeAt Go.RowKit Go.Joins Go.Sl

theorem InfoPuts_own : ownKnob Try.prog.godebug = none := by kernel_rfl
theorem InfoPuts_laidOut : laidOutB Try.prog = true := by kernel_rfl
set_option maxRecDepth 100000 in
theorem InfoPuts_lifted (os : Os) (started : os.Started) (H : Type) (enc : TypeId × Value → H) :
    ReturnsInHanded {} Try.checked os 3 .any (Rows.infoPutsSpec.pre6 enc Try.prog Try.f3 Rows.infoPutsRow.domain false) (Rows.infoPutsSpec.post enc Try.prog Try.f3 false true false false) := by
  refine returnsInHanded_of_change (C := Try.checked) InfoPuts_own started (by kernel_rfl) Try.func3
    (ChangeSpec.witness6 (enc := enc) (C := Try.checked) false ⟨#[], #[.agg #[.int .i64 0, .int .i64 0, .int .i64 0]], []⟩ 8 (by kernel_rfl) (by kernel_rfl) (by kernel_rfl) (by kernel_rfl)) ?_
  intro W base args ds gs before hval0 hW _ _
  have hval : ∀ (j : Nat) t v, Try.f3.params[j]? = some t → args[j]? = some v → Value.okWide Try.prog W .any base t v := hval0
  have hW' := hW
  obtain ⟨p, q, hA0, _, _, _, _⟩ := hW
  have hA : DataW.TrodAll enc Try.prog W 0 (fun _ => true) true Try.f3.params.toList args.toList ds p := hA0
  rw [Try.params3] at hA hval
  obtain ⟨v0, d0, rfl, rfl, h0⟩ := trodAll_one hA
  obtain ⟨c0_0, c0_1, c0_2, y0_0, y0_1, y0_2, m0, rfl, rfl, _, hy0_0, hy0_1, hy0_2⟩ := open_agg3 Try.underlying23 (by kernel_rfl) (by kernel_rfl) (hval 0 23 v0 rfl rfl) h0
  obtain ⟨a0_0, e0_0, rfl, wa0_0⟩ := DataW.trod_int Try.underlying3 hy0_0
  have ba0_0 := bd_i64 wa0_0
  simp only [List.cons.injEq, and_true] at e0_0
  subst e0_0
  obtain ⟨a0_1, e0_1, rfl, wa0_1⟩ := DataW.trod_int Try.underlying3 hy0_1
  have ba0_1 := bd_i64 wa0_1
  simp only [List.cons.injEq, and_true] at e0_1
  subst e0_1
  obtain ⟨a0_2, e0_2, rfl, wa0_2⟩ := DataW.trod_int Try.underlying3 hy0_2
  have ba0_2 := bd_i64 wa0_2
  simp only [List.cons.injEq, and_true] at e0_2
  subst e0_2
  clear hA0 hval0
  refine (InfoPuts_calls a0_0 a0_1 a0_2 (Sat.start W)).mono fun e W' ⟨he, hS⟩ => ?_
  rw [InfoPuts_true] at he
  subst he
  exact ⟨_, rfl, law_post 4 InfoPuts_laidOut hW' rfl rfl Try.underlying4 (by kernel_rfl) ⟨rfl, rfl, rfl⟩ hS.below⟩

theorem InfoPuts_holds : Rows.InfoPutsSaid :=
  OpenClaim.holds_of_wide 3 Try.f3 rfl rfl rfl rfl rfl rfl rfl ⟨rfl, rfl, rfl, rfl, rfl⟩ rfl rfl rfl rfl rfl (by kernel_rfl) Try.func3 (by kernel_rfl)
    (of_decide_eq_true (by kernel_rfl)) (by unfold Func.isWrapper; rw [if_neg (of_decide_eq_false (by kernel_rfl))]; exact ⟨rfl, rfl⟩)
    (fun os started H enc _ => InfoPuts_lifted os started H enc)
#print axioms InfoPuts_holds
end Go.Proofs.Ytaenbinoejnecaa

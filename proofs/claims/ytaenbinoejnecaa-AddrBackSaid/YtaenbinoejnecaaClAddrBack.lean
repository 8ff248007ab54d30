/-
  Each address is that of one byte; so many pages are as few as can be. Conditions: none.
-/
import Derived.Test.YtaenbinoejnecaaRows
import Derived.Test.YtaenbinoejnecaaSlL
import Derived.Test.YtaenbinoejnecaaPlAddr
namespace Go.Proofs.Ytaenbinoejnecaa
open Go.ChangeShapes Go.WideShapes Go.ChangeAt Go.RowKit Go.Joins Go.Sl

theorem AddrBack_own : ownKnob Try.prog.godebug = none := by kernel_rfl
theorem AddrBack_laidOut : laidOutB Try.prog = true := by kernel_rfl
set_option maxRecDepth 100000 in
theorem AddrBack_lifted (os : Os) (started : os.Started) (H : Type) (enc : TypeId × Value → H) :
    ReturnsInHanded {} Try.checked os 11 .any (Rows.addrBackSpec.pre6 enc Try.prog Try.f11 Rows.addrBackRow.domain false) (Rows.addrBackSpec.post enc Try.prog Try.f11 false true false false) := by
  refine returnsInHanded_of_change (C := Try.checked) AddrBack_own started (by kernel_rfl) Try.func11
    (ChangeSpec.witness6 (enc := enc) (C := Try.checked) false ⟨#[], #[.agg #[.int .i64 0, .int .i64 0, .int .i64 0], .int .i64 0, .int .i64 0], []⟩ 8 (by kernel_rfl) (by kernel_rfl) (by kernel_rfl) (by kernel_rfl)) ?_
  intro W base args ds gs before hval0 hW _ _
  have hval : ∀ (j : Nat) t v, Try.f11.params[j]? = some t → args[j]? = some v → Value.okWide Try.prog W .any base t v := hval0
  have hW' := hW
  obtain ⟨p, q, hA0, _, _, _, _⟩ := hW
  have hA : DataW.TrodAll enc Try.prog W 0 (fun _ => true) true Try.f11.params.toList args.toList ds p := hA0
  rw [Try.params11] at hA hval
  obtain ⟨v0, v1, v2, d0, d1, d2, p0, p1, p2, rfl, rfl, _, h0, h1, h2⟩ := trodAll_three hA
  obtain ⟨c0_0, c0_1, c0_2, y0_0, y0_1, y0_2, m0, rfl, rfl, _, hy0_0, hy0_1, hy0_2⟩ := open_agg3 Try.underlying44 (by kernel_rfl) (by kernel_rfl) (hval 0 44 v0 rfl rfl) h0
  obtain ⟨a0_0, e0_0, rfl, wa0_0⟩ := DataW.trod_int Try.underlying3 hy0_0
  have ba0_0 := bd_i64 wa0_0
  simp only [List.cons.injEq, and_true] at e0_0
  subst e0_0
  obtain ⟨a0_1, e0_1, rfl, wa0_1⟩ := DataW.trod_int Try.underlying3 hy0_1
  have ba0_1 := bd_i64 wa0_1
  simp only [List.cons.injEq, and_true] at e0_1
  subst e0_1
  obtain ⟨a0_2, e0_2, rfl, wa0_2⟩ := DataW.trod_int Try.underlying3 hy0_2
  have ba0_2 := bd_i64 wa0_2
  simp only [List.cons.injEq, and_true] at e0_2
  subst e0_2
  obtain ⟨a1, rfl, _, _, wa1⟩ := open_int Try.underlying3 (hval 1 3 v1 rfl rfl) h1
  have ba1 := bd_i64 wa1
  obtain ⟨a2, rfl, _, _, wa2⟩ := open_int Try.underlying2 (hval 2 2 v2 rfl rfl) h2
  have ba2 := bd_i64 wa2
  clear hA0 hval0
  refine (AddrBack_plain a0_0 a0_1 a0_2 a1 a2 (Sat.start W)).mono fun e W' ⟨he, hS⟩ => ?_
  rw [AddrBack_true (t := a0_0) (p := a0_1) (s := a0_2) (pg := a1) ba2] at he
  subst he
  exact ⟨_, rfl, law_post 4 AddrBack_laidOut hW' rfl rfl Try.underlying4 (by kernel_rfl) ⟨rfl, rfl, rfl⟩ hS.below⟩

theorem AddrBack_holds : Rows.AddrBackSaid :=
  OpenClaim.holds_of_wide 11 Try.f11 rfl rfl rfl rfl rfl rfl rfl ⟨rfl, rfl, rfl, rfl, rfl⟩ rfl rfl rfl rfl rfl (by kernel_rfl) Try.func11 (by kernel_rfl)
    (of_decide_eq_true (by kernel_rfl)) (by unfold Func.isWrapper; rw [if_neg (of_decide_eq_false (by kernel_rfl))]; exact ⟨rfl, rfl⟩)
    (fun os started H enc _ => AddrBack_lifted os started H enc)
#print axioms AddrBack_holds
end Go.Proofs.Ytaenbinoejnecaa

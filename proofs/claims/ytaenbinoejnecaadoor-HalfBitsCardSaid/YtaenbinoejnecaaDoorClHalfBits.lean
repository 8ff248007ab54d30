/-
  How many bits are 1, which is the lowest, which are 0, and the logarithm of every number, are as the document says: the law's function answers true for every two numbers. Conditions: none.
-/
import Derived.Test.YtaenbinoejnecaaDoorTie
import Derived.Test.YtaenbinoejnecaaDoorCards
import Derived.LaidMore
import Derived.OpenShut
import Derived.Stop.Joined
import Derived.SevenTiedAt
import Derived.LaidLaws
import Derived.LaidHandle
import Derived.Lay
import Derived.MakeChecks
import Derived.Lib.LaidTab
import Derived.Test.YtaenbinoejnecaaDoorSlS
import Derived.Test.YtaenbinoejnecaaDoorPlHalf4
namespace Go.Proofs.YtaenbinoejnecaaDoor
open Go.ChangeShapes Go.WideShapes Go.ChangeAt Go.RowKit Go.Joins Go.Sl

theorem tab_row {W : World} (h : laidMetH Tryd.prog Rows.halfBitsRow.laid W) : RowAt (fun b => W.heap[b]?) (some ⟨0, 0, none⟩) 32 [.ints .u8 tab32] := by
  have e : laidMetH Tryd.prog Rows.halfBitsRow.laid W = laidMet Tryd.prog Rows.halfBitsRow.laid W := Go.MakeChecks.laidMetH_plain _ _ _ (by kernel_rfl)
  rw [e] at h
  have h2 : laidMet Tryd.prog (("math/bits.deBruijn32tab", Lib.tabData .u8 tab32) :: []) W := h
  have hg : Tryd.prog.globalNamed "math/bits.deBruijn32tab" = some 0 := by kernel_rfl
  have ht := Lib.tabIs_of_head (t := 46) (e := 5) (n := 32) hg (by kernel_rfl) Tryd.underlying46 Tryd.underlying5 (by kernel_rfl) (by kernel_rfl) h2
  refine ⟨fun c hc => ?_, fun i hi => ⟨_, rfl, fun j c hj => ?_⟩, by decide⟩
  · rw [List.mem_singleton.1 hc]; rfl
  · match j, hj with
    | 0, hj =>
      injection hj with hj
      subst hj
      have := ht.cell hg i hi
      rw [← cellOf_world] at this
      rw [Addr.add_lit0]
      simpa [Col.at] using this
theorem HalfBits_own : ownKnob Tryd.prog.godebug = none := by kernel_rfl
theorem HalfBits_met (os : Os) (args : Array Value) : laidMetH Tryd.prog Rows.halfBitsRow.laid ((World.doorLaid Tryd.prog 400 os).forCall (fun _ _ => 0) ⟨#[], args, []⟩).memory :=
  laidMetH_of_parts3 (fuel := 8) (laidMet_of_run' 8 (by kernel_rfl) (by kernel_rfl)) (by kernel_rfl) (by kernel_rfl)
theorem HalfBits_laidOut : laidOutB Tryd.prog = true := by kernel_rfl
set_option maxRecDepth 100000 in
theorem HalfBits_lifted (os : Os) (started : os.Started) (H : Type) (enc : TypeId × Value → H) :
    ReturnsInHanded {} Tryd.checked os 4 .any (fun w args => (Rows.halfBitsSpec.pre enc Tryd.prog Tryd.f4 [] false w args ∧ laidMetH Tryd.prog Rows.halfBitsRow.laid w) ∧ sizedMet enc Tryd.prog Tryd.f4 (OpenSpec.ofChange Rows.halfBitsSpec) false w args) (Rows.halfBitsSpec.post enc Tryd.prog Tryd.f4 false true false false) := by
  refine returnsInHanded_of_change_and (C := Tryd.checked) (X := fun w _ => laidMetH Tryd.prog Rows.halfBitsRow.laid w) (fun _ _ _ hh h => h.of_heap hh) HalfBits_own started (by kernel_rfl) Tryd.func4
    (ChangeSpec.witness_shaped (enc := enc) (C := Tryd.checked) (os := os) (X := fun w _ => laidMetH Tryd.prog Rows.halfBitsRow.laid w) false (World.doorLaid Tryd.prog 400 os) #[.int .u32 0, .int .i64 0] 8 rfl (World.shaped_of_RefB (by kernel_rfl) (by kernel_rfl)) (by kernel_rfl) (by kernel_rfl) (by kernel_rfl) (HalfBits_met os _)) ?_
  intro W base args ds gs before hval0 hW _ _ hL _
  have hval : ∀ (j : Nat) t v, Tryd.f4.params[j]? = some t → args[j]? = some v → Value.okWide Tryd.prog W .any base t v := hval0
  have hW' := hW
  obtain ⟨p, q, hA0, _, _, _, _⟩ := hW
  have hA : DataW.TrodAll enc Tryd.prog W 0 (fun _ => true) true Tryd.f4.params.toList args.toList ds p := hA0
  rw [Tryd.params4] at hA hval
  obtain ⟨v0, v1, d0, d1, p0, p1, rfl, rfl, _, h0, h1⟩ := trodAll_two hA
  obtain ⟨a0, rfl, _, _, wa0⟩ := open_int Tryd.underlying23 (hval 0 23 v0 rfl rfl) h0
  have ba0 := bd_u32 wa0
  obtain ⟨a1, rfl, _, _, wa1⟩ := open_int Tryd.underlying3 (hval 1 3 v1 rfl rfl) h1
  have ba1 := bd_i64 wa1
  clear hA0 hval0
  refine (HalfBits_plain a0 a1 (tab_row hL) ba0 (by omega) (Sat.start W)).mono fun e W' ⟨he, hS⟩ => ?_
  rw [show HalfBits a0 a1 = true from HalfBits_true ba0 (by omega)] at he
  subst he
  exact ⟨_, rfl, law_post 4 HalfBits_laidOut hW' rfl rfl Tryd.underlying4 (by kernel_rfl) ⟨rfl, rfl, rfl⟩ hS.below⟩

theorem HalfBits_row : Rows.HalfBitsSaid :=
  OpenClaim.holds_of_wide 4 Tryd.f4 rfl rfl rfl rfl rfl rfl rfl ⟨rfl, rfl, rfl, rfl, rfl⟩ rfl rfl rfl rfl rfl (by kernel_rfl) Tryd.func4 (by kernel_rfl)
    (of_decide_eq_true (by kernel_rfl)) (by unfold Func.isWrapper; rw [if_neg (of_decide_eq_false (by kernel_rfl))]; exact ⟨rfl, rfl⟩)
    (fun os started H enc _ => HalfBits_lifted os started H enc)
theorem HalfBits_holds : Rows.HalfBitsCardSaid :=
  Claim7.holds_tied_plain_at .later [] [.data] true (true, "2ca3a5f92ab485cbd961a932f3adc087a8538e8f8ba678991a3c50a0fa53245d") false
    HalfBits_row (fun _ h => by cases h) (by kernel_rfl) (fun _ h => by cases h) halfBits_row_tie rfl ⟨rfl, rfl⟩ (by kernel_rfl) rfl
    (fun f fn hf hfn => by
      obtain rfl : f = 4 := Option.some.inj ((show Tryd.prog.funcNamed "nacre/nacrelaw01.HalfBits" = some 4 by kernel_rfl).symm.trans hf) |>.symm
      obtain rfl : fn = Tryd.f4 := (Option.some.inj (Tryd.func4.symm.trans hfn)).symm
      exact ⟨by kernel_rfl, fun j t ht => by
        rw [Tryd.params4] at ht
        have hm : t ∈ [23, 3] := by simpa using Array.mem_of_getElem? ht
        have hall : ([23, 3].all fun u => !Tryd.prog.wantsStandIn u) = true := by kernel_rfl
        exact (show Tryd.prog.wantsStandIn t = false by simpa using List.all_eq_true.1 hall t hm)⟩)
    (by kernel_rfl)
#print axioms HalfBits_holds
end Go.Proofs.YtaenbinoejnecaaDoor

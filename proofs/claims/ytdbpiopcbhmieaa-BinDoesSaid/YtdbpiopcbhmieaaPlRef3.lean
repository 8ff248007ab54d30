/-
  DERIVED. The entries that fill the reference's views.
-/
import Derived.Test.YtdbpiopcbhmieaaSlView6
namespace Go.Proofs.Ytdbpiopcbhmieaa
open Go.Sl Go.RowKit
def ref_Whole_e : Entry Sg := fun
  | [(_, .row n_0 [.ints .u32 xs])] => some ⟨VS.whole xs, fun (r_ : VS) => ⟨[xs.length ≤ 1000000, ∀ v ∈ xs, bd32 v], none, [.obj (.ref r_)], fun ss => ss.getD 0 undef, fun k => .pt k .obj⟩⟩
  | _ => none
theorem ref_Whole_ok : EntryOk Dg Try.prog 14 ref_Whole_e := by
  intro args c r h hr_
  unfold ref_Whole_e at h
  split at h
  · rename_i v n_0 xs
    injection h with h; subst h; subst hr_
    refine ⟨(by
      intro K acs hl
      match acs, hl with
      | [a0_], hl =>
        simp only [acsOk, acOk] at hl
        obtain ⟨b0_, rfl⟩ := hl.1
        simp [pOk, psOk, cOk, sliceC, sliceV, sliceVal, lenC, Col.len]), fun hpre E G w hi hS => ?_⟩
    have hi_0 := hi _ (List.mem_of_getElem? (i := 0) rfl)
    simp only [iOk] at hi_0
    obtain ⟨a_0, c_0, e_0, hr0⟩ := hi_0
    have l_0 := hr0.len
    simp only [Col.len] at l_0
    subst l_0
    subst e_0
    exact rwhole_fin xs a_0 c_0 hr0 (hpre _ (by simp)) (hpre _ (by simp)) (fin_new_r (s' := VS.whole xs) (fun b ⟨_, _, _, _, _, _, _, _, _, _, _, _, _, _, _, _, _, _, _, _, _, _, _, _, _, _, _⟩ r h => h) (fun b ⟨_, _, _, _, _, _, _, _, _, _, _, _, _, _, _, _, _, _, _, _, _, _, _, _, _, _, _⟩ => rfl)) hS
  · cases h
def ref_Known_e : Entry Sg := fun
  | [(.int .i64 m, _), (_, .row n_1 [.ints .i64 xs, .ints .u32 ys])] => some ⟨VS.known m xs ys, fun (r_ : VS) => ⟨[m ≤ 1000000, ∀ v ∈ ys, bd32 v, xs.length = ys.length], none, [.obj (.ref r_)], fun ss => ss.getD 0 undef, fun k => .pt k .obj⟩⟩
  | _ => none
theorem ref_Known_ok : EntryOk Dg Try.prog 15 ref_Known_e := by
  intro args c r h hr_
  unfold ref_Known_e at h
  split at h
  · rename_i m _ v n_1 xs ys
    injection h with h; subst h; subst hr_
    refine ⟨(by
      intro K acs hl
      match acs, hl with
      | [a0_], hl =>
        simp only [acsOk, acOk] at hl
        obtain ⟨b0_, rfl⟩ := hl.1
        simp [pOk, psOk, cOk, sliceC, sliceV, sliceVal, lenC, Col.len]), fun hpre E G w hi hS => ?_⟩
    have hi_0 := hi _ (List.mem_of_getElem? (i := 1) rfl)
    simp only [iOk] at hi_0
    obtain ⟨a_0, c_0, e_0, hr0⟩ := hi_0
    have l_0 := hr0.len
    simp only [Col.len] at l_0
    subst l_0
    subst e_0
    exact rknown_fin m xs ys a_0 c_0 hr0 (hpre _ (by simp)) (hpre _ (by simp)) (hpre _ (by simp)) (fin_new_r (s' := VS.known m xs ys) (fun b ⟨_, _, _, _, _, _, _, _, _, _, _, _, _, _, _, _, _, _, _, _, _, _, _, _, _, _, _⟩ r h => h) (fun b ⟨_, _, _, _, _, _, _, _, _, _, _, _, _, _, _, _, _, _, _, _, _, _, _, _, _, _, _⟩ => rfl)) hS
  · cases h
end Go.Proofs.Ytdbpiopcbhmieaa

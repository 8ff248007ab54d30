/-
  DERIVED. The entries that make the program's views.
-/
import Derived.Test.YtdbpiopcbhmieaaSlView4
namespace Go.Proofs.Ytdbpiopcbhmieaa
open Go.Sl Go.RowKit

section
variable {E : World} {G : Hp} {s' : VS}
theorem fin_new_w {Kf : Nat × WSt → List (Chunk Sg)} {ok : Nat × WSt → Value → Prop} (hok : ∀ b st r, ok (b, st) r → VOk true (mkW 0 mnil st) s' ∧ r = .pointer (some ⟨b, 0, none⟩)) (hK : ∀ b st, Kf (b, st) = (mkW 0 mnil st).Kw b) :
    ∀ v p K w, ObjRet Kf (fun r _ => r) (fun _ => []) ok v p K → SatK Dg E G w K → ∃ acs : List (Option Nat × Nat), acsOk [Mk.obj (Sg.view s')] acs ∧ Ending.returned v = .returned ((List.zipWith sliceV [Mk.obj (Sg.view s')] acs).getD 0 undef) ∧ Sat E G w ([] ++ (List.zipWith sliceC [Mk.obj (Sg.view s')] acs).map (den Dg G)) := by
  rintro v p K w ⟨⟨b, st⟩, r, h, hr⟩ hS
  obtain ⟨h1, rfl⟩ := hok b st r h
  obtain ⟨acs, e1, e2, e3⟩ := hr.post Dg hS
  cases acs with
  | cons _ _ => exact e1.elim
  | nil =>
    rw [hK] at e3
    injection e2 with e2
    refine ⟨[(some b, 0)], ⟨⟨b, rfl⟩, trivial⟩, by rw [e2]; rfl, ?_⟩
    exact view_foldw (Bs := []) (by simpa using e3) h1
theorem fin_new_k {Kf : Nat × KSt → List (Chunk Sg)} {ok : Nat × KSt → Value → Prop} (hok : ∀ b st r, ok (b, st) r → VOk false (mkK none 0 [] st) s' ∧ r = .pointer (some ⟨b, 0, none⟩)) (hK : ∀ b st, Kf (b, st) = (mkK none 0 [] st).Kk b) :
    ∀ v p K w, ObjRet Kf (fun r _ => r) (fun _ => []) ok v p K → SatK Dg E G w K → ∃ acs : List (Option Nat × Nat), acsOk [Mk.obj (Sg.view s')] acs ∧ Ending.returned v = .returned ((List.zipWith sliceV [Mk.obj (Sg.view s')] acs).getD 0 undef) ∧ Sat E G w ([] ++ (List.zipWith sliceC [Mk.obj (Sg.view s')] acs).map (den Dg G)) := by
  rintro v p K w ⟨⟨b, st⟩, r, h, hr⟩ hS
  obtain ⟨h1, rfl⟩ := hok b st r h
  obtain ⟨acs, e1, e2, e3⟩ := hr.post Dg hS
  cases acs with
  | cons _ _ => exact e1.elim
  | nil =>
    rw [hK] at e3
    injection e2 with e2
    refine ⟨[(some b, 0)], ⟨⟨b, rfl⟩, trivial⟩, by rw [e2]; rfl, ?_⟩
    exact view_foldk (Bs := []) (by simpa using e3) h1
end
def view_Whole_e : Entry Sg := fun
  | [(_, .row n_0 [.ints .u32 xs])] => some ⟨VS.whole xs, fun (r_ : VS) => ⟨[xs.length ≤ 1000000, ∀ v ∈ xs, bd32 v], none, [.obj (.view r_)], fun ss => ss.getD 0 undef, fun k => .pt k .obj⟩⟩
  | _ => none
theorem view_Whole_ok : EntryOk Dg Try.prog 12 view_Whole_e := by
  intro args c r h hr_
  unfold view_Whole_e at h
  split at h
  · rename_i v n_0 xs
    injection h with h; subst h; subst hr_
    refine ⟨(by
      intro K acs hl
      match acs, hl with
      | [a0_], hl =>
        simp only [acsOk, acOk] at hl
        obtain ⟨b0_, rfl⟩ := hl.1
        simp [pOk, psOk, cOk, sliceC, sliceV, sliceVal, lenC, Col.len]), fun hpre E G w hi hS => ?_⟩
    have hi_0 := hi _ (List.mem_of_getElem? (i := 0) rfl)
    simp only [iOk] at hi_0
    obtain ⟨a_0, c_0, e_0, hr0⟩ := hi_0
    have l_0 := hr0.len
    simp only [Col.len] at l_0
    subst l_0
    subst e_0
    exact whole_fin xs a_0 c_0 hr0 (hpre _ (by simp)) (hpre _ (by simp)) (fin_new_w (s' := VS.whole xs) (fun b ⟨_, _, _, _, _, _, _, _, _, _, _, _, _, _, _, _, _, _, _⟩ r h => h) (fun b ⟨_, _, _, _, _, _, _, _, _, _, _, _, _, _, _, _, _, _, _⟩ => rfl)) hS
  · cases h
def view_Known_e : Entry Sg := fun
  | [(.int .i64 m, _), (_, .row n_1 [.ints .i64 xs, .ints .u32 ys])] => some ⟨VS.known m xs ys, fun (r_ : VS) => ⟨[m ≤ 1000000, ∀ v ∈ ys, bd32 v, xs.length = ys.length], none, [.obj (.view r_)], fun ss => ss.getD 0 undef, fun k => .pt k .obj⟩⟩
  | _ => none
theorem view_Known_ok : EntryOk Dg Try.prog 13 view_Known_e := by
  intro args c r h hr_
  unfold view_Known_e at h
  split at h
  · rename_i m _ v n_1 xs ys
    injection h with h; subst h; subst hr_
    refine ⟨(by
      intro K acs hl
      match acs, hl with
      | [a0_], hl =>
        simp only [acsOk, acOk] at hl
        obtain ⟨b0_, rfl⟩ := hl.1
        simp [pOk, psOk, cOk, sliceC, sliceV, sliceVal, lenC, Col.len]), fun hpre E G w hi hS => ?_⟩
    have hi_0 := hi _ (List.mem_of_getElem? (i := 1) rfl)
    simp only [iOk] at hi_0
    obtain ⟨a_0, c_0, e_0, hr0⟩ := hi_0
    have l_0 := hr0.len
    simp only [Col.len] at l_0
    subst l_0
    subst e_0
    exact known_fin m xs ys a_0 c_0 hr0 (hpre _ (by simp)) (hpre _ (by simp)) (hpre _ (by simp)) (fin_new_k (s' := VS.known m xs ys) (fun b ⟨_, _, _, _, _, _, _, _, _, _, _, _, _, _, _, _, _, _⟩ r h => h) (fun b ⟨_, _, _, _, _, _, _, _, _, _, _, _, _, _, _, _, _, _⟩ => rfl)) hS
  · cases h
end Go.Proofs.Ytdbpiopcbhmieaa

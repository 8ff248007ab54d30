/-
  DERIVED. What functions of the program compute, read off their bodies by the machine of SlB, and that it is so. Printed by a program of this claim's own.
-/
import Derived.Test.YtonfbgombglngaaSlStory2
namespace Go.Proofs.Ytonfbgombglngaa
open Go.Sl
set_option linter.unusedSimpArgs false
set_option linter.unusedVariables false

def firstP (n : Nat) (p : Nat → Bool) : Option Nat := (List.range n).find? p
theorem firstP_some {n i : Nat} {p : Nat → Bool} : firstP n p = some i ↔ p i = true ∧ i < n ∧ ∀ j, j < i → p j = false := by
  unfold firstP
  rw [List.find?_range_eq_some]
  simp
theorem firstP_none {n : Nat} {p : Nat → Bool} : firstP n p = none ↔ ∀ j, j < n → p j = false := by
  unfold firstP
  rw [List.find?_range_eq_none]
  simp
/-- Of places, in order: the first one of which it is false. -/
def ckF (n : Nat) (q : Nat → Bool) : Int × Bool :=
  match firstP n (fun i => !q i) with
  | some i => ((i : Int), false)
  | none => ((n : Int), true)
theorem ckF_stop {n i : Nat} {q : Nat → Bool} (h : ∀ j, j < i → q j = true) (hi : i < n) (hq : q i = false) : ckF n q = ((i : Int), false) := by
  unfold ckF
  rw [firstP_some.2 ⟨by simp [hq], hi, fun j hj => by simp [h j hj]⟩]
theorem ckF_end {n : Nat} {q : Nat → Bool} (h : ∀ j, j < n → q j = true) : ckF n q = ((n : Int), true) := by
  unfold ckF
  rw [firstP_none.2 fun j hj => by simp [h j hj]]
theorem lt_step {i : Int} {q : Nat → Bool} (h0 : 0 ≤ i) (h : ∀ j, j < i.toNat → q j = true) (hq : q i.toNat = true) : ∀ j, j < (i + 1).toNat → q j = true := fun j hj => by
  by_cases e : j = i.toNat
  · subst e; exact hq
  · exact h j (by omega)
/-- Does the event i fit behind those ahead of it? -/
def fitR (t p s : Int) (kd ep th nm oK oA oB rE rO rX aK pK pA pB sE sO sX : List Int) (i : Nat) : Bool := r33_fits t p s (kd.take i) (ep.take i) (th.take i) (nm.take i) (oK.take i) (oA.take i) (oB.take i) (rE.take i) (rO.take i) (rX.take i) (aK.take i) (pK.take i) (pA.take i) (pB.take i) (sE.take i) (sO.take i) (sX.take i) (kd.getD i 0) (ep.getD i 0) (th.getD i 0) (nm.getD i 0) (oK.getD i 0) (oA.getD i 0) (oB.getD i 0) (rE.getD i 0) (rO.getD i 0) (rX.getD i 0) (aK.getD i 0) (pK.getD i 0) (pA.getD i 0) (pB.getD i 0) (sE.getD i 0) (sO.getD i 0) (sX.getD i 0)


/- nacre/nacreref33.Check -/
def r33_Check (t : Int) (p : Int) (s : Int) (kd : List Int) (ep : List Int) (th : List Int) (nm : List Int) (oK : List Int) (oA : List Int) (oB : List Int) (rE : List Int) (rO : List Int) (rX : List Int) (aK : List Int) (pK : List Int) (pA : List Int) (pB : List Int) (sE : List Int) (sO : List Int) (sX : List Int) : Int × Bool := bif r04_Right t p s then ckF kd.length (fitR t p s kd ep th nm oK oA oB rE rO rX aK pK pA pB sE sO sX) else (0, false)
abbrev c_r33_Check : Ct Sg := ⟨none, false, [.agg [.i .i64, .i .i64, .i .i64], .ro [some .i64, some .i64, some .i64, some .i64, some .i64, some .i64, some .i64, some .i64, some .i64, some .i64, some .i64, some .i64, some .i64, some .i64, some .i64, some .i64, some .i64]], .tup [.i .i64, .b]⟩
def e_r33_Check : Entry Sg := entC c_r33_Check r33_Check (fun _ _ _ _ _ _ _ _ _ _ _ _ _ _ _ _ _ _ _ _ => [])
def r33_Check_w (t : Int) (p : Int) (s : Int) (kd : List Int) (ep : List Int) (th : List Int) (nm : List Int) (oK : List Int) (oA : List Int) (oB : List Int) (rE : List Int) (rO : List Int) (rX : List Int) (aK : List Int) (pK : List Int) (pA : List Int) (pB : List Int) (sE : List Int) (sO : List Int) (sX : List Int) (Q0 : Int → Prop) (R_ : Int × Bool → Prop) : Prop := (((!r04_Right t p s) = true → (R_ ((0 : Int), false))) ∧ ((!r04_Right t p s) = false → (Q0 ((0 : Int)))))
def r33_Check_w0 (t : Int) (p : Int) (s : Int) (kd : List Int) (ep : List Int) (th : List Int) (nm : List Int) (oK : List Int) (oA : List Int) (oB : List Int) (rE : List Int) (rO : List Int) (rX : List Int) (aK : List Int) (pK : List Int) (pA : List Int) (pB : List Int) (sE : List Int) (sO : List Int) (sX : List Int) (i : Int) (Q0 : Int → Prop) (R_ : Int × Bool → Prop) : Prop := (((decide (i < (↑(List.length kd) : Int))) = true → (((0 : Int) ≤ i ∧ i < (↑(List.length kd) : Int)) ∧ (((0 : Int) ≤ i ∧ i < (↑(List.length kd) : Int)) → (((0 : Int) ≤ i ∧ i ≤ (↑(List.length kd) : Int)) ∧ (((0 : Int) ≤ i ∧ i ≤ (↑(List.length kd) : Int)) → (∀ r3 : Bool, r3 = (r33_fits t p s (List.take (Int.toNat i) kd) (List.take (Int.toNat i) ep) (List.take (Int.toNat i) th) (List.take (Int.toNat i) nm) (List.take (Int.toNat i) oK) (List.take (Int.toNat i) oA) (List.take (Int.toNat i) oB) (List.take (Int.toNat i) rE) (List.take (Int.toNat i) rO) (List.take (Int.toNat i) rX) (List.take (Int.toNat i) aK) (List.take (Int.toNat i) pK) (List.take (Int.toNat i) pA) (List.take (Int.toNat i) pB) (List.take (Int.toNat i) sE) (List.take (Int.toNat i) sO) (List.take (Int.toNat i) sX) (List.getD kd (Int.toNat i) (0 : Int)) (List.getD ep (Int.toNat i) (0 : Int)) (List.getD th (Int.toNat i) (0 : Int)) (List.getD nm (Int.toNat i) (0 : Int)) (List.getD oK (Int.toNat i) (0 : Int)) (List.getD oA (Int.toNat i) (0 : Int)) (List.getD oB (Int.toNat i) (0 : Int)) (List.getD rE (Int.toNat i) (0 : Int)) (List.getD rO (Int.toNat i) (0 : Int)) (List.getD rX (Int.toNat i) (0 : Int)) (List.getD aK (Int.toNat i) (0 : Int)) (List.getD pK (Int.toNat i) (0 : Int)) (List.getD pA (Int.toNat i) (0 : Int)) (List.getD pB (Int.toNat i) (0 : Int)) (List.getD sE (Int.toNat i) (0 : Int)) (List.getD sO (Int.toNat i) (0 : Int)) (List.getD sX (Int.toNat i) (0 : Int))) → (((!r3) = true → (R_ (i, false))) ∧ ((!r3) = false → (Q0 (IntKind.wrap IntKind.i64 (i + (1 : Int)))))))))))) ∧ ((decide (i < (↑(List.length kd) : Int))) = false → (R_ ((↑(List.length kd) : Int), true))))
def r33_Check_I0 (t : Int) (p : Int) (s : Int) (kd : List Int) (ep : List Int) (th : List Int) (nm : List Int) (oK : List Int) (oA : List Int) (oB : List Int) (rE : List Int) (rO : List Int) (rX : List Int) (aK : List Int) (pK : List Int) (pA : List Int) (pB : List Int) (sE : List Int) (sO : List Int) (sX : List Int) (i : Int) (r_ : Int × Bool) : Prop := 0 ≤ i ∧ i ≤ kd.length ∧ (∀ j : Nat, j < i.toNat → fitR t p s kd ep th nm oK oA oB rE rO rX aK pK pA pB sE sO sX j = true) ∧ r_ = ckF kd.length (fitR t p s kd ep th nm oK oA oB rE rO rX aK pK pA pB sE sO sX)
theorem r33_Check_begin (t : Int) (p : Int) (s : Int) (kd : List Int) (ep : List Int) (th : List Int) (nm : List Int) (oK : List Int) (oA : List Int) (oB : List Int) (rE : List Int) (rO : List Int) (rX : List Int) (aK : List Int) (pK : List Int) (pA : List Int) (pB : List Int) (sE : List Int) (sO : List Int) (sX : List Int) (hl0 : kd.length ≤ 9223372036854775807) : r33_Check_w t p s kd ep th nm oK oA oB rE rO rX aK pK pA pB sE sO sX (fun i' => r33_Check_I0 t p s kd ep th nm oK oA oB rE rO rX aK pK pA pB sE sO sX i' (r33_Check t p s kd ep th nm oK oA oB rE rO rX aK pK pA pB sE sO sX)) (fun r__ => r__ = (r33_Check t p s kd ep th nm oK oA oB rE rO rX aK pK pA pB sE sO sX)) := by
  unfold r33_Check_w
  try unfold r33_Check_I0
  refine ⟨fun hc => ?_, fun hc => ?_⟩
  · simp only [Bool.not_eq_true'] at hc
    show _ = _
    simp only [r33_Check, hc, cond_false]
  · simp only [Bool.not_eq_false'] at hc
    exact ⟨by omega, by omega, fun j hj => absurd hj (Nat.not_lt_zero j), by simp only [r33_Check, hc, cond_true]⟩
theorem r33_Check_step0 (t : Int) (p : Int) (s : Int) (kd : List Int) (ep : List Int) (th : List Int) (nm : List Int) (oK : List Int) (oA : List Int) (oB : List Int) (rE : List Int) (rO : List Int) (rX : List Int) (aK : List Int) (pK : List Int) (pA : List Int) (pB : List Int) (sE : List Int) (sO : List Int) (sX : List Int) (hl0 : kd.length ≤ 9223372036854775807) (i : Int) {r_ : Int × Bool} (hI : r33_Check_I0 t p s kd ep th nm oK oA oB rE rO rX aK pK pA pB sE sO sX i r_) : r33_Check_w0 t p s kd ep th nm oK oA oB rE rO rX aK pK pA pB sE sO sX i (fun i' => r33_Check_I0 t p s kd ep th nm oK oA oB rE rO rX aK pK pA pB sE sO sX i' r_ ∧ lx ((kd.length - i').toNat, 0, 0) ((kd.length - i).toNat, 0, 0)) (fun r__ => r__ = r_) := by
  unfold r33_Check_I0 at hI
  unfold r33_Check_w0
  try unfold r33_Check_I0
  obtain ⟨h0, h1, h2, h3⟩ := hI
  refine ⟨fun h => ?_, fun h => ?_⟩
  · simp only [decide_eq_true_eq] at h
    have e : (i + 1).toNat = i.toNat + 1 := by omega
    have hi : (i.toNat : Int) = i := by omega
    try rw [w64 (n := i + 1) (by omega)]
  
    repeat' first
      | refine ⟨fun hc => ?_, fun hc => ?_⟩
      | refine ⟨⟨h0, h⟩, fun _ => ?_⟩
      | refine ⟨⟨by omega, by omega⟩, fun _ => ?_⟩
      | refine ⟨⟨by omega, by omega, ?_, h3⟩, lxo_⟩
      | fail
    · intro r hr
      refine ⟨fun hc => ?_, fun hc => ?_⟩
      · have hq : fitR t p s kd ep th nm oK oA oB rE rO rX aK pK pA pB sE sO sX i.toNat = false := by subst hr; exact (Bool.not_eq_true' _).mp hc
        show (i, false) = r_
        rw [h3, ckF_stop h2 (by omega) hq, hi]
      · have hq : fitR t p s kd ep th nm oK oA oB rE rO rX aK pK pA pB sE sO sX i.toNat = true := by subst hr; exact (Bool.not_eq_false' _).mp hc
        exact ⟨⟨by omega, by omega, lt_step h0 h2 hq, h3⟩, lxo_⟩
  · simp only [decide_eq_false_iff_not] at h
    have e : i.toNat = kd.length := by omega
  
    show ((kd.length : Int), true) = r_
    rw [h3, ckF_end fun j hj => h2 j (by omega)]
theorem r33_Check_ok : EntryOk Dg Try.prog 20 e_r33_Check :=
  ent_wp Dg T_r33_fits_ok (I := [411000000006, 411000000000, 411000000001, 411000000002]) Try.func20 mix (B := bodyOf Try.f20) (by kernel_rfl) rfl (by kernel_rfl) 400
    fun p0 t p s kd ep th nm oK oA oB rE rO rX aK pK pA pB sE sO sX hb hp => have hl0 : kd.length ≤ 9223372036854775807 := hb.2.1; ⟨[⟨none, [0,1,0,1,1], [.blk 0, .code [1,1,1]], [6, 0, 1, 2], [.i .i64, .agg [.ic .i64 (t), .ic .i64 (p), .ic .i64 (s)], .roc [.ints .i64 (kd), .ints .i64 (ep), .ints .i64 (th), .ints .i64 (nm), .ints .i64 (oK), .ints .i64 (oA), .ints .i64 (oB), .ints .i64 (rE), .ints .i64 (rO), .ints .i64 (rX), .ints .i64 (aK), .ints .i64 (pK), .ints .i64 (pA), .ints .i64 (pB), .ints .i64 (sE), .ints .i64 (sO), .ints .i64 (sX)], .box 39 [.ic .i64 (t), .ic .i64 (p), .ic .i64 (s)]]⟩], fun j => List.getD [appC (Hd.kd (⟨none, [0,1,0,1,1], [.blk 0, .code [1,1,1]], [6, 0, 1, 2], [.i .i64, .agg [.ic .i64 (t), .ic .i64 (p), .ic .i64 (s)], .roc [.ints .i64 (kd), .ints .i64 (ep), .ints .i64 (th), .ints .i64 (nm), .ints .i64 (oK), .ints .i64 (oA), .ints .i64 (oB), .ints .i64 (rE), .ints .i64 (rO), .ints .i64 (rX), .ints .i64 (aK), .ints .i64 (pK), .ints .i64 (pA), .ints .i64 (pB), .ints .i64 (sE), .ints .i64 (sO), .ints .i64 (sX)], .box 39 [.ic .i64 (t), .ic .i64 (p), .ic .i64 (s)]]⟩ : Hd Sg)) (fun i' => r33_Check_I0 t p s kd ep th nm oK oA oB rE rO rX aK pK pA pB sE sO sX i' (r33_Check t p s kd ep th nm oK oA oB rE rO rX aK pK pA pB sE sO sX))] j (fun _ => False), fun j => List.getD [appC (Hd.kd (⟨none, [0,1,0,1,1], [.blk 0, .code [1,1,1]], [6, 0, 1, 2], [.i .i64, .agg [.ic .i64 (t), .ic .i64 (p), .ic .i64 (s)], .roc [.ints .i64 (kd), .ints .i64 (ep), .ints .i64 (th), .ints .i64 (nm), .ints .i64 (oK), .ints .i64 (oA), .ints .i64 (oB), .ints .i64 (rE), .ints .i64 (rO), .ints .i64 (rX), .ints .i64 (aK), .ints .i64 (pK), .ints .i64 (pA), .ints .i64 (pB), .ints .i64 (sE), .ints .i64 (sO), .ints .i64 (sX)], .box 39 [.ic .i64 (t), .ic .i64 (p), .ic .i64 (s)]]⟩ : Hd Sg)) (fun i' => ((kd.length - i').toNat, 0, 0))] j (fun _ => (0, 0, 0)), by kernel_rfl, ⟨r33_Check_w t p s kd ep th nm oK oA oB rE rO rX aK pK pA pB sE sO sX (fun i' => r33_Check_I0 t p s kd ep th nm oK oA oB rE rO rX aK pK pA pB sE sO sX i' (r33_Check t p s kd ep th nm oK oA oB rE rO rX aK pK pA pB sE sO sX)) (fun r__ => r__ = (r33_Check t p s kd ep th nm oK oA oB rE rO rX aK pK pA pB sE sO sX)), fun _ _ _ => by kernel_rfl, r33_Check_begin t p s kd ep th nm oK oA oB rE rO rX aK pK pA pB sE sO sX hl0 ⟩, ⟨fun i hI => ⟨r33_Check_w0 t p s kd ep th nm oK oA oB rE rO rX aK pK pA pB sE sO sX i (fun i' => r33_Check_I0 t p s kd ep th nm oK oA oB rE rO rX aK pK pA pB sE sO sX i' (r33_Check t p s kd ep th nm oK oA oB rE rO rX aK pK pA pB sE sO sX) ∧ lx ((kd.length - i').toNat, 0, 0) ((kd.length - i).toNat, 0, 0)) (fun r__ => r__ = (r33_Check t p s kd ep th nm oK oA oB rE rO rX aK pK pA pB sE sO sX)), fun _ _ _ => by kernel_rfl, r33_Check_step0 t p s kd ep th nm oK oA oB rE rO rX aK pK pA pB sE sO sX hl0 i hI⟩, trivial⟩⟩
def T_r33_Check : List (Nat × Entry Sg) := (20, e_r33_Check) :: T_r33_fits
theorem T_r33_Check_ok : TableOk Dg Try.prog T_r33_Check := TableOk.cons Dg r33_Check_ok T_r33_fits_ok

/- nacre/conf.bounds -/
def conf_bounds (t : Int) (p : Int) (s : Int) : List Int × List Int × List Int := ([t, p, s], [(1 : Int), (4 : Int), (10 : Int)], [(16 : Int), (1024 : Int), (20 : Int)])
abbrev c_conf_bounds : Ct Sg := ⟨none, false, [.agg [.i .i64, .i .i64, .i .i64]], .new 167 [some .i64, some .i64, some .i64]⟩
def e_conf_bounds : Entry Sg := entC c_conf_bounds conf_bounds (fun _ _ _ => [])
theorem conf_bounds_ok : EntryOk Dg Try.prog 114 e_conf_bounds :=
  ent_ok Dg T_r33_Check_ok (I := []) Try.func114 mix (B := bodyOf Try.f114) (by kernel_rfl) rfl (by kernel_rfl) 400
    fun _ t p s hb hp => ⟨(conf_bounds t p s), .t, fun _ _ _ => by kernel_rfl, trivial, rfl⟩
def T_conf_bounds : List (Nat × Entry Sg) := (114, e_conf_bounds) :: T_r33_Check
theorem T_conf_bounds_ok : TableOk Dg Try.prog T_conf_bounds := TableOk.cons Dg conf_bounds_ok T_r33_Check_ok

/- nacre/conf.Check$1 -/
def conf_Check1 (n : Int) (lo : Int) (hi : Int) : Bool := decide (n < lo) || decide (n > hi)
abbrev c_conf_Check1 : Ct Sg := ⟨none, false, [.agg [.i .i64, .i .i64, .i .i64]], .b⟩
def e_conf_Check1 : Entry Sg := entC c_conf_Check1 conf_Check1 (fun _ _ _ => [])
theorem conf_Check1_ok : EntryOk Dg Try.prog 115 e_conf_Check1 :=
  ent_ok Dg T_conf_bounds_ok (I := []) Try.func115 mix (B := bodyOf Try.f115) (by kernel_rfl) rfl (by kernel_rfl) 400
    fun _ n lo hi hb hp => ⟨(conf_Check1 n lo hi), .t, fun _ _ _ => by kernel_rfl, trivial, rfl⟩
def T_conf_Check1 : List (Nat × Entry Sg) := (115, e_conf_Check1) :: T_conf_bounds
theorem T_conf_Check1_ok : TableOk Dg Try.prog T_conf_Check1 := TableOk.cons Dg conf_Check1_ok T_conf_bounds_ok

def idxOr : Option Nat → Int
  | some i => (i : Int)
  | none => -1


/- slices.IndexFunc[[]nacre/conf.bound,nacre/conf.bound] -/
def IndexBad (xs : List Int) (ys : List Int) (zs : List Int) : Int := idxOr (firstP xs.length fun j => conf_Check1 (xs.getD j 0) (ys.getD j 0) (zs.getD j 0))
abbrev c_IndexBad : Ct Sg := ⟨none, false, [.ro [some .i64, some .i64, some .i64], .fn 115], .i .i64⟩
def e_IndexBad : Entry Sg := entC c_IndexBad IndexBad (fun _ _ _ => [])
def IndexBad_w (xs : List Int) (ys : List Int) (zs : List Int) (Q0 : Int → Prop) (R_ : Int → Prop) : Prop := (Q0 ((0 : Int)))
def IndexBad_w0 (xs : List Int) (ys : List Int) (zs : List Int) (i : Int) (Q0 : Int → Prop) (R_ : Int → Prop) : Prop := (((decide (i < (↑(List.length xs) : Int))) = true → (((0 : Int) ≤ i ∧ i < (↑(List.length xs) : Int)) ∧ (((0 : Int) ≤ i ∧ i < (↑(List.length xs) : Int)) → (((conf_Check1 (List.getD xs (Int.toNat i) (0 : Int)) (List.getD ys (Int.toNat i) (0 : Int)) (List.getD zs (Int.toNat i) (0 : Int))) = true → (R_ i)) ∧ ((conf_Check1 (List.getD xs (Int.toNat i) (0 : Int)) (List.getD ys (Int.toNat i) (0 : Int)) (List.getD zs (Int.toNat i) (0 : Int))) = false → (Q0 (IntKind.wrap IntKind.i64 (i + (1 : Int))))))))) ∧ ((decide (i < (↑(List.length xs) : Int))) = false → (R_ (-1 : Int))))
def IndexBad_I0 (xs : List Int) (ys : List Int) (zs : List Int) (i : Int) (r_ : Int) : Prop := 0 ≤ i ∧ i ≤ xs.length ∧ (∀ j : Nat, j < i.toNat → conf_Check1 (xs.getD j 0) (ys.getD j 0) (zs.getD j 0) = false) ∧ r_ = IndexBad xs ys zs
theorem IndexBad_begin (xs : List Int) (ys : List Int) (zs : List Int) (hl0 : xs.length ≤ 9223372036854775807) : IndexBad_w xs ys zs (fun i' => IndexBad_I0 xs ys zs i' (IndexBad xs ys zs)) (fun r__ => r__ = (IndexBad xs ys zs)) := by
  unfold IndexBad_w
  try unfold IndexBad_I0
  exact ⟨by omega, by omega, fun j hj => absurd hj (Nat.not_lt_zero j), rfl⟩
theorem IndexBad_step0 (xs : List Int) (ys : List Int) (zs : List Int) (hl0 : xs.length ≤ 9223372036854775807) (i : Int) {r_ : Int} (hI : IndexBad_I0 xs ys zs i r_) : IndexBad_w0 xs ys zs i (fun i' => IndexBad_I0 xs ys zs i' r_ ∧ lx ((xs.length - i').toNat, 0, 0) ((xs.length - i).toNat, 0, 0)) (fun r__ => r__ = r_) := by
  unfold IndexBad_I0 at hI
  unfold IndexBad_w0
  try unfold IndexBad_I0
  obtain ⟨h0, h1, h2, h3⟩ := hI
  refine ⟨fun h => ?_, fun h => ?_⟩
  · simp only [decide_eq_true_eq] at h
    refine ⟨by omega, fun _ => ⟨fun hg => ?_, fun hg => ?_⟩⟩
    · have := (firstP_some (n := xs.length) (p := fun j => conf_Check1 (xs.getD j 0) (ys.getD j 0) (zs.getD j 0))).2 ⟨hg, by omega, h2⟩
      show i = r_
      simp only [h3, IndexBad, this, idxOr]
      omega
    · rw [w64 (by omega)]
      refine ⟨⟨by omega, by omega, fun j hj => ?_, h3⟩, lxo_⟩
      by_cases hk : j = i.toNat
      · subst hk; exact hg
      · exact h2 j (by omega)
  · simp only [decide_eq_false_iff_not] at h
    show (-1 : Int) = r_
    have := (firstP_none (n := xs.length) (p := fun j => conf_Check1 (xs.getD j 0) (ys.getD j 0) (zs.getD j 0))).2 fun j hj => h2 j (by omega)
    simp only [h3, IndexBad, this, idxOr]
theorem IndexBad_ok : EntryOk Dg Try.prog 140 e_IndexBad :=
  ent_wp Dg T_conf_Check1_ok (I := [103000000008, 103000000007, 103000000000, 103000000001]) Try.func140 mix (B := bodyOf Try.f140) (by kernel_rfl) rfl (by kernel_rfl) 400
    fun p0 xs ys zs hb hp => have hl0 : xs.length ≤ 9223372036854775807 := hb.1; ⟨[⟨none, [0,1,0,1], [.blk 0, .code [1,1]], [8, 7, 0, 1], [.i .i64, .ic .i64 ((xs.length : Int)), .roc [.ints .i64 (xs), .ints .i64 (ys), .ints .i64 (zs)], .fn 115]⟩], fun j => List.getD [appC (Hd.kd (⟨none, [0,1,0,1], [.blk 0, .code [1,1]], [8, 7, 0, 1], [.i .i64, .ic .i64 ((xs.length : Int)), .roc [.ints .i64 (xs), .ints .i64 (ys), .ints .i64 (zs)], .fn 115]⟩ : Hd Sg)) (fun i' => IndexBad_I0 xs ys zs i' (IndexBad xs ys zs))] j (fun _ => False), fun j => List.getD [appC (Hd.kd (⟨none, [0,1,0,1], [.blk 0, .code [1,1]], [8, 7, 0, 1], [.i .i64, .ic .i64 ((xs.length : Int)), .roc [.ints .i64 (xs), .ints .i64 (ys), .ints .i64 (zs)], .fn 115]⟩ : Hd Sg)) (fun i' => ((xs.length - i').toNat, 0, 0))] j (fun _ => (0, 0, 0)), by kernel_rfl, ⟨IndexBad_w xs ys zs (fun i' => IndexBad_I0 xs ys zs i' (IndexBad xs ys zs)) (fun r__ => r__ = (IndexBad xs ys zs)), fun _ _ _ => by kernel_rfl, IndexBad_begin xs ys zs hl0 ⟩, ⟨fun i hI => ⟨IndexBad_w0 xs ys zs i (fun i' => IndexBad_I0 xs ys zs i' (IndexBad xs ys zs) ∧ lx ((xs.length - i').toNat, 0, 0) ((xs.length - i).toNat, 0, 0)) (fun r__ => r__ = (IndexBad xs ys zs)), fun _ _ _ => by kernel_rfl, IndexBad_step0 xs ys zs hl0 i hI⟩, trivial⟩⟩
def T_IndexBad : List (Nat × Entry Sg) := (140, e_IndexBad) :: T_conf_Check1
theorem T_IndexBad_ok : TableOk Dg Try.prog T_IndexBad := TableOk.cons Dg IndexBad_ok T_conf_Check1_ok

/- slices.ContainsFunc[[]nacre/conf.bound,nacre/conf.bound] -/
def ContainsBad (xs : List Int) (ys : List Int) (zs : List Int) : Bool := decide (IndexBad xs ys zs ≥ (0 : Int))
abbrev c_ContainsBad : Ct Sg := ⟨none, false, [.ro [some .i64, some .i64, some .i64], .fn 115], .b⟩
def e_ContainsBad : Entry Sg := entC c_ContainsBad ContainsBad (fun _ _ _ => [])
theorem ContainsBad_ok : EntryOk Dg Try.prog 113 e_ContainsBad :=
  ent_ok Dg T_IndexBad_ok (I := []) Try.func113 mix (B := bodyOf Try.f113) (by kernel_rfl) rfl (by kernel_rfl) 400
    fun _ xs ys zs hb hp => have hl0 : xs.length ≤ 9223372036854775807 := hb.1; ⟨(ContainsBad xs ys zs), .t, fun _ _ _ => by kernel_rfl, trivial, rfl⟩
def T_ContainsBad : List (Nat × Entry Sg) := (113, e_ContainsBad) :: T_IndexBad
theorem T_ContainsBad_ok : TableOk Dg Try.prog T_ContainsBad := TableOk.cons Dg ContainsBad_ok T_IndexBad_ok

/- nacre/conf.Check -/
def conf_Check (t : Int) (p : Int) (s : Int) : Int := (let r1 : List Int × List Int × List Int := conf_bounds t p s; (bif ContainsBad (Prod.fst r1) (Prod.fst (Prod.snd r1)) (Prod.snd (Prod.snd r1)) then (1 : Int) else (0 : Int)))
abbrev c_conf_Check : Ct Sg := ⟨none, false, [.agg [.i .i64, .i .i64, .i .i64]], .i .i64⟩
def e_conf_Check : Entry Sg := entC c_conf_Check conf_Check (fun _ _ _ => [])
theorem conf_Check_ok : EntryOk Dg Try.prog 57 e_conf_Check :=
  ent_ok Dg T_ContainsBad_ok (I := []) Try.func57 mix (B := bodyOf Try.f57) (by kernel_rfl) rfl (by kernel_rfl) 400
    fun _ t p s hb hp => ⟨(conf_Check t p s), .t, fun _ _ _ => by kernel_rfl, trivial, rfl⟩
def T_conf_Check : List (Nat × Entry Sg) := (57, e_conf_Check) :: T_ContainsBad
theorem T_conf_Check_ok : TableOk Dg Try.prog T_conf_Check := TableOk.cons Dg conf_Check_ok T_ContainsBad_ok

theorem conf_Check_eq (t p s : Int) : conf_Check t p s = bif r04_Right t p s then 0 else 1 := by
  have e : ∀ o : Option Nat, decide (idxOr o ≥ 0) = o.isSome := fun o => by cases o <;> simp [idxOr]
  have h : ContainsBad [t, p, s] [1, 4, 10] [16, 1024, 20] = !r04_Right t p s := by
    unfold ContainsBad IndexBad
    rw [e]
    cases hf : firstP [t, p, s].length (fun j => conf_Check1 ([t, p, s].getD j 0) ([1, 4, 10].getD j 0) ([16, 1024, 20].getD j 0)) with
    | none =>
      have hn := firstP_none.1 hf
      have h0 := hn 0 (by simp)
      have h1 := hn 1 (by simp)
      have h2 := hn 2 (by simp)
      simp [conf_Check1] at h0 h1 h2
      have : r04_Right t p s = true := by simp only [r04_Right, Bool.and_eq_true, decide_eq_true_eq]; omega
      rw [this]; rfl
    | some j =>
      obtain ⟨h1, h2, _⟩ := firstP_some.1 hf
      have : r04_Right t p s = false := by
        apply Bool.eq_false_iff.2
        intro hr
        simp only [r04_Right, Bool.and_eq_true, decide_eq_true_eq] at hr
        have hj : j = 0 ∨ j = 1 ∨ j = 2 := by simp at h2; omega
        rcases hj with rfl | rfl | rfl <;> simp [conf_Check1] at h1 <;> omega
      rw [this]; rfl
  unfold conf_Check
  simp only [conf_bounds, h]
  cases r04_Right t p s <;> rfl

end Go.Proofs.Ytonfbgombglngaa

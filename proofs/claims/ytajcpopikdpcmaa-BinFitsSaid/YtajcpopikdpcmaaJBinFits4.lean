/-
  DERIVED. Part 4 of the texts of this claim: What functions of the program compute, read off their bodies by the machine of SlB, and that it is so. Printed by a program of this claim's own.
-/
import Derived.Test.YtajcpopikdpcmaaJBinFits3
set_option linter.unusedSimpArgs false
set_option linter.unusedVariables false
namespace Go.Proofs.Ytajcpopikdpcmaa
open Go.Sl
theorem lxp_ {x y : Nat × Nat × Nat} (h : lx x y := by unfold lx; dsimp only; omega) : lx x y := h
theorem r07_Rack_eq (k : Int) : r07_Rack k = cRack k := by
  unfold r07_Rack cRack
  by_cases hg : 0 ≤ k ∧ k < 9
  · have a1 : (decide (k < 0) || decide (k > 8)) = false := by simp; omega
    have a2 : (decide (0 ≤ k) && decide (k < 9)) = true := by simp; omega
    rw [a2]
    first | (rw [a1]; simp only [cond_false, cond_true]; rw [w64 (by omega)]) | (simp only [cond_true]; rw [w64 (by omega)])
  · have a1 : (decide (k < 0) || decide (k > 8)) = true := by simp; omega
    have a2 : (decide (0 ≤ k) && decide (k < 9)) = false := by simp; omega
    rw [a2]
    first | (rw [a1]; rfl) | rfl
def x_bins (t : Int) (p : Int) (sh : Int) (xs : List Int) : Bool := bins ⟨t, p, sh⟩ xs
abbrev c_x_bins : Ct Sg := ⟨none, false, [.agg [.i .i64, .i .i64, .i .i64, .ro [some .u32]]], .b⟩
def e_x_bins : Entry Sg := entC c_x_bins x_bins (fun t p sh xs => [AGood ⟨t, p, sh⟩ xs])
def x_bins_w (t : Int) (p : Int) (sh : Int) (xs : List Int) (Q0 : Int → Prop) (Q1 : Int → Nat → List Int → Int → Prop) (R_ : Bool → Prop) : Prop := (Q0 ((0 : Int)))
def x_bins_w0 (t : Int) (p : Int) (sh : Int) (xs : List Int) (k : Int) (Q0 : Int → Prop) (Q1 : Int → Nat → List Int → Int → Prop) (R_ : Bool → Prop) : Prop := (((decide (k < (11 : Int))) = true → (∀ r1 : Int, r1 = (r07_Bin k) → (∀ r2 : List Int × Bool, r2 = (x_List t p sh xs r1) → ((AGood { t := t, p := p, s := sh } xs) ∧ ((AGood { t := t, p := p, s := sh } xs) → (((0 : Int) ≤ r1 ∧ r1 < (↑(List.length xs) : Int)) ∧ (((0 : Int) ≤ r1 ∧ r1 < (↑(List.length xs) : Int)) → (((!Prod.snd r2) = true → (R_ (false))) ∧ ((!Prod.snd r2) = false → (Q1 ((0 : Int)) (List.length (Prod.fst r2)) (Prod.fst r2) (k))))))))))) ∧ ((decide (k < (11 : Int))) = false → (R_ (true))))
def x_bins_I0 (t : Int) (p : Int) (sh : Int) (xs : List Int) (k : Int) (r_ : Bool) : Prop := 0 ≤ k ∧ k ≤ 11 ∧ binsF ⟨t, p, sh⟩ xs (11 - k).toNat = r_
def x_bins_w1 (t : Int) (p : Int) (sh : Int) (xs : List Int) (i : Int) (n1 : Nat) (ls : List Int) (k : Int) (Q0 : Int → Prop) (Q1 : Int → Nat → List Int → Int → Prop) (R_ : Bool → Prop) : Prop := (((decide (i < p)) = true → ((AGood { t := t, p := p, s := sh } xs) ∧ ((AGood { t := t, p := p, s := sh } xs) → (((0 : Int) ≤ i ∧ i < p) ∧ (((0 : Int) ≤ i ∧ i < p) → (((x_binned t p sh xs i k) = true → (((r12_in ls i != (1 : Int)) = true → (R_ (false))) ∧ ((r12_in ls i != (1 : Int)) = false → (Q1 (IntKind.wrap IntKind.i64 (i + (1 : Int))) (n1) (ls) (k))))) ∧ ((x_binned t p sh xs i k) = false → (((r12_in ls i != (0 : Int)) = true → (R_ (false))) ∧ ((r12_in ls i != (0 : Int)) = false → (Q1 (IntKind.wrap IntKind.i64 (i + (1 : Int))) (n1) (ls) (k))))))))))) ∧ ((decide (i < p)) = false → (Q0 (IntKind.wrap IntKind.i64 (k + (1 : Int))))))
def x_bins_I1 (t : Int) (p : Int) (sh : Int) (xs : List Int) (i : Int) (n1 : Nat) (ls : List Int) (k : Int) (r_ : Bool) : Prop := 0 ≤ k ∧ k < 11 ∧ 0 ≤ i ∧ i ≤ p ∧ n1 = ls.length ∧ (bif onceF ⟨t, p, sh⟩ ls (fun g => binned ⟨t, p, sh⟩ xs g k) (p - i).toNat then binsF ⟨t, p, sh⟩ xs (10 - k).toNat else false) = r_
theorem x_bins_begin (t : Int) (p : Int) (sh : Int) (xs : List Int) (hp0 : AGood ⟨t, p, sh⟩ xs) (hl0 : xs.length ≤ 9223372036854775807) : x_bins_w t p sh xs (fun k' => x_bins_I0 t p sh xs k' (x_bins t p sh xs)) (fun i' n1' ls' k' => x_bins_I1 t p sh xs i' n1' ls' k' (x_bins t p sh xs)) (fun r__ => r__ = (x_bins t p sh xs)) := by
  unfold x_bins_w
  try unfold x_bins_I0
  try unfold x_bins_I1
  exact ⟨by omega, by omega, rfl⟩
theorem x_bins_step0 (t : Int) (p : Int) (sh : Int) (xs : List Int) (hp0 : AGood ⟨t, p, sh⟩ xs) (hl0 : xs.length ≤ 9223372036854775807) (k : Int) {r_ : Bool} (hI : x_bins_I0 t p sh xs k r_) : x_bins_w0 t p sh xs k (fun k' => x_bins_I0 t p sh xs k' r_ ∧ lx ((11 - k').toNat, p.toNat + 1, 0) ((11 - k).toNat, p.toNat + 1, 0)) (fun i' n1' ls' k' => x_bins_I1 t p sh xs i' n1' ls' k' r_ ∧ lx ((11 - k').toNat, (p - i').toNat, 0) ((11 - k).toNat, p.toNat + 1, 0)) (fun r__ => r__ = r_) := by
  unfold x_bins_I0 at hI
  unfold x_bins_w0
  try unfold x_bins_I0
  try unfold x_bins_I1
  obtain ⟨h0, h1, hr⟩ := hI
  have hok := Cf.ok_iff.1 hp0.ok
  simp only at hok
  refine ⟨fun h => ?_, fun h => ?_⟩
  · simp only [decide_eq_true_eq] at h
    have e : (11 - k).toNat = (10 - k).toNat + 1 := by omega
    have ek : (11 : Int) - (((10 - k).toNat + 1 : Nat) : Int) = k := by omega
    rw [e] at hr
    simp only [binsF] at hr
    rw [ek] at hr
    have hb := bin_in hp0 (k := k) ⟨h0, h⟩
    rintro r1 rfl r2 rfl
    rw [r07_Bin_eq]
    refine ⟨hp0, fun _ => ⟨hb, fun _ => ⟨fun hc => ?_, fun hc => ?_⟩⟩⟩
    · have hc' : (listA ⟨t, p, sh⟩ xs (cBin k)).2 = false := by simpa [x_List] using hc
      rw [hc', cond_false] at hr; exact hr
    · have hc' : (listA ⟨t, p, sh⟩ xs (cBin k)).2 = true := by simpa [x_List] using hc
      rw [hc', cond_true] at hr
      refine ⟨⟨h0, h, by omega, by omega, rfl, ?_⟩, lxp_⟩
      rw [show (p - 0).toNat = p.toNat by omega]; exact hr
  · simp only [decide_eq_false_iff_not] at h
    rw [show (11 - k).toNat = 0 by omega] at hr
    exact hr
theorem x_bins_step1 (t : Int) (p : Int) (sh : Int) (xs : List Int) (hp0 : AGood ⟨t, p, sh⟩ xs) (hl0 : xs.length ≤ 9223372036854775807) (i : Int) (n1 : Nat) (ls : List Int) (k : Int) {r_ : Bool} (hI : x_bins_I1 t p sh xs i n1 ls k r_) : x_bins_w1 t p sh xs i n1 ls k (fun k' => x_bins_I0 t p sh xs k' r_ ∧ lx ((11 - k').toNat, p.toNat + 1, 0) ((11 - k).toNat, (p - i).toNat, 0)) (fun i' n1' ls' k' => x_bins_I1 t p sh xs i' n1' ls' k' r_ ∧ lx ((11 - k').toNat, (p - i').toNat, 0) ((11 - k).toNat, (p - i).toNat, 0)) (fun r__ => r__ = r_) := by
  unfold x_bins_I1 at hI
  unfold x_bins_w1
  try unfold x_bins_I0
  try unfold x_bins_I1
  obtain ⟨h0, h1, h2, h3, h4, hr⟩ := hI
  have hok := Cf.ok_iff.1 hp0.ok
  simp only at hok
  refine ⟨fun h => ?_, fun h => ?_⟩
  · simp only [decide_eq_true_eq] at h
    have hg : 0 ≤ i ∧ i < p := ⟨h2, h⟩
    have e : (p - i).toNat = (p - (i + 1)).toNat + 1 := by omega
    have ei : (p : Int) - (((p - (i + 1)).toNat + 1 : Nat) : Int) = i := by omega
    rw [e] at hr
    simp only [onceF] at hr
    rw [ei] at hr
    rw [w64 (n := i + 1) (by omega)]
    refine ⟨hp0, fun _ => ⟨hg, fun _ => ⟨fun hc => ?_, fun hc => ?_⟩⟩⟩
    · have hc' : binned ⟨t, p, sh⟩ xs i k = true := hc
      rw [hc', cond_true] at hr
      refine ⟨fun hn => ?_, fun hn => ?_⟩
      · have hn' : (inA ls i != 1) = true := hn
        rw [hn', cond_true, cond_false] at hr; exact hr
      · have hn' : (inA ls i != 1) = false := hn
        rw [hn', cond_false] at hr
        exact ⟨⟨h0, h1, by omega, by omega, h4, hr⟩, lxp_⟩
    · have hc' : binned ⟨t, p, sh⟩ xs i k = false := hc
      rw [hc', cond_false] at hr
      refine ⟨fun hn => ?_, fun hn => ?_⟩
      · have hn' : (inA ls i != 0) = true := hn
        rw [hn', cond_true, cond_false] at hr; exact hr
      · have hn' : (inA ls i != 0) = false := hn
        rw [hn', cond_false] at hr
        exact ⟨⟨h0, h1, by omega, by omega, h4, hr⟩, lxp_⟩
  · simp only [decide_eq_false_iff_not] at h
    rw [show (p - i).toNat = 0 by omega] at hr
    simp only [onceF, cond_true] at hr
    rw [w64 (n := k + 1) (by omega)]
    refine ⟨⟨by omega, by omega, ?_⟩, lxp_⟩
    rw [show (11 - (k + 1)).toNat = (10 - k).toNat by omega]; exact hr
theorem x_bins_ok : EntryOk Dg Try.prog 30 e_x_bins :=
  ent_wp Dg T_x_counts_ok (I := [103000000003, 103000000001, 8549000000006, 8549000000004, 8549000000003, 8549000000001]) Try.func30 mix (B := bodyOf Try.f30) (by kernel_rfl) rfl (by kernel_rfl) 400
    fun p0 t p sh xs hb hp => have hl0 : xs.length ≤ 9223372036854775807 := hb.1.2.2.2.1; have hp0 : AGood ⟨t, p, sh⟩ xs := hp _ (.head _); ⟨[⟨none, [0,1,0,1], [.blk 0, .code [1,1]], [3, 1], [.i .i64, .box 36 [.ic .i64 (t), .ic .i64 (p), .ic .i64 (sh), .roc [.ints .u32 (xs)]]]⟩, ⟨none, [0,1,1,1,0,0,1,0,0,1,0,1], [.blk 2, .blk 1, .code [1,1,0,0,1,0,1], .again [0,1,0,1], .blk 0, .code [1,1]], [6, 4, 3, 1], [.i .i64, .own 3 [some .i64], .i .i64, .box 36 [.ic .i64 (t), .ic .i64 (p), .ic .i64 (sh), .roc [.ints .u32 (xs)]]]⟩], fun j => List.getD [appC (Hd.kd (⟨none, [0,1,0,1], [.blk 0, .code [1,1]], [3, 1], [.i .i64, .box 36 [.ic .i64 (t), .ic .i64 (p), .ic .i64 (sh), .roc [.ints .u32 (xs)]]]⟩ : Hd Sg)) (fun k' => x_bins_I0 t p sh xs k' (x_bins t p sh xs)), appC (Hd.kd (⟨none, [0,1,1,1,0,0,1,0,0,1,0,1], [.blk 2, .blk 1, .code [1,1,0,0,1,0,1], .again [0,1,0,1], .blk 0, .code [1,1]], [6, 4, 3, 1], [.i .i64, .own 3 [some .i64], .i .i64, .box 36 [.ic .i64 (t), .ic .i64 (p), .ic .i64 (sh), .roc [.ints .u32 (xs)]]]⟩ : Hd Sg)) (fun i' n1' ls' k' => x_bins_I1 t p sh xs i' n1' ls' k' (x_bins t p sh xs))] j (fun _ => False), fun j => List.getD [appC (Hd.kd (⟨none, [0,1,0,1], [.blk 0, .code [1,1]], [3, 1], [.i .i64, .box 36 [.ic .i64 (t), .ic .i64 (p), .ic .i64 (sh), .roc [.ints .u32 (xs)]]]⟩ : Hd Sg)) (fun k' => ((11 - k').toNat, p.toNat + 1, 0)), appC (Hd.kd (⟨none, [0,1,1,1,0,0,1,0,0,1,0,1], [.blk 2, .blk 1, .code [1,1,0,0,1,0,1], .again [0,1,0,1], .blk 0, .code [1,1]], [6, 4, 3, 1], [.i .i64, .own 3 [some .i64], .i .i64, .box 36 [.ic .i64 (t), .ic .i64 (p), .ic .i64 (sh), .roc [.ints .u32 (xs)]]]⟩ : Hd Sg)) (fun i' n1' ls' k' => ((11 - k').toNat, (p - i').toNat, 0))] j (fun _ => (0, 0, 0)), by kernel_rfl, ⟨x_bins_w t p sh xs (fun k' => x_bins_I0 t p sh xs k' (x_bins t p sh xs)) (fun i' n1' ls' k' => x_bins_I1 t p sh xs i' n1' ls' k' (x_bins t p sh xs)) (fun r__ => r__ = (x_bins t p sh xs)), fun _ _ _ => by kernel_rfl, x_bins_begin t p sh xs hp0 hl0 ⟩, ⟨fun k hI => ⟨x_bins_w0 t p sh xs k (fun k' => x_bins_I0 t p sh xs k' (x_bins t p sh xs) ∧ lx ((11 - k').toNat, p.toNat + 1, 0) ((11 - k).toNat, p.toNat + 1, 0)) (fun i' n1' ls' k' => x_bins_I1 t p sh xs i' n1' ls' k' (x_bins t p sh xs) ∧ lx ((11 - k').toNat, (p - i').toNat, 0) ((11 - k).toNat, p.toNat + 1, 0)) (fun r__ => r__ = (x_bins t p sh xs)), fun _ _ _ => by kernel_rfl, x_bins_step0 t p sh xs hp0 hl0 k hI⟩, ⟨fun i n1 ls k hI => ⟨x_bins_w1 t p sh xs i n1 ls k (fun k' => x_bins_I0 t p sh xs k' (x_bins t p sh xs) ∧ lx ((11 - k').toNat, p.toNat + 1, 0) ((11 - k).toNat, (p - i).toNat, 0)) (fun i' n1' ls' k' => x_bins_I1 t p sh xs i' n1' ls' k' (x_bins t p sh xs) ∧ lx ((11 - k').toNat, (p - i').toNat, 0) ((11 - k).toNat, (p - i).toNat, 0)) (fun r__ => r__ = (x_bins t p sh xs)), fun _ _ _ => by kernel_rfl, x_bins_step1 t p sh xs hp0 hl0 i n1 ls k hI⟩, trivial⟩⟩⟩
def T_x_bins : List (Nat × Entry Sg) := (30, e_x_bins) :: T_x_counts
theorem T_x_bins_ok : TableOk Dg Try.prog T_x_bins := TableOk.cons Dg x_bins_ok T_x_counts_ok
def x_racks (t : Int) (p : Int) (sh : Int) (xs : List Int) : Bool := racks ⟨t, p, sh⟩ xs
abbrev c_x_racks : Ct Sg := ⟨none, false, [.agg [.i .i64, .i .i64, .i .i64, .ro [some .u32]]], .b⟩
def e_x_racks : Entry Sg := entC c_x_racks x_racks (fun t p sh xs => [AGood ⟨t, p, sh⟩ xs])
def x_racks_w (t : Int) (p : Int) (sh : Int) (xs : List Int) (Q0 : Int → Prop) (Q1 : Int → Nat → List Int → Int → Prop) (R_ : Bool → Prop) : Prop := (Q0 ((0 : Int)))
def x_racks_w0 (t : Int) (p : Int) (sh : Int) (xs : List Int) (k : Int) (Q0 : Int → Prop) (Q1 : Int → Nat → List Int → Int → Prop) (R_ : Bool → Prop) : Prop := (((decide (k < (9 : Int))) = true → (∀ r1 : Int, r1 = (r07_Rack k) → (∀ r2 : List Int × Bool, r2 = (x_List t p sh xs r1) → ((AGood { t := t, p := p, s := sh } xs) ∧ ((AGood { t := t, p := p, s := sh } xs) → (((0 : Int) ≤ r1 ∧ r1 < (↑(List.length xs) : Int)) ∧ (((0 : Int) ≤ r1 ∧ r1 < (↑(List.length xs) : Int)) → (((!Prod.snd r2) = true → (R_ (false))) ∧ ((!Prod.snd r2) = false → (Q1 ((0 : Int)) (List.length (Prod.fst r2)) (Prod.fst r2) (k))))))))))) ∧ ((decide (k < (9 : Int))) = false → (R_ (true))))
def x_racks_I0 (t : Int) (p : Int) (sh : Int) (xs : List Int) (k : Int) (r_ : Bool) : Prop := 0 ≤ k ∧ k ≤ 9 ∧ racksF ⟨t, p, sh⟩ xs (9 - k).toNat = r_
def x_racks_w1 (t : Int) (p : Int) (sh : Int) (xs : List Int) (i : Int) (n1 : Nat) (ls : List Int) (k : Int) (Q0 : Int → Prop) (Q1 : Int → Nat → List Int → Int → Prop) (R_ : Bool → Prop) : Prop := (((decide (i < p)) = true → ((AGood { t := t, p := p, s := sh } xs) ∧ ((AGood { t := t, p := p, s := sh } xs) → (((0 : Int) ≤ i ∧ i < p) ∧ (((0 : Int) ≤ i ∧ i < p) → (((x_racked t p sh xs i k) = true → (((r12_in ls i != (1 : Int)) = true → (R_ (false))) ∧ ((r12_in ls i != (1 : Int)) = false → (Q1 (IntKind.wrap IntKind.i64 (i + (1 : Int))) (n1) (ls) (k))))) ∧ ((x_racked t p sh xs i k) = false → (((r12_in ls i != (0 : Int)) = true → (R_ (false))) ∧ ((r12_in ls i != (0 : Int)) = false → (Q1 (IntKind.wrap IntKind.i64 (i + (1 : Int))) (n1) (ls) (k))))))))))) ∧ ((decide (i < p)) = false → (Q0 (IntKind.wrap IntKind.i64 (k + (1 : Int))))))
def x_racks_I1 (t : Int) (p : Int) (sh : Int) (xs : List Int) (i : Int) (n1 : Nat) (ls : List Int) (k : Int) (r_ : Bool) : Prop := 0 ≤ k ∧ k < 9 ∧ 0 ≤ i ∧ i ≤ p ∧ n1 = ls.length ∧ (bif onceF ⟨t, p, sh⟩ ls (fun g => racked ⟨t, p, sh⟩ xs g k) (p - i).toNat then racksF ⟨t, p, sh⟩ xs (8 - k).toNat else false) = r_
theorem x_racks_begin (t : Int) (p : Int) (sh : Int) (xs : List Int) (hp0 : AGood ⟨t, p, sh⟩ xs) (hl0 : xs.length ≤ 9223372036854775807) : x_racks_w t p sh xs (fun k' => x_racks_I0 t p sh xs k' (x_racks t p sh xs)) (fun i' n1' ls' k' => x_racks_I1 t p sh xs i' n1' ls' k' (x_racks t p sh xs)) (fun r__ => r__ = (x_racks t p sh xs)) := by
  unfold x_racks_w
  try unfold x_racks_I0
  try unfold x_racks_I1
  exact ⟨by omega, by omega, rfl⟩
theorem x_racks_step0 (t : Int) (p : Int) (sh : Int) (xs : List Int) (hp0 : AGood ⟨t, p, sh⟩ xs) (hl0 : xs.length ≤ 9223372036854775807) (k : Int) {r_ : Bool} (hI : x_racks_I0 t p sh xs k r_) : x_racks_w0 t p sh xs k (fun k' => x_racks_I0 t p sh xs k' r_ ∧ lx ((9 - k').toNat, p.toNat + 1, 0) ((9 - k).toNat, p.toNat + 1, 0)) (fun i' n1' ls' k' => x_racks_I1 t p sh xs i' n1' ls' k' r_ ∧ lx ((9 - k').toNat, (p - i').toNat, 0) ((9 - k).toNat, p.toNat + 1, 0)) (fun r__ => r__ = r_) := by
  unfold x_racks_I0 at hI
  unfold x_racks_w0
  try unfold x_racks_I0
  try unfold x_racks_I1
  obtain ⟨h0, h1, hr⟩ := hI
  have hok := Cf.ok_iff.1 hp0.ok
  simp only at hok
  refine ⟨fun h => ?_, fun h => ?_⟩
  · simp only [decide_eq_true_eq] at h
    have e : (9 - k).toNat = (8 - k).toNat + 1 := by omega
    have ek : (9 : Int) - (((8 - k).toNat + 1 : Nat) : Int) = k := by omega
    rw [e] at hr
    simp only [racksF] at hr
    rw [ek] at hr
    have hb := rack_in hp0 (k := k) ⟨h0, h⟩
    rintro r1 rfl r2 rfl
    rw [r07_Rack_eq]
    refine ⟨hp0, fun _ => ⟨hb, fun _ => ⟨fun hc => ?_, fun hc => ?_⟩⟩⟩
    · have hc' : (listA ⟨t, p, sh⟩ xs (cRack k)).2 = false := by simpa [x_List] using hc
      rw [hc', cond_false] at hr; exact hr
    · have hc' : (listA ⟨t, p, sh⟩ xs (cRack k)).2 = true := by simpa [x_List] using hc
      rw [hc', cond_true] at hr
      refine ⟨⟨h0, h, by omega, by omega, rfl, ?_⟩, lxp_⟩
      rw [show (p - 0).toNat = p.toNat by omega]; exact hr
  · simp only [decide_eq_false_iff_not] at h
    rw [show (9 - k).toNat = 0 by omega] at hr
    exact hr
theorem x_racks_step1 (t : Int) (p : Int) (sh : Int) (xs : List Int) (hp0 : AGood ⟨t, p, sh⟩ xs) (hl0 : xs.length ≤ 9223372036854775807) (i : Int) (n1 : Nat) (ls : List Int) (k : Int) {r_ : Bool} (hI : x_racks_I1 t p sh xs i n1 ls k r_) : x_racks_w1 t p sh xs i n1 ls k (fun k' => x_racks_I0 t p sh xs k' r_ ∧ lx ((9 - k').toNat, p.toNat + 1, 0) ((9 - k).toNat, (p - i).toNat, 0)) (fun i' n1' ls' k' => x_racks_I1 t p sh xs i' n1' ls' k' r_ ∧ lx ((9 - k').toNat, (p - i').toNat, 0) ((9 - k).toNat, (p - i).toNat, 0)) (fun r__ => r__ = r_) := by
  unfold x_racks_I1 at hI
  unfold x_racks_w1
  try unfold x_racks_I0
  try unfold x_racks_I1
  obtain ⟨h0, h1, h2, h3, h4, hr⟩ := hI
  have hok := Cf.ok_iff.1 hp0.ok
  simp only at hok
  refine ⟨fun h => ?_, fun h => ?_⟩
  · simp only [decide_eq_true_eq] at h
    have hg : 0 ≤ i ∧ i < p := ⟨h2, h⟩
    have e : (p - i).toNat = (p - (i + 1)).toNat + 1 := by omega
    have ei : (p : Int) - (((p - (i + 1)).toNat + 1 : Nat) : Int) = i := by omega
    rw [e] at hr
    simp only [onceF] at hr
    rw [ei] at hr
    rw [w64 (n := i + 1) (by omega)]
    refine ⟨hp0, fun _ => ⟨hg, fun _ => ⟨fun hc => ?_, fun hc => ?_⟩⟩⟩
    · have hc' : racked ⟨t, p, sh⟩ xs i k = true := hc
      rw [hc', cond_true] at hr
      refine ⟨fun hn => ?_, fun hn => ?_⟩
      · have hn' : (inA ls i != 1) = true := hn
        rw [hn', cond_true, cond_false] at hr; exact hr
      · have hn' : (inA ls i != 1) = false := hn
        rw [hn', cond_false] at hr
        exact ⟨⟨h0, h1, by omega, by omega, h4, hr⟩, lxp_⟩
    · have hc' : racked ⟨t, p, sh⟩ xs i k = false := hc
      rw [hc', cond_false] at hr
      refine ⟨fun hn => ?_, fun hn => ?_⟩
      · have hn' : (inA ls i != 0) = true := hn
        rw [hn', cond_true, cond_false] at hr; exact hr
      · have hn' : (inA ls i != 0) = false := hn
        rw [hn', cond_false] at hr
        exact ⟨⟨h0, h1, by omega, by omega, h4, hr⟩, lxp_⟩
  · simp only [decide_eq_false_iff_not] at h
    rw [show (p - i).toNat = 0 by omega] at hr
    simp only [onceF, cond_true] at hr
    rw [w64 (n := k + 1) (by omega)]
    refine ⟨⟨by omega, by omega, ?_⟩, lxp_⟩
    rw [show (9 - (k + 1)).toNat = (8 - k).toNat by omega]; exact hr
theorem x_racks_ok : EntryOk Dg Try.prog 31 e_x_racks :=
  ent_wp Dg T_x_bins_ok (I := [103000000003, 103000000001, 8549000000006, 8549000000004, 8549000000003, 8549000000001]) Try.func31 mix (B := bodyOf Try.f31) (by kernel_rfl) rfl (by kernel_rfl) 400
    fun p0 t p sh xs hb hp => have hl0 : xs.length ≤ 9223372036854775807 := hb.1.2.2.2.1; have hp0 : AGood ⟨t, p, sh⟩ xs := hp _ (.head _); ⟨[⟨none, [0,1,0,1], [.blk 0, .code [1,1]], [3, 1], [.i .i64, .box 36 [.ic .i64 (t), .ic .i64 (p), .ic .i64 (sh), .roc [.ints .u32 (xs)]]]⟩, ⟨none, [0,1,1,1,0,0,1,0,0,1,0,1], [.blk 2, .blk 1, .code [1,1,0,0,1,0,1], .again [0,1,0,1], .blk 0, .code [1,1]], [6, 4, 3, 1], [.i .i64, .own 3 [some .i64], .i .i64, .box 36 [.ic .i64 (t), .ic .i64 (p), .ic .i64 (sh), .roc [.ints .u32 (xs)]]]⟩], fun j => List.getD [appC (Hd.kd (⟨none, [0,1,0,1], [.blk 0, .code [1,1]], [3, 1], [.i .i64, .box 36 [.ic .i64 (t), .ic .i64 (p), .ic .i64 (sh), .roc [.ints .u32 (xs)]]]⟩ : Hd Sg)) (fun k' => x_racks_I0 t p sh xs k' (x_racks t p sh xs)), appC (Hd.kd (⟨none, [0,1,1,1,0,0,1,0,0,1,0,1], [.blk 2, .blk 1, .code [1,1,0,0,1,0,1], .again [0,1,0,1], .blk 0, .code [1,1]], [6, 4, 3, 1], [.i .i64, .own 3 [some .i64], .i .i64, .box 36 [.ic .i64 (t), .ic .i64 (p), .ic .i64 (sh), .roc [.ints .u32 (xs)]]]⟩ : Hd Sg)) (fun i' n1' ls' k' => x_racks_I1 t p sh xs i' n1' ls' k' (x_racks t p sh xs))] j (fun _ => False), fun j => List.getD [appC (Hd.kd (⟨none, [0,1,0,1], [.blk 0, .code [1,1]], [3, 1], [.i .i64, .box 36 [.ic .i64 (t), .ic .i64 (p), .ic .i64 (sh), .roc [.ints .u32 (xs)]]]⟩ : Hd Sg)) (fun k' => ((9 - k').toNat, p.toNat + 1, 0)), appC (Hd.kd (⟨none, [0,1,1,1,0,0,1,0,0,1,0,1], [.blk 2, .blk 1, .code [1,1,0,0,1,0,1], .again [0,1,0,1], .blk 0, .code [1,1]], [6, 4, 3, 1], [.i .i64, .own 3 [some .i64], .i .i64, .box 36 [.ic .i64 (t), .ic .i64 (p), .ic .i64 (sh), .roc [.ints .u32 (xs)]]]⟩ : Hd Sg)) (fun i' n1' ls' k' => ((9 - k').toNat, (p - i').toNat, 0))] j (fun _ => (0, 0, 0)), by kernel_rfl, ⟨x_racks_w t p sh xs (fun k' => x_racks_I0 t p sh xs k' (x_racks t p sh xs)) (fun i' n1' ls' k' => x_racks_I1 t p sh xs i' n1' ls' k' (x_racks t p sh xs)) (fun r__ => r__ = (x_racks t p sh xs)), fun _ _ _ => by kernel_rfl, x_racks_begin t p sh xs hp0 hl0 ⟩, ⟨fun k hI => ⟨x_racks_w0 t p sh xs k (fun k' => x_racks_I0 t p sh xs k' (x_racks t p sh xs) ∧ lx ((9 - k').toNat, p.toNat + 1, 0) ((9 - k).toNat, p.toNat + 1, 0)) (fun i' n1' ls' k' => x_racks_I1 t p sh xs i' n1' ls' k' (x_racks t p sh xs) ∧ lx ((9 - k').toNat, (p - i').toNat, 0) ((9 - k).toNat, p.toNat + 1, 0)) (fun r__ => r__ = (x_racks t p sh xs)), fun _ _ _ => by kernel_rfl, x_racks_step0 t p sh xs hp0 hl0 k hI⟩, ⟨fun i n1 ls k hI => ⟨x_racks_w1 t p sh xs i n1 ls k (fun k' => x_racks_I0 t p sh xs k' (x_racks t p sh xs) ∧ lx ((9 - k').toNat, p.toNat + 1, 0) ((9 - k).toNat, (p - i).toNat, 0)) (fun i' n1' ls' k' => x_racks_I1 t p sh xs i' n1' ls' k' (x_racks t p sh xs) ∧ lx ((9 - k').toNat, (p - i').toNat, 0) ((9 - k).toNat, (p - i).toNat, 0)) (fun r__ => r__ = (x_racks t p sh xs)), fun _ _ _ => by kernel_rfl, x_racks_step1 t p sh xs hp0 hl0 i n1 ls k hI⟩, trivial⟩⟩⟩
def T_x_racks : List (Nat × Entry Sg) := (31, e_x_racks) :: T_x_bins
theorem T_x_racks_ok : TableOk Dg Try.prog T_x_racks := TableOk.cons Dg x_racks_ok T_x_bins_ok
end Go.Proofs.Ytajcpopikdpcmaa
namespace Go.Proofs.Ytajcpopikdpcmaa
open Go.Sl
def x_slots (t : Int) (p : Int) (sh : Int) (xs : List Int) : Bool := slotsOk ⟨t, p, sh⟩ xs
abbrev c_x_slots : Ct Sg := ⟨none, false, [.agg [.i .i64, .i .i64, .i .i64, .ro [some .u32]]], .b⟩
def e_x_slots : Entry Sg := entC c_x_slots x_slots (fun t p sh xs => [AGood ⟨t, p, sh⟩ xs])
def x_slots_w (t : Int) (p : Int) (sh : Int) (xs : List Int) (Q0 : Int → Prop) (Q1 : Int → Int → Int → Int → Int → Prop) (R_ : Bool → Prop) : Prop := (Q0 ((0 : Int)))
def x_slots_w0 (t : Int) (p : Int) (sh : Int) (xs : List Int) (g : Int) (Q0 : Int → Prop) (Q1 : Int → Int → Int → Int → Int → Prop) (R_ : Bool → Prop) : Prop := (((decide (g < p)) = true → ((AGood { t := t, p := p, s := sh } xs) ∧ ((AGood { t := t, p := p, s := sh } xs) → (((0 : Int) ≤ g ∧ g < p) ∧ (((0 : Int) ≤ g ∧ g < p) → (Q1 ((0 : Int)) (Prod.fst (If.k (aInfo { t := t, p := p, s := sh } xs g), If.l (aInfo { t := t, p := p, s := sh } xs g), If.c (aInfo { t := t, p := p, s := sh } xs g))) (If.l (aInfo { t := t, p := p, s := sh } xs g)) (If.c (aInfo { t := t, p := p, s := sh } xs g)) (g))))))) ∧ ((decide (g < p)) = false → (R_ (true))))
def x_slots_I0 (t : Int) (p : Int) (sh : Int) (xs : List Int) (g : Int) (r_ : Bool) : Prop := 0 ≤ g ∧ g ≤ p ∧ slotsF ⟨t, p, sh⟩ xs (p - g).toNat = r_
def x_slots_w1 (t : Int) (p : Int) (sh : Int) (xs : List Int) (j : Int) (ik : Int) (il : Int) (ic : Int) (g : Int) (Q0 : Int → Prop) (Q1 : Int → Int → Int → Int → Int → Prop) (R_ : Bool → Prop) : Prop := (((decide (j < (32 : Int))) = true → ((AGood { t := t, p := p, s := sh } xs) ∧ ((AGood { t := t, p := p, s := sh } xs) → (((0 : Int) ≤ g ∧ g < p) ∧ (((0 : Int) ≤ g ∧ g < p) → ((AGood { t := t, p := p, s := sh } xs) ∧ ((AGood { t := t, p := p, s := sh } xs) → (((0 : Int) ≤ g ∧ g < p) ∧ (((0 : Int) ≤ g ∧ g < p) → (((r01_Bit (x_Slots t p sh xs g) j && !r01_Bit (x_Taken t p sh xs g) j || r01_Bit (x_Taken t p sh xs g) j && (ik != (3 : Int) || decide (j ≥ r05_Slots ic))) = true → (R_ (false))) ∧ ((r01_Bit (x_Slots t p sh xs g) j && !r01_Bit (x_Taken t p sh xs g) j || r01_Bit (x_Taken t p sh xs g) j && (ik != (3 : Int) || decide (j ≥ r05_Slots ic))) = false → (Q1 (IntKind.wrap IntKind.i64 (j + (1 : Int))) (ik) (il) (ic) (g))))))))))))) ∧ ((decide (j < (32 : Int))) = false → (((ik == (3 : Int)) = true → AGood { t := t, p := p, s := sh } xs) ∧ (((ik == (3 : Int)) = true → AGood { t := t, p := p, s := sh } xs) → (((ik == (3 : Int)) = true → (0 : Int) ≤ g ∧ g < p) ∧ (((ik == (3 : Int)) = true → (0 : Int) ≤ g ∧ g < p) → (((ik == (3 : Int) && x_Taken t p sh xs g == (0 : Int)) = true → (R_ (false))) ∧ ((ik == (3 : Int) && x_Taken t p sh xs g == (0 : Int)) = false → (Q0 (IntKind.wrap IntKind.i64 (g + (1 : Int))))))))))))
def x_slots_I1 (t : Int) (p : Int) (sh : Int) (xs : List Int) (j : Int) (ik : Int) (il : Int) (ic : Int) (g : Int) (r_ : Bool) : Prop := 0 ≤ g ∧ g < p ∧ 0 ≤ j ∧ j ≤ 32 ∧ ik = (aInfo ⟨t, p, sh⟩ xs g).k ∧ ic = (aInfo ⟨t, p, sh⟩ xs g).c ∧ (bif slotsB ⟨t, p, sh⟩ xs g (aInfo ⟨t, p, sh⟩ xs g) (32 - j).toNat then (bif (aInfo ⟨t, p, sh⟩ xs g).k == 3 && cel xs (Cf.taken ⟨t, p, sh⟩ g) == 0 then false else slotsF ⟨t, p, sh⟩ xs (p - (g + 1)).toNat) else false) = r_
theorem x_slots_begin (t : Int) (p : Int) (sh : Int) (xs : List Int) (hp0 : AGood ⟨t, p, sh⟩ xs) (hl0 : xs.length ≤ 9223372036854775807) : x_slots_w t p sh xs (fun g' => x_slots_I0 t p sh xs g' (x_slots t p sh xs)) (fun j' ik' il' ic' g' => x_slots_I1 t p sh xs j' ik' il' ic' g' (x_slots t p sh xs)) (fun r__ => r__ = (x_slots t p sh xs)) := by
  unfold x_slots_w
  try unfold x_slots_I0
  try unfold x_slots_I1
  have hok := Cf.ok_iff.1 hp0.ok
  simp only at hok
  refine ⟨by omega, by omega, ?_⟩
  show _ = slotsOk ⟨t, p, sh⟩ xs
  unfold slotsOk
  rw [show (p - 0).toNat = p.toNat by omega]
theorem x_slots_step0 (t : Int) (p : Int) (sh : Int) (xs : List Int) (hp0 : AGood ⟨t, p, sh⟩ xs) (hl0 : xs.length ≤ 9223372036854775807) (g : Int) {r_ : Bool} (hI : x_slots_I0 t p sh xs g r_) : x_slots_w0 t p sh xs g (fun g' => x_slots_I0 t p sh xs g' r_ ∧ lx ((p - g').toNat, 33, 0) ((p - g).toNat, 33, 0)) (fun j' ik' il' ic' g' => x_slots_I1 t p sh xs j' ik' il' ic' g' r_ ∧ lx ((p - g').toNat, (32 - j').toNat, 0) ((p - g).toNat, 33, 0)) (fun r__ => r__ = r_) := by
  unfold x_slots_I0 at hI
  unfold x_slots_w0
  try unfold x_slots_I0
  try unfold x_slots_I1
  obtain ⟨h0, h1, hr⟩ := hI
  refine ⟨fun h => ?_, fun h => ?_⟩
  · simp only [decide_eq_true_eq] at h
    have e : (p - g).toNat = (p - (g + 1)).toNat + 1 := by omega
    have ei : (p : Int) - (((p - (g + 1)).toNat + 1 : Nat) : Int) = g := by omega
    rw [e] at hr
    simp only [slotsF] at hr
    rw [ei] at hr
    exact ⟨hp0, fun _ => ⟨⟨h0, h⟩, fun _ => ⟨⟨h0, h, by omega, by omega, rfl, rfl, hr⟩, lxp_⟩⟩⟩
  · simp only [decide_eq_false_iff_not] at h
    rw [show (p - g).toNat = 0 by omega] at hr
    exact hr
theorem x_slots_step1 (t : Int) (p : Int) (sh : Int) (xs : List Int) (hp0 : AGood ⟨t, p, sh⟩ xs) (hl0 : xs.length ≤ 9223372036854775807) (j : Int) (ik : Int) (il : Int) (ic : Int) (g : Int) {r_ : Bool} (hI : x_slots_I1 t p sh xs j ik il ic g r_) : x_slots_w1 t p sh xs j ik il ic g (fun g' => x_slots_I0 t p sh xs g' r_ ∧ lx ((p - g').toNat, 33, 0) ((p - g).toNat, (32 - j).toNat, 0)) (fun j' ik' il' ic' g' => x_slots_I1 t p sh xs j' ik' il' ic' g' r_ ∧ lx ((p - g').toNat, (32 - j').toNat, 0) ((p - g).toNat, (32 - j).toNat, 0)) (fun r__ => r__ = r_) := by
  unfold x_slots_I1 at hI
  unfold x_slots_w1
  try unfold x_slots_I0
  try unfold x_slots_I1
  obtain ⟨h0, h1, h2, h3, rfl, rfl, hr⟩ := hI
  have hok := Cf.ok_iff.1 hp0.ok
  simp only at hok
  have hbs := cel_bd hp0 (Cf.slots ⟨t, p, sh⟩ g)
  have hbt := cel_bd hp0 (Cf.taken ⟨t, p, sh⟩ g)
  have hg : 0 ≤ g ∧ g < p := ⟨h0, h1⟩
  refine ⟨fun h => ?_, fun h => ?_⟩
  · simp only [decide_eq_true_eq] at h
    have e : (32 - j).toNat = (32 - (j + 1)).toNat + 1 := by omega
    have ej : (32 : Int) - (((32 - (j + 1)).toNat + 1 : Nat) : Int) = j := by omega
    rw [e] at hr
    simp only [slotsB] at hr
    rw [ej] at hr
    have hb1 : r01_Bit (x_Slots t p sh xs g) j = bitAt (cel xs (Cf.slots ⟨t, p, sh⟩ g)) j := bit_eq hbs j
    have hb2 : r01_Bit (x_Taken t p sh xs g) j = bitAt (cel xs (Cf.taken ⟨t, p, sh⟩ g)) j := bit_eq hbt j
    rw [w64 (n := j + 1) (by omega), hb1, hb2, r05_Slots_eq]
    refine ⟨hp0, fun _ => ⟨hg, fun _ => ⟨hp0, fun _ => ⟨hg, fun _ => ⟨fun hc => ?_, fun hc => ?_⟩⟩⟩⟩⟩
    · rw [hc, cond_true, cond_false] at hr; exact hr
    · rw [hc, cond_false] at hr
      exact ⟨⟨h0, h1, by omega, by omega, rfl, rfl, hr⟩, lxp_⟩
  · simp only [decide_eq_false_iff_not] at h
    rw [show (32 - j).toNat = 0 by omega] at hr
    simp only [slotsB, cond_true] at hr
    rw [w64 (n := g + 1) (by omega)]
    refine ⟨fun _ => hp0, fun _ => ⟨fun _ => hg, fun _ => ⟨fun hc => ?_, fun hc => ?_⟩⟩⟩
    · have hc' : ((aInfo ⟨t, p, sh⟩ xs g).k == 3 && cel xs (Cf.taken ⟨t, p, sh⟩ g) == 0) = true := hc
      rw [hc', cond_true] at hr; exact hr
    · have hc' : ((aInfo ⟨t, p, sh⟩ xs g).k == 3 && cel xs (Cf.taken ⟨t, p, sh⟩ g) == 0) = false := hc
      rw [hc', cond_false] at hr
      exact ⟨⟨by omega, by omega, hr⟩, lxp_⟩
theorem x_slots_ok : EntryOk Dg Try.prog 29 e_x_slots :=
  ent_wp Dg T_x_racks_ok (I := [103000000003, 103000000001, 5703000000005, 5703000000004, 5703000000003, 5703000000001]) Try.func29 mix (B := bodyOf Try.f29) (by kernel_rfl) rfl (by kernel_rfl) 400
    fun p0 t p sh xs hb hp => have hl0 : xs.length ≤ 9223372036854775807 := hb.1.2.2.2.1; have hp0 : AGood ⟨t, p, sh⟩ xs := hp _ (.head _); ⟨[⟨none, [0,1,0,1], [.blk 0, .code [1,1]], [3, 1], [.i .i64, .box 36 [.ic .i64 (t), .ic .i64 (p), .ic .i64 (sh), .roc [.ints .u32 (xs)]]]⟩, ⟨none, [0,1,0,1,0,0,1,0,0,1,0,1], [.blk 2, .code [1,1,0,0,1,0,0,1,0,1], .blk 1, .code [1,1,0,0,1,0,1], .again [0,1,0,1], .blk 0, .code [1,1]], [5, 4, 3, 1], [.i .i64, .box 38 [.i .i64, .i .i64, .i .i64], .i .i64, .box 36 [.ic .i64 (t), .ic .i64 (p), .ic .i64 (sh), .roc [.ints .u32 (xs)]]]⟩], fun j => List.getD [appC (Hd.kd (⟨none, [0,1,0,1], [.blk 0, .code [1,1]], [3, 1], [.i .i64, .box 36 [.ic .i64 (t), .ic .i64 (p), .ic .i64 (sh), .roc [.ints .u32 (xs)]]]⟩ : Hd Sg)) (fun g' => x_slots_I0 t p sh xs g' (x_slots t p sh xs)), appC (Hd.kd (⟨none, [0,1,0,1,0,0,1,0,0,1,0,1], [.blk 2, .code [1,1,0,0,1,0,0,1,0,1], .blk 1, .code [1,1,0,0,1,0,1], .again [0,1,0,1], .blk 0, .code [1,1]], [5, 4, 3, 1], [.i .i64, .box 38 [.i .i64, .i .i64, .i .i64], .i .i64, .box 36 [.ic .i64 (t), .ic .i64 (p), .ic .i64 (sh), .roc [.ints .u32 (xs)]]]⟩ : Hd Sg)) (fun j' ik' il' ic' g' => x_slots_I1 t p sh xs j' ik' il' ic' g' (x_slots t p sh xs))] j (fun _ => False), fun j => List.getD [appC (Hd.kd (⟨none, [0,1,0,1], [.blk 0, .code [1,1]], [3, 1], [.i .i64, .box 36 [.ic .i64 (t), .ic .i64 (p), .ic .i64 (sh), .roc [.ints .u32 (xs)]]]⟩ : Hd Sg)) (fun g' => ((p - g').toNat, 33, 0)), appC (Hd.kd (⟨none, [0,1,0,1,0,0,1,0,0,1,0,1], [.blk 2, .code [1,1,0,0,1,0,0,1,0,1], .blk 1, .code [1,1,0,0,1,0,1], .again [0,1,0,1], .blk 0, .code [1,1]], [5, 4, 3, 1], [.i .i64, .box 38 [.i .i64, .i .i64, .i .i64], .i .i64, .box 36 [.ic .i64 (t), .ic .i64 (p), .ic .i64 (sh), .roc [.ints .u32 (xs)]]]⟩ : Hd Sg)) (fun j' ik' il' ic' g' => ((p - g').toNat, (32 - j').toNat, 0))] j (fun _ => (0, 0, 0)), by kernel_rfl, ⟨x_slots_w t p sh xs (fun g' => x_slots_I0 t p sh xs g' (x_slots t p sh xs)) (fun j' ik' il' ic' g' => x_slots_I1 t p sh xs j' ik' il' ic' g' (x_slots t p sh xs)) (fun r__ => r__ = (x_slots t p sh xs)), fun _ _ _ => by kernel_rfl, x_slots_begin t p sh xs hp0 hl0 ⟩, ⟨fun g hI => ⟨x_slots_w0 t p sh xs g (fun g' => x_slots_I0 t p sh xs g' (x_slots t p sh xs) ∧ lx ((p - g').toNat, 33, 0) ((p - g).toNat, 33, 0)) (fun j' ik' il' ic' g' => x_slots_I1 t p sh xs j' ik' il' ic' g' (x_slots t p sh xs) ∧ lx ((p - g').toNat, (32 - j').toNat, 0) ((p - g).toNat, 33, 0)) (fun r__ => r__ = (x_slots t p sh xs)), fun _ _ _ => by kernel_rfl, x_slots_step0 t p sh xs hp0 hl0 g hI⟩, ⟨fun j ik il ic g hI => ⟨x_slots_w1 t p sh xs j ik il ic g (fun g' => x_slots_I0 t p sh xs g' (x_slots t p sh xs) ∧ lx ((p - g').toNat, 33, 0) ((p - g).toNat, (32 - j).toNat, 0)) (fun j' ik' il' ic' g' => x_slots_I1 t p sh xs j' ik' il' ic' g' (x_slots t p sh xs) ∧ lx ((p - g').toNat, (32 - j').toNat, 0) ((p - g).toNat, (32 - j).toNat, 0)) (fun r__ => r__ = (x_slots t p sh xs)), fun _ _ _ => by kernel_rfl, x_slots_step1 t p sh xs hp0 hl0 j ik il ic g hI⟩, trivial⟩⟩⟩
def T_x_slots : List (Nat × Entry Sg) := (29, e_x_slots) :: T_x_racks
theorem T_x_slots_ok : TableOk Dg Try.prog T_x_slots := TableOk.cons Dg x_slots_ok T_x_racks_ok
end Go.Proofs.Ytajcpopikdpcmaa
namespace Go.Proofs.Ytajcpopikdpcmaa
open Go.Sl
def r12_Has (ls : List Int) (zs : List Int) (g : Int) : Bool := ls.contains g
abbrev c_r12_Has : Ct Sg := ⟨none, false, [.ro [some .i64, some .i64], .i .i64], .b⟩
def e_r12_Has : Entry Sg := entC c_r12_Has r12_Has (fun _ _ _ => [])
def r12_Has_w (ls : List Int) (zs : List Int) (g : Int) (Q0 : Int → Prop) (R_ : Bool → Prop) : Prop := (Q0 ((0 : Int)))
def r12_Has_w0 (ls : List Int) (zs : List Int) (g : Int) (i : Int) (Q0 : Int → Prop) (R_ : Bool → Prop) : Prop := (((decide (i < (↑(List.length ls) : Int))) = true → (((0 : Int) ≤ i ∧ i < (↑(List.length ls) : Int)) ∧ (((0 : Int) ≤ i ∧ i < (↑(List.length ls) : Int)) → (((List.getD ls (Int.toNat i) (0 : Int) == g) = true → (R_ (true))) ∧ ((List.getD ls (Int.toNat i) (0 : Int) == g) = false → (Q0 (IntKind.wrap IntKind.i64 (i + (1 : Int))))))))) ∧ ((decide (i < (↑(List.length ls) : Int))) = false → (R_ (false))))
def r12_Has_I0 (ls : List Int) (zs : List Int) (g : Int) (i : Int) (r_ : Bool) : Prop := 0 ≤ i ∧ i ≤ ls.length ∧ (ls.take i.toNat).contains g = false ∧ ls.length ≤ 9223372036854775807 ∧ r_ = ls.contains g
theorem r12_Has_begin (ls : List Int) (zs : List Int) (g : Int) (hl0 : ls.length ≤ 9223372036854775807) : r12_Has_w ls zs g (fun i' => r12_Has_I0 ls zs g i' (r12_Has ls zs g)) (fun r__ => r__ = (r12_Has ls zs g)) := by
  unfold r12_Has_w
  try unfold r12_Has_I0
  exact ⟨by omega, by omega, by simp, hl0, rfl⟩
theorem r12_Has_step0 (ls : List Int) (zs : List Int) (g : Int) (hl0 : ls.length ≤ 9223372036854775807) (i : Int) {r_ : Bool} (hI : r12_Has_I0 ls zs g i r_) : r12_Has_w0 ls zs g i (fun i' => r12_Has_I0 ls zs g i' r_ ∧ lx ((ls.length - i').toNat, 0, 0) ((ls.length - i).toNat, 0, 0)) (fun r__ => r__ = r_) := by
  unfold r12_Has_I0 at hI
  unfold r12_Has_w0
  try unfold r12_Has_I0
  obtain ⟨h0, h1, h2, h3, hr⟩ := hI
  refine ⟨fun h => ?_, fun h => ?_⟩
  · simp only [decide_eq_true_eq] at h
    have hlt : i.toNat < ls.length := by omega
    have ht : ls.take (i + 1).toNat = ls.take i.toNat ++ [ls.getD i.toNat 0] := by
      rw [show (i + 1).toNat = i.toNat + 1 by omega, List.take_add_one, List.getD_eq_getElem?_getD, List.getElem?_eq_getElem hlt]; rfl
    rw [w64 (n := i + 1) (by omega)]
    refine ⟨⟨h0, h⟩, fun _ => ⟨fun hc => ?_, fun hc => ?_⟩⟩
    · have hm := getD_memA hlt
      simp only [beq_iff_eq] at hc
      rw [hc] at hm
      show true = r_
      rw [hr]
      simpa using hm
    · refine ⟨⟨by omega, by omega, ?_, h3, hr⟩, lxo_⟩
      rw [ht]
      generalize ls.getD i.toNat 0 = q at hc
      simp only [beq_eq_false_iff_ne] at hc
      simp only [List.contains_eq_mem, List.mem_append, decide_eq_false_iff_not] at h2 ⊢
      intro hh
      rcases hh with hh | hh
      · exact h2 hh
      · exact hc (List.mem_singleton.1 hh).symm
  · simp only [decide_eq_false_iff_not] at h
    rw [List.take_of_length_le (by omega)] at h2
    show false = r_
    rw [hr, h2]
theorem r12_Has_ok : EntryOk Dg Try.prog 60 e_r12_Has :=
  ent_wp Dg T_x_slots_ok (I := [103000000005, 103000000000, 103000000001]) Try.func60 mix (B := bodyOf Try.f60) (by kernel_rfl) rfl (by kernel_rfl) 400
    fun p0 ls zs g hb hp => have hl0 : ls.length ≤ 9223372036854775807 := hb.1; ⟨[⟨none, [0,1,0,1], [.blk 0, .code [1,1]], [5, 0, 1], [.i .i64, .roc [.ints .i64 (ls), .ints .i64 (zs)], .ic .i64 (g)]⟩], fun j => List.getD [appC (Hd.kd (⟨none, [0,1,0,1], [.blk 0, .code [1,1]], [5, 0, 1], [.i .i64, .roc [.ints .i64 (ls), .ints .i64 (zs)], .ic .i64 (g)]⟩ : Hd Sg)) (fun i' => r12_Has_I0 ls zs g i' (r12_Has ls zs g))] j (fun _ => False), fun j => List.getD [appC (Hd.kd (⟨none, [0,1,0,1], [.blk 0, .code [1,1]], [5, 0, 1], [.i .i64, .roc [.ints .i64 (ls), .ints .i64 (zs)], .ic .i64 (g)]⟩ : Hd Sg)) (fun i' => ((ls.length - i').toNat, 0, 0))] j (fun _ => (0, 0, 0)), by kernel_rfl, ⟨r12_Has_w ls zs g (fun i' => r12_Has_I0 ls zs g i' (r12_Has ls zs g)) (fun r__ => r__ = (r12_Has ls zs g)), fun _ _ _ => by kernel_rfl, r12_Has_begin ls zs g hl0 ⟩, ⟨fun i hI => ⟨r12_Has_w0 ls zs g i (fun i' => r12_Has_I0 ls zs g i' (r12_Has ls zs g) ∧ lx ((ls.length - i').toNat, 0, 0) ((ls.length - i).toNat, 0, 0)) (fun r__ => r__ = (r12_Has ls zs g)), fun _ _ _ => by kernel_rfl, r12_Has_step0 ls zs g hl0 i hI⟩, trivial⟩⟩
def T_r12_Has : List (Nat × Entry Sg) := (60, e_r12_Has) :: T_x_slots
theorem T_r12_Has_ok : TableOk Dg Try.prog T_r12_Has := TableOk.cons Dg r12_Has_ok T_x_slots_ok
def r04_Page (t : Int) (p : Int) (sh : Int) : Int := bif r04_Right t p sh then 2 ^ sh.toNat else 0
abbrev c_r04_Page : Ct Sg := ⟨none, false, [.agg [.i .i64, .i .i64, .i .i64]], .i .i64⟩
def e_r04_Page : Entry Sg := entC c_r04_Page r04_Page (fun _ _ _ => [])
def r04_Page_w (t : Int) (p : Int) (sh : Int) (Q0 : Int → Int → Prop) (R_ : Int → Prop) : Prop := (((!r04_Right t p sh) = true → (R_ ((0 : Int)))) ∧ ((!r04_Right t p sh) = false → (Q0 ((0 : Int)) ((1 : Int)))))
def r04_Page_w0 (t : Int) (p : Int) (sh : Int) (i : Int) (m : Int) (Q0 : Int → Int → Prop) (R_ : Int → Prop) : Prop := (((decide (i < sh)) = true → (Q0 (IntKind.wrap IntKind.i64 (i + (1 : Int))) (IntKind.wrap IntKind.i64 (m * (2 : Int))))) ∧ ((decide (i < sh)) = false → (R_ (m))))
def r04_Page_I0 (t : Int) (p : Int) (sh : Int) (i : Int) (m : Int) (r_ : Int) : Prop := 0 ≤ i ∧ i ≤ sh ∧ sh ≤ 20 ∧ m = 2 ^ i.toNat ∧ r_ = 2 ^ sh.toNat
theorem r04_Page_begin (t : Int) (p : Int) (sh : Int) : r04_Page_w t p sh (fun i' m' => r04_Page_I0 t p sh i' m' (r04_Page t p sh)) (fun r__ => r__ = (r04_Page t p sh)) := by
  unfold r04_Page_w
  try unfold r04_Page_I0
  refine ⟨fun hc => ?_, fun hc => ?_⟩
  · have e : r04_Right t p sh = false := by simpa using hc
    show (0 : Int) = r04_Page t p sh
    unfold r04_Page
    rw [e]; rfl
  · have e : r04_Right t p sh = true := by simpa using hc
    have e' := e
    simp only [r04_Right, Bool.and_eq_true, decide_eq_true_eq] at e'
    refine ⟨by omega, by omega, by omega, rfl, ?_⟩
    unfold r04_Page
    rw [e]; rfl
theorem r04_Page_step0 (t : Int) (p : Int) (sh : Int) (i : Int) (m : Int) {r_ : Int} (hI : r04_Page_I0 t p sh i m r_) : r04_Page_w0 t p sh i m (fun i' m' => r04_Page_I0 t p sh i' m' r_ ∧ lx ((sh - i').toNat, 0, 0) ((sh - i).toNat, 0, 0)) (fun r__ => r__ = r_) := by
  unfold r04_Page_I0 at hI
  unfold r04_Page_w0
  try unfold r04_Page_I0
  obtain ⟨h0, h1, h2, h3, hr⟩ := hI
  refine ⟨fun h => ?_, fun h => ?_⟩
  · simp only [decide_eq_true_eq] at h
    have e : (2 : Int) ^ (i + 1).toNat = 2 ^ i.toNat * 2 := by rw [show (i + 1).toNat = i.toNat + 1 by omega, Int.pow_succ]
    have hb : (2 : Int) ^ i.toNat ≤ 1048576 := by
      have h4 : (2 : Nat) ^ i.toNat ≤ 2 ^ 20 := Nat.pow_le_pow_right (by omega) (by omega)
      have h5 : ((2 ^ i.toNat : Nat) : Int) ≤ ((2 ^ 20 : Nat) : Int) := by exact_mod_cast h4
      simpa using h5
    have hb0 : (0 : Int) < 2 ^ i.toNat := Int.pow_pos (by omega)
    rw [w64 (n := i + 1) (by omega), w64 (by omega)]
    exact ⟨⟨by omega, by omega, h2, by rw [e, h3], hr⟩, lxo_⟩
  · simp only [decide_eq_false_iff_not] at h
    have e : i = sh := by omega
    subst e
    rw [hr]; exact h3
theorem r04_Page_ok : EntryOk Dg Try.prog 73 e_r04_Page :=
  ent_wp Dg T_r12_Has_ok (I := [1643000000004, 1643000000003, 1643000000001]) Try.func73 mix (B := bodyOf Try.f73) (by kernel_rfl) rfl (by kernel_rfl) 400
    fun p0 t p sh hb hp => ⟨[⟨none, [0,1,0,1,1,1], [.blk 0, .code [1,1,1,1]], [4, 3, 1], [.i .i64, .i .i64, .box 23 [.ic .i64 (t), .ic .i64 (p), .ic .i64 (sh)]]⟩], fun j => List.getD [appC (Hd.kd (⟨none, [0,1,0,1,1,1], [.blk 0, .code [1,1,1,1]], [4, 3, 1], [.i .i64, .i .i64, .box 23 [.ic .i64 (t), .ic .i64 (p), .ic .i64 (sh)]]⟩ : Hd Sg)) (fun i' m' => r04_Page_I0 t p sh i' m' (r04_Page t p sh))] j (fun _ => False), fun j => List.getD [appC (Hd.kd (⟨none, [0,1,0,1,1,1], [.blk 0, .code [1,1,1,1]], [4, 3, 1], [.i .i64, .i .i64, .box 23 [.ic .i64 (t), .ic .i64 (p), .ic .i64 (sh)]]⟩ : Hd Sg)) (fun i' m' => ((sh - i').toNat, 0, 0))] j (fun _ => (0, 0, 0)), by kernel_rfl, ⟨r04_Page_w t p sh (fun i' m' => r04_Page_I0 t p sh i' m' (r04_Page t p sh)) (fun r__ => r__ = (r04_Page t p sh)), fun _ _ _ => by kernel_rfl, r04_Page_begin t p sh ⟩, ⟨fun i m hI => ⟨r04_Page_w0 t p sh i m (fun i' m' => r04_Page_I0 t p sh i' m' (r04_Page t p sh) ∧ lx ((sh - i').toNat, 0, 0) ((sh - i).toNat, 0, 0)) (fun r__ => r__ = (r04_Page t p sh)), fun _ _ _ => by kernel_rfl, r04_Page_step0 t p sh i m hI⟩, trivial⟩⟩
def T_r04_Page : List (Nat × Entry Sg) := (73, e_r04_Page) :: T_r12_Has
theorem T_r04_Page_ok : TableOk Dg Try.prog T_r04_Page := TableOk.cons Dg r04_Page_ok T_r12_Has_ok
def r05_Size (sh : Int) (k : Int) : Int := (bif r05_Slots k == (0 : Int) || r04_Page (1 : Int) (4 : Int) sh == (0 : Int) then (0 : Int) else IntKind.wrap IntKind.i64 (IntKind.wrap IntKind.i64 (Int.tdiv (r04_Page (1 : Int) (4 : Int) sh) (r05_Slots k)) - Int.tmod (IntKind.wrap IntKind.i64 (Int.tdiv (r04_Page (1 : Int) (4 : Int) sh) (r05_Slots k))) (16 : Int)))
abbrev c_r05_Size : Ct Sg := ⟨none, false, [.i .i64, .i .i64], .i .i64⟩
def e_r05_Size : Entry Sg := entC c_r05_Size r05_Size (fun _ _ => [])
theorem r05_Size_ok : EntryOk Dg Try.prog 79 e_r05_Size :=
  ent_ok Dg T_r04_Page_ok (I := []) Try.func79 mix (B := bodyOf Try.f79) (by kernel_rfl) rfl (by kernel_rfl) 400
    fun _ sh k hb hp => ⟨(r05_Size sh k), (.br (r05_Slots k == (0 : Int) || r04_Page (1 : Int) (4 : Int) sh == (0 : Int)) .t (.need (r05_Slots k ≠ (0 : Int)) .t)), fun _ _ _ => by kernel_rfl, ⟨fun z0 => trivial, fun z0 => ⟨(by first | omega | (simp_all; done)), fun z1 => trivial⟩⟩, rfl⟩
def T_r05_Size : List (Nat × Entry Sg) := (79, e_r05_Size) :: T_r04_Page
theorem T_r05_Size_ok : TableOk Dg Try.prog T_r05_Size := TableOk.cons Dg r05_Size_ok T_r04_Page_ok
def r06_Of (t : Int) (p : Int) (sh : Int) (g : Int) (o : Int) : Int × Bool := (bif !r04_Right t p sh || decide (g < (0 : Int)) || decide (g ≥ p) || decide (o < (0 : Int)) || decide (o ≥ r04_Page t p sh) then ((0 : Int), false) else (IntKind.wrap IntKind.i64 (IntKind.wrap IntKind.i64 (IntKind.wrap IntKind.i64 (g + (1 : Int)) * r04_Page t p sh) + o), true))
abbrev c_r06_Of : Ct Sg := ⟨none, false, [.agg [.i .i64, .i .i64, .i .i64], .i .i64, .i .i64], .tup [.i .i64, .b]⟩
def e_r06_Of : Entry Sg := entC c_r06_Of r06_Of (fun _ _ _ _ _ => [])
theorem r06_Of_ok : EntryOk Dg Try.prog 72 e_r06_Of :=
  ent_ok Dg T_r05_Size_ok (I := []) Try.func72 mix (B := bodyOf Try.f72) (by kernel_rfl) rfl (by kernel_rfl) 400
    fun _ t p sh g o hb hp => ⟨(r06_Of t p sh g o), .t, fun _ _ _ => by kernel_rfl, trivial, rfl⟩
def T_r06_Of : List (Nat × Entry Sg) := (72, e_r06_Of) :: T_r05_Size
theorem T_r06_Of_ok : TableOk Dg Try.prog T_r06_Of := TableOk.cons Dg r06_Of_ok T_r05_Size_ok
def r06_At (t : Int) (p : Int) (sh : Int) (k : Int) (g : Int) (j : Int) : Int × Bool := (bif decide (j < (0 : Int)) || decide (j ≥ r05_Slots k) then ((0 : Int), false) else (Prod.fst (r06_Of t p sh g (IntKind.wrap IntKind.i64 (j * r05_Size sh k))), Prod.snd (r06_Of t p sh g (IntKind.wrap IntKind.i64 (j * r05_Size sh k)))))
abbrev c_r06_At : Ct Sg := ⟨none, false, [.agg [.i .i64, .i .i64, .i .i64], .i .i64, .i .i64, .i .i64], .tup [.i .i64, .b]⟩
def e_r06_At : Entry Sg := entC c_r06_At r06_At (fun _ _ _ _ _ _ => [])
theorem r06_At_ok : EntryOk Dg Try.prog 80 e_r06_At :=
  ent_ok Dg T_r06_Of_ok (I := []) Try.func80 mix (B := bodyOf Try.f80) (by kernel_rfl) rfl (by kernel_rfl) 400
    fun _ t p sh k g j hb hp => ⟨(r06_At t p sh k g j), .t, fun _ _ _ => by kernel_rfl, trivial, rfl⟩
def T_r06_At : List (Nat × Entry Sg) := (80, e_r06_At) :: T_r06_Of
theorem T_r06_At_ok : TableOk Dg Try.prog T_r06_At := TableOk.cons Dg r06_At_ok T_r06_Of_ok
end Go.Proofs.Ytajcpopikdpcmaa
namespace Go.Proofs.Ytajcpopikdpcmaa
open Go.Sl
def x_feet (t : Int) (p : Int) (sh : Int) (xs : List Int) : Bool := feet ⟨t, p, sh⟩ xs
abbrev c_x_feet : Ct Sg := ⟨none, false, [.agg [.i .i64, .i .i64, .i .i64, .ro [some .u32]]], .b⟩
def e_x_feet : Entry Sg := entC c_x_feet x_feet (fun t p sh xs => [AGood ⟨t, p, sh⟩ xs, (starts ⟨t, p, sh⟩ xs).2 = true])
def x_feet_w (t : Int) (p : Int) (sh : Int) (xs : List Int) (Q0 : Int → Int → Nat → List Int → Prop) (R_ : Bool → Prop) : Prop := (∀ r1 : List Int × Bool, r1 = (x_starts t p sh xs) → ((AGood { t := t, p := p, s := sh } xs) ∧ ((AGood { t := t, p := p, s := sh } xs) → (Q0 ((0 : Int)) ((0 : Int)) (List.length (Prod.fst r1)) (Prod.fst r1)))))
def x_feet_w0 (t : Int) (p : Int) (sh : Int) (xs : List Int) (i : Int) (n : Int) (n1 : Nat) (ls : List Int) (Q0 : Int → Int → Nat → List Int → Prop) (R_ : Bool → Prop) : Prop := (((decide (i < p)) = true → ((decide (IntKind.wrap IntKind.i64 (n + (1 : Int)) < (↑n1 : Int)) = true → (0 : Int) ≤ IntKind.wrap IntKind.i64 (n + (1 : Int)) ∧ IntKind.wrap IntKind.i64 (n + (1 : Int)) < (↑n1 : Int)) ∧ ((decide (IntKind.wrap IntKind.i64 (n + (1 : Int)) < (↑n1 : Int)) = true → (0 : Int) ≤ IntKind.wrap IntKind.i64 (n + (1 : Int)) ∧ IntKind.wrap IntKind.i64 (n + (1 : Int)) < (↑n1 : Int)) → (((decide (IntKind.wrap IntKind.i64 (n + (1 : Int)) < (↑n1 : Int)) && List.getD ls (Int.toNat (IntKind.wrap IntKind.i64 (n + (1 : Int)))) (0 : Int) == i) = true → (((0 : Int) ≤ IntKind.wrap IntKind.i64 (n + (1 : Int)) ∧ IntKind.wrap IntKind.i64 (n + (1 : Int)) < (↑n1 : Int)) ∧ (((0 : Int) ≤ IntKind.wrap IntKind.i64 (n + (1 : Int)) ∧ IntKind.wrap IntKind.i64 (n + (1 : Int)) < (↑n1 : Int)) → (((0 : Int) ≤ IntKind.wrap IntKind.i64 (n + (1 : Int)) ∧ IntKind.wrap IntKind.i64 (n + (1 : Int)) < (↑n1 : Int)) ∧ (((0 : Int) ≤ IntKind.wrap IntKind.i64 (n + (1 : Int)) ∧ IntKind.wrap IntKind.i64 (n + (1 : Int)) < (↑n1 : Int)) → ((AGood { t := t, p := p, s := sh } xs) ∧ ((AGood { t := t, p := p, s := sh } xs) → (((0 : Int) ≤ List.getD ls (Int.toNat (IntKind.wrap IntKind.i64 (n + (1 : Int)))) (0 : Int) ∧ List.getD ls (Int.toNat (IntKind.wrap IntKind.i64 (n + (1 : Int)))) (0 : Int) < p) ∧ (((0 : Int) ≤ List.getD ls (Int.toNat (IntKind.wrap IntKind.i64 (n + (1 : Int)))) (0 : Int) ∧ List.getD ls (Int.toNat (IntKind.wrap IntKind.i64 (n + (1 : Int)))) (0 : Int) < p) → (((i == IntKind.wrap IntKind.i64 (IntKind.wrap IntKind.i64 (List.getD ls (Int.toNat (IntKind.wrap IntKind.i64 (n + (1 : Int)))) (0 : Int) + Prod.fst (If.l (aInfo { t := t, p := p, s := sh } xs (List.getD ls (Int.toNat (IntKind.wrap IntKind.i64 (n + (1 : Int)))) (0 : Int))), If.c (aInfo { t := t, p := p, s := sh } xs (List.getD ls (Int.toNat (IntKind.wrap IntKind.i64 (n + (1 : Int)))) (0 : Int))))) - (1 : Int))) = true → (((0 : Int) ≤ IntKind.wrap IntKind.i64 (n + (1 : Int)) ∧ IntKind.wrap IntKind.i64 (n + (1 : Int)) < (↑n1 : Int)) ∧ (((0 : Int) ≤ IntKind.wrap IntKind.i64 (n + (1 : Int)) ∧ IntKind.wrap IntKind.i64 (n + (1 : Int)) < (↑n1 : Int)) → (((0 : Int) ≤ r07_Foot t p sh i ∧ r07_Foot t p sh i < (↑(List.length xs) : Int)) ∧ (((0 : Int) ≤ r07_Foot t p sh i ∧ r07_Foot t p sh i < (↑(List.length xs) : Int)) → (((List.getD xs (Int.toNat (r07_Foot t p sh i)) (0 : Int) != IntKind.wrap IntKind.u32 (IntKind.wrap IntKind.i64 (List.getD ls (Int.toNat (IntKind.wrap IntKind.i64 (n + (1 : Int)))) (0 : Int) + (1 : Int)))) = true → (R_ (false))) ∧ ((List.getD xs (Int.toNat (r07_Foot t p sh i)) (0 : Int) != IntKind.wrap IntKind.u32 (IntKind.wrap IntKind.i64 (List.getD ls (Int.toNat (IntKind.wrap IntKind.i64 (n + (1 : Int)))) (0 : Int) + (1 : Int)))) = false → (Q0 (IntKind.wrap IntKind.i64 (i + (1 : Int))) (IntKind.wrap IntKind.i64 (n + (1 : Int))) (n1) (ls))))))))) ∧ ((i == IntKind.wrap IntKind.i64 (IntKind.wrap IntKind.i64 (List.getD ls (Int.toNat (IntKind.wrap IntKind.i64 (n + (1 : Int)))) (0 : Int) + Prod.fst (If.l (aInfo { t := t, p := p, s := sh } xs (List.getD ls (Int.toNat (IntKind.wrap IntKind.i64 (n + (1 : Int)))) (0 : Int))), If.c (aInfo { t := t, p := p, s := sh } xs (List.getD ls (Int.toNat (IntKind.wrap IntKind.i64 (n + (1 : Int)))) (0 : Int))))) - (1 : Int))) = false → (((0 : Int) ≤ r07_Foot t p sh i ∧ r07_Foot t p sh i < (↑(List.length xs) : Int)) ∧ (((0 : Int) ≤ r07_Foot t p sh i ∧ r07_Foot t p sh i < (↑(List.length xs) : Int)) → (((List.getD xs (Int.toNat (r07_Foot t p sh i)) (0 : Int) != (0 : Int)) = true → (R_ (false))) ∧ ((List.getD xs (Int.toNat (r07_Foot t p sh i)) (0 : Int) != (0 : Int)) = false → (Q0 (IntKind.wrap IntKind.i64 (i + (1 : Int))) (IntKind.wrap IntKind.i64 (n + (1 : Int))) (n1) (ls))))))))))))))))) ∧ ((decide (IntKind.wrap IntKind.i64 (n + (1 : Int)) < (↑n1 : Int)) && List.getD ls (Int.toNat (IntKind.wrap IntKind.i64 (n + (1 : Int)))) (0 : Int) == i) = false → (((0 : Int) ≤ n ∧ n < (↑n1 : Int)) ∧ (((0 : Int) ≤ n ∧ n < (↑n1 : Int)) → (((0 : Int) ≤ n ∧ n < (↑n1 : Int)) ∧ (((0 : Int) ≤ n ∧ n < (↑n1 : Int)) → ((AGood { t := t, p := p, s := sh } xs) ∧ ((AGood { t := t, p := p, s := sh } xs) → (((0 : Int) ≤ List.getD ls (Int.toNat n) (0 : Int) ∧ List.getD ls (Int.toNat n) (0 : Int) < p) ∧ (((0 : Int) ≤ List.getD ls (Int.toNat n) (0 : Int) ∧ List.getD ls (Int.toNat n) (0 : Int) < p) → (((i == IntKind.wrap IntKind.i64 (IntKind.wrap IntKind.i64 (List.getD ls (Int.toNat n) (0 : Int) + Prod.fst (If.l (aInfo { t := t, p := p, s := sh } xs (List.getD ls (Int.toNat n) (0 : Int))), If.c (aInfo { t := t, p := p, s := sh } xs (List.getD ls (Int.toNat n) (0 : Int))))) - (1 : Int))) = true → (((0 : Int) ≤ n ∧ n < (↑n1 : Int)) ∧ (((0 : Int) ≤ n ∧ n < (↑n1 : Int)) → (((0 : Int) ≤ r07_Foot t p sh i ∧ r07_Foot t p sh i < (↑(List.length xs) : Int)) ∧ (((0 : Int) ≤ r07_Foot t p sh i ∧ r07_Foot t p sh i < (↑(List.length xs) : Int)) → (((List.getD xs (Int.toNat (r07_Foot t p sh i)) (0 : Int) != IntKind.wrap IntKind.u32 (IntKind.wrap IntKind.i64 (List.getD ls (Int.toNat n) (0 : Int) + (1 : Int)))) = true → (R_ (false))) ∧ ((List.getD xs (Int.toNat (r07_Foot t p sh i)) (0 : Int) != IntKind.wrap IntKind.u32 (IntKind.wrap IntKind.i64 (List.getD ls (Int.toNat n) (0 : Int) + (1 : Int)))) = false → (Q0 (IntKind.wrap IntKind.i64 (i + (1 : Int))) (n) (n1) (ls))))))))) ∧ ((i == IntKind.wrap IntKind.i64 (IntKind.wrap IntKind.i64 (List.getD ls (Int.toNat n) (0 : Int) + Prod.fst (If.l (aInfo { t := t, p := p, s := sh } xs (List.getD ls (Int.toNat n) (0 : Int))), If.c (aInfo { t := t, p := p, s := sh } xs (List.getD ls (Int.toNat n) (0 : Int))))) - (1 : Int))) = false → (((0 : Int) ≤ r07_Foot t p sh i ∧ r07_Foot t p sh i < (↑(List.length xs) : Int)) ∧ (((0 : Int) ≤ r07_Foot t p sh i ∧ r07_Foot t p sh i < (↑(List.length xs) : Int)) → (((List.getD xs (Int.toNat (r07_Foot t p sh i)) (0 : Int) != (0 : Int)) = true → (R_ (false))) ∧ ((List.getD xs (Int.toNat (r07_Foot t p sh i)) (0 : Int) != (0 : Int)) = false → (Q0 (IntKind.wrap IntKind.i64 (i + (1 : Int))) (n) (n1) (ls))))))))))))))))))))) ∧ ((decide (i < p)) = false → (R_ (true))))
def x_feet_I0 (t : Int) (p : Int) (sh : Int) (xs : List Int) (i : Int) (n : Int) (n1 : Nat) (ls : List Int) (r_ : Bool) : Prop := 0 ≤ i ∧ i ≤ p ∧ 0 ≤ n ∧ n < ls.length ∧ n1 = ls.length ∧ ls = (starts ⟨t, p, sh⟩ xs).1 ∧ feetF ⟨t, p, sh⟩ xs ls (p - i).toNat n.toNat = r_
theorem x_feet_begin (t : Int) (p : Int) (sh : Int) (xs : List Int) (hp0 : AGood ⟨t, p, sh⟩ xs) (hp1 : (starts ⟨t, p, sh⟩ xs).2 = true) (hl0 : xs.length ≤ 9223372036854775807) : x_feet_w t p sh xs (fun i' n' n1' ls' => x_feet_I0 t p sh xs i' n' n1' ls' (x_feet t p sh xs)) (fun r__ => r__ = (x_feet t p sh xs)) := by
  unfold x_feet_w
  try unfold x_feet_I0
  have hok := Cf.ok_iff.1 hp0.ok
  simp only at hok
  have hne := starts_ne (c := ⟨t, p, sh⟩) (xs := xs) (by show 1 ≤ p; omega) hp1
  rintro r1 rfl
  refine ⟨hp0, fun _ => ⟨by omega, by omega, by omega, ?_, rfl, rfl, ?_⟩⟩
  · show (0 : Int) < ((starts ⟨t, p, sh⟩ xs).1.length : Int)
    omega
  · show feetF ⟨t, p, sh⟩ xs (starts ⟨t, p, sh⟩ xs).1 (p - 0).toNat (Int.toNat 0) = feet ⟨t, p, sh⟩ xs
    unfold feet
    rw [show (p - 0).toNat = p.toNat by omega]
    rfl
theorem x_feet_step0 (t : Int) (p : Int) (sh : Int) (xs : List Int) (hp0 : AGood ⟨t, p, sh⟩ xs) (hp1 : (starts ⟨t, p, sh⟩ xs).2 = true) (hl0 : xs.length ≤ 9223372036854775807) (i : Int) (n : Int) (n1 : Nat) (ls : List Int) {r_ : Bool} (hI : x_feet_I0 t p sh xs i n n1 ls r_) : x_feet_w0 t p sh xs i n n1 ls (fun i' n' n1' ls' => x_feet_I0 t p sh xs i' n' n1' ls' r_ ∧ lx ((p - i').toNat, 0, 0) ((p - i).toNat, 0, 0)) (fun r__ => r__ = r_) := by
  unfold x_feet_I0 at hI
  unfold x_feet_w0
  try unfold x_feet_I0
  obtain ⟨h0, h1, h2, h3, h4, h5, hr⟩ := hI
  have hok := Cf.ok_iff.1 hp0.ok
  simp only at hok
  have hlen : (ls.length : Int) ≤ p + 1 := by
    have := starts_len (c := ⟨t, p, sh⟩) (xs := xs)
    rw [← h5] at this
    simp only at this
    omega
  refine ⟨fun h => ?_, fun h => ?_⟩
  · simp only [decide_eq_true_eq] at h
    have hft := pc_in hp0 (g := i) (k := 1) ⟨h0, h⟩ (by omega)
    have e : (p - i).toNat = (p - (i + 1)).toNat + 1 := by omega
    have ei : (p : Int) - (((p - (i + 1)).toNat + 1 : Nat) : Int) = i := by omega
    rw [e] at hr
    simp only [feetF] at hr
    rw [ei] at hr
    have hmem : ∀ q : Nat, q < ls.length → 0 ≤ ls.getD q 0 ∧ ls.getD q 0 < p := fun q hq => starts_in (c := ⟨t, p, sh⟩) (xs := xs) _ (by rw [← h5]; exact getD_memA hq)
    have hw : ∀ x : Int, 0 ≤ x → x < p → IntKind.i64.wrap (IntKind.i64.wrap (x + (aInfo ⟨t, p, sh⟩ xs x).l) - 1) = x + (aInfo ⟨t, p, sh⟩ xs x).l - 1 := fun x a b => by
      have h7 := iGet_bd (cel xs (Cf.info ⟨t, p, sh⟩ x))
      have h8 : 0 ≤ (aInfo ⟨t, p, sh⟩ xs x).l ∧ (aInfo ⟨t, p, sh⟩ xs x).l ≤ 1024 := ⟨h7.2.2.1, h7.2.2.2.1⟩
      rw [w64 (n := x + (aInfo ⟨t, p, sh⟩ xs x).l) (by omega), w64 (by omega)]
    have hv : ∀ x : Int, 0 ≤ x → x < p → IntKind.u32.wrap (IntKind.i64.wrap (x + 1)) = nv (x + 1) := fun x a b => by rw [w64 (n := x + 1) (by omega), wrapu_nv]
    have hn1 : decide (n + 1 < (n1 : Int)) = decide (n.toNat + 1 < ls.length) := by rw [h4]; apply decide_eq_decide.2; omega
    have en : (n + 1).toNat = n.toNat + 1 := by omega
    rw [w64 (n := n + 1) (by omega), w64 (n := i + 1) (by omega), r07_Foot_eq, hn1, en]
    refine ⟨fun hh => (by simp only [decide_eq_true_eq] at hh; omega), fun _ => ⟨fun hc => ?_, fun hc => ?_⟩⟩
    · rw [hc, cond_true] at hr
      have hlt : n.toNat + 1 < ls.length := by simp only [Bool.and_eq_true, decide_eq_true_eq] at hc; exact hc.1
      have hq : 0 ≤ n + 1 ∧ n + 1 < (n1 : Int) := by omega
      have hm := hmem (n.toNat + 1) hlt
      refine ⟨hq, fun _ => ⟨hq, fun _ => ⟨hp0, fun _ => ⟨hm, fun _ => ⟨fun hcc => ⟨hq, fun _ => ⟨hft, fun _ => ⟨fun hz => ?_, fun hz => ?_⟩⟩⟩, fun hcc => ⟨hft, fun _ => ⟨fun hz => ?_, fun hz => ?_⟩⟩⟩⟩⟩⟩⟩
      · have hcc' : (i == ls.getD (n.toNat + 1) 0 + (aInfo ⟨t, p, sh⟩ xs (ls.getD (n.toNat + 1) 0)).l - 1) = true := by rw [← hw _ hm.1 hm.2]; exact hcc
        have hz' : (cel xs (Cf.foot ⟨t, p, sh⟩ i) != nv (ls.getD (n.toNat + 1) 0 + 1)) = true := by rw [← hv _ hm.1 hm.2]; exact hz
        rw [hcc', cond_true, hz', cond_true] at hr; exact hr
      · have hcc' : (i == ls.getD (n.toNat + 1) 0 + (aInfo ⟨t, p, sh⟩ xs (ls.getD (n.toNat + 1) 0)).l - 1) = true := by rw [← hw _ hm.1 hm.2]; exact hcc
        have hz' : (cel xs (Cf.foot ⟨t, p, sh⟩ i) != nv (ls.getD (n.toNat + 1) 0 + 1)) = false := by rw [← hv _ hm.1 hm.2]; exact hz
        rw [hcc', cond_true, hz', cond_false] at hr
        exact ⟨⟨by omega, by omega, by omega, by omega, h4, h5, by rw [en]; exact hr⟩, lxo_⟩
      · have hcc' : (i == ls.getD (n.toNat + 1) 0 + (aInfo ⟨t, p, sh⟩ xs (ls.getD (n.toNat + 1) 0)).l - 1) = false := by rw [← hw _ hm.1 hm.2]; exact hcc
        have hz' : (cel xs (Cf.foot ⟨t, p, sh⟩ i) != 0) = true := hz
        rw [hcc', cond_false, hz', cond_true] at hr; exact hr
      · have hcc' : (i == ls.getD (n.toNat + 1) 0 + (aInfo ⟨t, p, sh⟩ xs (ls.getD (n.toNat + 1) 0)).l - 1) = false := by rw [← hw _ hm.1 hm.2]; exact hcc
        have hz' : (cel xs (Cf.foot ⟨t, p, sh⟩ i) != 0) = false := hz
        rw [hcc', cond_false, hz', cond_false] at hr
        exact ⟨⟨by omega, by omega, by omega, by omega, h4, h5, by rw [en]; exact hr⟩, lxo_⟩
    · rw [hc, cond_false] at hr
      have hlt : n.toNat < ls.length := by omega
      have hq : 0 ≤ n ∧ n < (n1 : Int) := by omega
      have hm := hmem (n.toNat) hlt
      refine ⟨hq, fun _ => ⟨hq, fun _ => ⟨hp0, fun _ => ⟨hm, fun _ => ⟨fun hcc => ⟨hq, fun _ => ⟨hft, fun _ => ⟨fun hz => ?_, fun hz => ?_⟩⟩⟩, fun hcc => ⟨hft, fun _ => ⟨fun hz => ?_, fun hz => ?_⟩⟩⟩⟩⟩⟩⟩
      · have hcc' : (i == ls.getD (n.toNat) 0 + (aInfo ⟨t, p, sh⟩ xs (ls.getD (n.toNat) 0)).l - 1) = true := by rw [← hw _ hm.1 hm.2]; exact hcc
        have hz' : (cel xs (Cf.foot ⟨t, p, sh⟩ i) != nv (ls.getD (n.toNat) 0 + 1)) = true := by rw [← hv _ hm.1 hm.2]; exact hz
        rw [hcc', cond_true, hz', cond_true] at hr; exact hr
      · have hcc' : (i == ls.getD (n.toNat) 0 + (aInfo ⟨t, p, sh⟩ xs (ls.getD (n.toNat) 0)).l - 1) = true := by rw [← hw _ hm.1 hm.2]; exact hcc
        have hz' : (cel xs (Cf.foot ⟨t, p, sh⟩ i) != nv (ls.getD (n.toNat) 0 + 1)) = false := by rw [← hv _ hm.1 hm.2]; exact hz
        rw [hcc', cond_true, hz', cond_false] at hr
        exact ⟨⟨by omega, by omega, by omega, by omega, h4, h5, hr⟩, lxo_⟩
      · have hcc' : (i == ls.getD (n.toNat) 0 + (aInfo ⟨t, p, sh⟩ xs (ls.getD (n.toNat) 0)).l - 1) = false := by rw [← hw _ hm.1 hm.2]; exact hcc
        have hz' : (cel xs (Cf.foot ⟨t, p, sh⟩ i) != 0) = true := hz
        rw [hcc', cond_false, hz', cond_true] at hr; exact hr
      · have hcc' : (i == ls.getD (n.toNat) 0 + (aInfo ⟨t, p, sh⟩ xs (ls.getD (n.toNat) 0)).l - 1) = false := by rw [← hw _ hm.1 hm.2]; exact hcc
        have hz' : (cel xs (Cf.foot ⟨t, p, sh⟩ i) != 0) = false := hz
        rw [hcc', cond_false, hz', cond_false] at hr
        exact ⟨⟨by omega, by omega, by omega, by omega, h4, h5, hr⟩, lxo_⟩
  · simp only [decide_eq_false_iff_not] at h
    rw [show (p - i).toNat = 0 by omega] at hr
    exact hr
theorem x_feet_ok : EntryOk Dg Try.prog 27 e_x_feet :=
  ent_wp Dg T_r06_At_ok (I := [1643000000006, 1643000000005, 1643000000003, 1643000000001]) Try.func27 mix (B := bodyOf Try.f27) (by kernel_rfl) rfl (by kernel_rfl) 400
    fun p0 t p sh xs hb hp => have hl0 : xs.length ≤ 9223372036854775807 := hb.1.2.2.2.1; have hp0 : AGood ⟨t, p, sh⟩ xs := hp _ (.head _); have hp1 : (starts ⟨t, p, sh⟩ xs).2 = true := hp _ (.tail _ (.head _)); ⟨[⟨none, [0,1,0,1,1,1], [.blk 0, .code [1,1,1,1]], [6, 5, 3, 1], [.i .i64, .i .i64, .own 3 [some .i64], .box 36 [.ic .i64 (t), .ic .i64 (p), .ic .i64 (sh), .roc [.ints .u32 (xs)]]]⟩], fun j => List.getD [appC (Hd.kd (⟨none, [0,1,0,1,1,1], [.blk 0, .code [1,1,1,1]], [6, 5, 3, 1], [.i .i64, .i .i64, .own 3 [some .i64], .box 36 [.ic .i64 (t), .ic .i64 (p), .ic .i64 (sh), .roc [.ints .u32 (xs)]]]⟩ : Hd Sg)) (fun i' n' n1' ls' => x_feet_I0 t p sh xs i' n' n1' ls' (x_feet t p sh xs))] j (fun _ => False), fun j => List.getD [appC (Hd.kd (⟨none, [0,1,0,1,1,1], [.blk 0, .code [1,1,1,1]], [6, 5, 3, 1], [.i .i64, .i .i64, .own 3 [some .i64], .box 36 [.ic .i64 (t), .ic .i64 (p), .ic .i64 (sh), .roc [.ints .u32 (xs)]]]⟩ : Hd Sg)) (fun i' n' n1' ls' => ((p - i').toNat, 0, 0))] j (fun _ => (0, 0, 0)), by kernel_rfl, ⟨x_feet_w t p sh xs (fun i' n' n1' ls' => x_feet_I0 t p sh xs i' n' n1' ls' (x_feet t p sh xs)) (fun r__ => r__ = (x_feet t p sh xs)), fun _ _ _ => by kernel_rfl, x_feet_begin t p sh xs hp0 hp1 hl0 ⟩, ⟨fun i n n1 ls hI => ⟨x_feet_w0 t p sh xs i n n1 ls (fun i' n' n1' ls' => x_feet_I0 t p sh xs i' n' n1' ls' (x_feet t p sh xs) ∧ lx ((p - i').toNat, 0, 0) ((p - i).toNat, 0, 0)) (fun r__ => r__ = (x_feet t p sh xs)), fun _ _ _ => by kernel_rfl, x_feet_step0 t p sh xs hp0 hp1 hl0 i n n1 ls hI⟩, trivial⟩⟩
def T_x_feet : List (Nat × Entry Sg) := (27, e_x_feet) :: T_r06_At
theorem T_x_feet_ok : TableOk Dg Try.prog T_x_feet := TableOk.cons Dg x_feet_ok T_r06_At_ok
end Go.Proofs.Ytajcpopikdpcmaa
namespace Go.Sl
open Go.Proofs.Ytajcpopikdpcmaa
structure Pt where
  k : Int
  a : Int
  s : Int
deriving DecidableEq
def pgB (sh : Int) : Int := 2 ^ sh.toNat
def szB (sh k : Int) : Int := pgB sh / kSlots k - pgB sh / kSlots k % 16
theorem kSlots_bd (k : Int) : 0 ≤ kSlots k ∧ kSlots k ≤ 32 := by
  by_cases h : 0 ≤ k ∧ k ≤ 8
  · rcases (by omega : k = 0 ∨ k = 1 ∨ k = 2 ∨ k = 3 ∨ k = 4 ∨ k = 5 ∨ k = 6 ∨ k = 7 ∨ k = 8) with rfl | rfl | rfl | rfl | rfl | rfl | rfl | rfl | rfl <;> decide
  · unfold kSlots
    by_cases h0 : 0 ≤ k
    · have : decide (0 ≤ k) = true := by simpa using h0
      rw [this, cond_true, List.getD_eq_getElem?_getD, List.getElem?_eq_none (by simp; omega)]; decide
    · have : decide (0 ≤ k) = false := by simpa using h0
      rw [this]; simp
theorem szB_all : ∀ a : Fin 11, ∀ k : Fin 9, r05_Size ((a.val + 10 : Nat) : Int) (k.val : Int) = szB ((a.val + 10 : Nat) : Int) (k.val : Int) ∧ 16 ≤ szB ((a.val + 10 : Nat) : Int) (k.val : Int) ∧ szB ((a.val + 10 : Nat) : Int) (k.val : Int) * kSlots (k.val : Int) ≤ pgB ((a.val + 10 : Nat) : Int) ∧ 1 ≤ kSlots (k.val : Int) ∧ 1024 ≤ pgB ((a.val + 10 : Nat) : Int) ∧ pgB ((a.val + 10 : Nat) : Int) ≤ 1048576 ∧ szB ((a.val + 10 : Nat) : Int) (k.val : Int) % 16 = 0 := by decide +kernel
theorem szB_ok {sh k : Int} (h : 10 ≤ sh ∧ sh ≤ 20) (hk : 0 ≤ k ∧ k ≤ 8) : r05_Size sh k = szB sh k ∧ 16 ≤ szB sh k ∧ szB sh k * kSlots k ≤ pgB sh ∧ 1 ≤ kSlots k ∧ 1024 ≤ pgB sh ∧ pgB sh ≤ 1048576 ∧ szB sh k % 16 = 0 := by
  have := szB_all ⟨(sh - 10).toNat, by omega⟩ ⟨k.toNat, by omega⟩
  have e1 : (((sh - 10).toNat + 10 : Nat) : Int) = sh := by omega
  have e2 : ((k.toNat : Nat) : Int) = k := by omega
  simp only [e1, e2] at this
  exact this
theorem Cf.right {c : Cf} (h : c.ok = true) : r04_Right c.t c.p c.s = true := by
  have := Cf.ok_iff.1 h
  simp only [r04_Right, Bool.and_eq_true, decide_eq_true_eq]; omega
theorem page_pgB {c : Cf} (h : c.ok = true) : r04_Page c.t c.p c.s = pgB c.s := by
  unfold r04_Page pgB; rw [Cf.right h]; rfl
theorem of_pgB {c : Cf} (h : c.ok = true) {g o : Int} (hg : 0 ≤ g ∧ g < c.p) (ho : 0 ≤ o ∧ o < pgB c.s) : (r06_Of c.t c.p c.s g o).1 = (g + 1) * pgB c.s + o ∧ (r06_Of c.t c.p c.s g o).2 = true := by
  have h1 := Cf.ok_iff.1 h
  have h2 := (szB_ok h1.2.2 (k := 0) (by omega)).2.2.2.2
  have e : (!r04_Right c.t c.p c.s || decide (g < (0 : Int)) || decide (g ≥ c.p) || decide (o < (0 : Int)) || decide (o ≥ r04_Page c.t c.p c.s)) = false := by
    rw [Cf.right h, page_pgB h]
    simp only [Bool.not_true, Bool.false_or, Bool.or_eq_false_iff, decide_eq_false_iff_not]
    omega
  unfold r06_Of
  rw [e, page_pgB h]
  have h3 : (g + 1) * pgB c.s ≤ 1024 * 1048576 := Int.mul_le_mul (by omega) (by omega) (by omega) (by omega)
  have h4 : 0 ≤ (g + 1) * pgB c.s := Int.mul_nonneg (by omega) (by omega)
  rw [cond_false, w64 (n := g + 1) (by omega), w64 (n := (g + 1) * pgB c.s) (by omega), w64 (by omega)]
  exact ⟨rfl, rfl⟩
theorem at_pgB {c : Cf} (h : c.ok = true) {k g j : Int} (hk : 0 ≤ k ∧ k ≤ 8) (hg : 0 ≤ g ∧ g < c.p) (hj : 0 ≤ j ∧ j < kSlots k) : (r06_At c.t c.p c.s k g j).1 = (g + 1) * pgB c.s + j * szB c.s k ∧ (r06_At c.t c.p c.s k g j).2 = true := by
  have h1 := Cf.ok_iff.1 h
  obtain ⟨e, e2, e3, e4, e5, e6, _⟩ := szB_ok h1.2.2 hk
  have e0 : (decide (j < (0 : Int)) || decide (j ≥ r05_Slots k)) = false := by
    rw [r05_Slots_eq]
    simp only [Bool.or_eq_false_iff, decide_eq_false_iff_not]; omega
  have f1 : 0 ≤ j * szB c.s k := Int.mul_nonneg hj.1 (by omega)
  have f2 : (j + 1) * szB c.s k ≤ kSlots k * szB c.s k := Int.mul_le_mul_of_nonneg_right (by omega) (by omega)
  have f3 : (j + 1) * szB c.s k = j * szB c.s k + szB c.s k := by rw [Int.add_mul, Int.one_mul]
  have f4 : kSlots k * szB c.s k = szB c.s k * kSlots k := Int.mul_comm _ _
  unfold r06_At
  rw [e0, e, cond_false, w64 (n := j * szB c.s k) (by omega)]
  obtain ⟨g1, g2⟩ := of_pgB h hg (o := j * szB c.s k) (by omega)
  exact ⟨g1, g2⟩
section
variable (c : Cf) (xs : List Int)
def slabKind (g j : Int) : Int := bif bitAt (cel xs (c.slots g)) j then 2 else bif bitAt (cel xs (c.taken g)) j then 4 else 3
def slabPt (g k j : Int) : Pt := ⟨slabKind c xs g j, (g + 1) * pgB c.s + j * szB c.s k, szB c.s k⟩
def slabF (g k : Int) : Nat → List Pt
  | 0 => []
  | n + 1 => slabF g k n ++ [slabPt c xs g k n]
theorem slabF_len (g k : Int) : ∀ n, (slabF c xs g k n).length = n
  | 0 => rfl
  | n + 1 => by rw [slabF, List.length_append, slabF_len g k n]; rfl
def slabRest (k : Int) : Int := pgB c.s - szB c.s k * kSlots k
def slabL (g k : Int) : List Pt := bif decide (0 < slabRest c k) then slabF c xs g k (kSlots k).toNat ++ [⟨5, (g + 1) * pgB c.s + szB c.s k * kSlots k, slabRest c k⟩] else slabF c xs g k (kSlots k).toNat
def partsOf (g : Int) : List Pt :=
  let i := aInfo c xs g
  bif i.k == 1 || i.k == 2 then [⟨i.k, (g + 1) * pgB c.s, i.l * pgB c.s⟩] else bif i.k == 3 then slabL c xs g i.c else []
theorem slabKind_of {g j : Int} {b1 b2 : Bool} (h1 : bitAt (cel xs (c.slots g)) j = b1) (h2 : bitAt (cel xs (c.taken g)) j = b2) : slabKind c xs g j = bif b1 then 2 else bif b2 then 4 else 3 := by unfold slabKind; rw [h1, h2]
def partsF : Nat → List Pt
  | 0 => []
  | n + 1 => partsF n ++ partsOf c xs n
theorem slabL_len (g k : Int) : (slabL c xs g k).length ≤ 33 := by
  have := (kSlots_bd k).2
  unfold slabL
  cases decide (0 < slabRest c k) with
  | true => simp only [cond_true, List.length_append, slabF_len, List.length_singleton]; omega
  | false => simp only [cond_false, slabF_len]; omega
theorem partsOf_len (g : Int) : (partsOf c xs g).length ≤ 33 := by
  unfold partsOf
  simp only
  cases (aInfo c xs g).k == 1 || (aInfo c xs g).k == 2 with
  | true => simp
  | false =>
    simp only [cond_false]
    cases (aInfo c xs g).k == 3 with
    | true => exact slabL_len c xs g _
    | false => simp
theorem partsF_len : ∀ n : Nat, (partsF c xs n).length ≤ 33 * n
  | 0 => Nat.le_refl _
  | n + 1 => by
    have h1 := partsF_len n
    have h2 := partsOf_len c xs n
    rw [partsF, List.length_append]; omega
theorem partsOf_one {g : Int} (h : ((aInfo c xs g).k == 1 || (aInfo c xs g).k == 2) = true) : partsOf c xs g = [⟨(aInfo c xs g).k, (g + 1) * pgB c.s, (aInfo c xs g).l * pgB c.s⟩] := by simp only [partsOf, h, cond_true]
theorem partsOf_slab {g : Int} (h : ((aInfo c xs g).k == 3) = true) : partsOf c xs g = slabL c xs g (aInfo c xs g).c := by
  have e : ((aInfo c xs g).k == 1 || (aInfo c xs g).k == 2) = false := by
    simp only [beq_iff_eq] at h; rw [h]; rfl
  simp only [partsOf, e, h, cond_true, cond_false]
theorem partsOf_none {g : Int} (h1 : ((aInfo c xs g).k == 1) = false) (h2 : ((aInfo c xs g).k == 2) = false) (h3 : ((aInfo c xs g).k == 3) = false) : partsOf c xs g = [] := by simp only [partsOf, h1, h2, h3, Bool.or_self, cond_false]
def partsL : List Pt := partsF c xs c.p.toNat
def blocksL : List Pt := (partsL c xs).filter fun x => x.k == 2
def rootsF (l : List Int) : Nat → Bool
  | 0 => true
  | k + 1 =>
    let a := cel xs (cRoot (8 - (k + 1 : Nat)))
    bif a != 0 && !l.contains a then false else rootsF l k
def rootsOk : Bool := rootsF xs ((blocksL c xs).map (·.a)) 8
def checkA : Int × Bool :=
  bif !c.ok || ((xs.length : Int) != c.cells) then (1, false) else
  bif !tiles c xs then (2, false) else
  bif !feet c xs then (3, false) else
  bif !apart c xs then (4, false) else
  bif !slotsOk c xs then (5, false) else
  bif !bins c xs then (6, false) else
  bif !racks c xs then (7, false) else
  bif !loose c xs then (8, false) else
  bif !counts c xs then (9, false) else
  bif !rootsOk c xs then (10, false) else (0, true)
def soundA : Bool := (checkA c xs).2
theorem blk_step (P : List Pt) {i : Nat} (h : i < P.length) : (P.take (i + 1)).filter (fun x => x.k == 2) = (P.take i).filter (fun x => x.k == 2) ++ bif (P.map (·.k)).getD i 0 == 2 then [⟨(P.map (·.k)).getD i 0, (P.map (·.a)).getD i 0, (P.map (·.s)).getD i 0⟩] else [] := by
  have e : ∀ f : Pt → Int, (P.map f).getD i 0 = f P[i] := fun f => by
    rw [List.getD_eq_getElem?_getD, List.getElem?_map, List.getElem?_eq_getElem h]; rfl
  rw [List.take_add_one, List.filter_append, e, e, e, List.getElem?_eq_getElem h]
  congr 1
theorem partsL_len : (partsL c xs).length ≤ 33 * c.p.toNat := partsF_len c xs _
theorem blocksL_len : (blocksL c xs).length ≤ 33 * c.p.toNat := Nat.le_trans (List.length_filter_le _ _) (partsL_len c xs)
def bdAll (xs : List Int) : Prop := ∀ v ∈ xs, bd32 v
theorem rootA_eq (k : Int) (h : bdAll xs) : bd32 (cel xs k) := by
  unfold cel
  rw [List.getD_eq_getElem?_getD]
  cases e : xs[k.toNat]? with
  | none => exact ⟨by decide, by decide⟩
  | some v => exact h v (List.mem_of_getElem? e)
def rootA (k : Int) : Int := cel xs (cRoot k)
def stateA : List Int × List Int × Int × Int × Int × Int × Int × Int × Int × Int × Bool :=
  bif soundA c xs then ((blocksL c xs).map (·.a), (blocksL c xs).map (·.s), rootA xs 0, rootA xs 1, rootA xs 2, rootA xs 3, rootA xs 4, rootA xs 5, rootA xs 6, rootA xs 7, true) else ([], [], 0, 0, 0, 0, 0, 0, 0, 0, false)
def soundB : Bool := c.ok && (xs.length == c.cells) && tiles c xs && feet c xs && apart c xs && slotsOk c xs && bins c xs && racks c xs && loose c xs && counts c xs && rootsOk c xs
theorem soundA_eq : soundA c xs = soundB c xs := by
  unfold soundA checkA soundB bne
  cases c.ok <;> cases (xs.length : Int) == c.cells <;> cases tiles c xs <;> cases feet c xs <;> cases apart c xs <;> cases slotsOk c xs <;> cases bins c xs <;> cases racks c xs <;> cases loose c xs <;> cases counts c xs <;> cases rootsOk c xs <;> rfl
end
end Go.Sl
namespace Go.Proofs.Ytajcpopikdpcmaa
open Go.Sl
def x_slab (t : Int) (p : Int) (sh : Int) (xs : List Int) (g : Int) (k : Int) : List Int × List Int × List Int := ((slabL ⟨t, p, sh⟩ xs g k).map (·.k), (slabL ⟨t, p, sh⟩ xs g k).map (·.a), (slabL ⟨t, p, sh⟩ xs g k).map (·.s))
abbrev c_x_slab : Ct Sg := ⟨none, false, [.agg [.i .i64, .i .i64, .i .i64, .ro [some .u32]], .i .i64, .i .i64], .new 87 [some .i64, some .i64, some .i64]⟩
def e_x_slab : Entry Sg := entC c_x_slab x_slab (fun t p sh xs g k => [AGood ⟨t, p, sh⟩ xs, 0 ≤ g ∧ g < p, 0 ≤ k ∧ k ≤ 8])
def x_slab_w (t : Int) (p : Int) (sh : Int) (xs : List Int) (g : Int) (k : Int) (Q0 : Int → Nat → List Int → List Int → List Int → Prop) (R_ : List Int × List Int × List Int → Prop) : Prop := (Q0 ((0 : Int)) ((0 : Nat)) ([]) ([]) ([]))
def x_slab_w0 (t : Int) (p : Int) (sh : Int) (xs : List Int) (g : Int) (k : Int) (s : Int) (n1 : Nat) (ks : List Int) (zs : List Int) (ss : List Int) (Q0 : Int → Nat → List Int → List Int → List Int → Prop) (R_ : List Int × List Int × List Int → Prop) : Prop := (((decide (s < r05_Slots k)) = true → ((AGood { t := t, p := p, s := sh } xs) ∧ ((AGood { t := t, p := p, s := sh } xs) → (((0 : Int) ≤ g ∧ g < p) ∧ (((0 : Int) ≤ g ∧ g < p) → (((r01_Bit (x_Taken t p sh xs g) s) = true → ((AGood { t := t, p := p, s := sh } xs) ∧ ((AGood { t := t, p := p, s := sh } xs) → (((0 : Int) ≤ g ∧ g < p) ∧ (((0 : Int) ≤ g ∧ g < p) → (((r01_Bit (x_Slots t p sh xs g) s) = true → (((n1 + (1 : Nat)) * (24 : Nat) ≤ (140737488355328 : Nat)) ∧ (((n1 + (1 : Nat)) * (24 : Nat) ≤ (140737488355328 : Nat)) → (Q0 (IntKind.wrap IntKind.i64 (s + (1 : Int))) (n1 + (1 : Nat)) (ks ++ [(2 : Int)]) (zs ++ [Prod.fst (r06_At t p sh k g s)]) (ss ++ [r05_Size sh k]))))) ∧ ((r01_Bit (x_Slots t p sh xs g) s) = false → (((n1 + (1 : Nat)) * (24 : Nat) ≤ (140737488355328 : Nat)) ∧ (((n1 + (1 : Nat)) * (24 : Nat) ≤ (140737488355328 : Nat)) → (Q0 (IntKind.wrap IntKind.i64 (s + (1 : Int))) (n1 + (1 : Nat)) (ks ++ [(4 : Int)]) (zs ++ [Prod.fst (r06_At t p sh k g s)]) (ss ++ [r05_Size sh k]))))))))))) ∧ ((r01_Bit (x_Taken t p sh xs g) s) = false → ((AGood { t := t, p := p, s := sh } xs) ∧ ((AGood { t := t, p := p, s := sh } xs) → (((0 : Int) ≤ g ∧ g < p) ∧ (((0 : Int) ≤ g ∧ g < p) → (((r01_Bit (x_Slots t p sh xs g) s) = true → (((n1 + (1 : Nat)) * (24 : Nat) ≤ (140737488355328 : Nat)) ∧ (((n1 + (1 : Nat)) * (24 : Nat) ≤ (140737488355328 : Nat)) → (Q0 (IntKind.wrap IntKind.i64 (s + (1 : Int))) (n1 + (1 : Nat)) (ks ++ [(2 : Int)]) (zs ++ [Prod.fst (r06_At t p sh k g s)]) (ss ++ [r05_Size sh k]))))) ∧ ((r01_Bit (x_Slots t p sh xs g) s) = false → (((n1 + (1 : Nat)) * (24 : Nat) ≤ (140737488355328 : Nat)) ∧ (((n1 + (1 : Nat)) * (24 : Nat) ≤ (140737488355328 : Nat)) → (Q0 (IntKind.wrap IntKind.i64 (s + (1 : Int))) (n1 + (1 : Nat)) (ks ++ [(3 : Int)]) (zs ++ [Prod.fst (r06_At t p sh k g s)]) (ss ++ [r05_Size sh k]))))))))))))))))) ∧ ((decide (s < r05_Slots k)) = false → (((decide (IntKind.wrap IntKind.i64 (r04_Page t p sh - IntKind.wrap IntKind.i64 (r05_Size sh k * r05_Slots k)) > (0 : Int))) = true → (((n1 + (1 : Nat)) * (24 : Nat) ≤ (140737488355328 : Nat)) ∧ (((n1 + (1 : Nat)) * (24 : Nat) ≤ (140737488355328 : Nat)) → (R_ ((ks ++ [(5 : Int)], zs ++ [Prod.fst (r06_Of t p sh g (IntKind.wrap IntKind.i64 (r04_Page t p sh - IntKind.wrap IntKind.i64 (r04_Page t p sh - IntKind.wrap IntKind.i64 (r05_Size sh k * r05_Slots k)))))], ss ++ [IntKind.wrap IntKind.i64 (r04_Page t p sh - IntKind.wrap IntKind.i64 (r05_Size sh k * r05_Slots k))])))))) ∧ ((decide (IntKind.wrap IntKind.i64 (r04_Page t p sh - IntKind.wrap IntKind.i64 (r05_Size sh k * r05_Slots k)) > (0 : Int))) = false → (R_ ((ks, zs, ss)))))))
def x_slab_I0 (t : Int) (p : Int) (sh : Int) (xs : List Int) (g : Int) (k : Int) (s : Int) (n1 : Nat) (ks : List Int) (zs : List Int) (ss : List Int) (r_ : List Int × List Int × List Int) : Prop := 0 ≤ s ∧ s ≤ kSlots k ∧ n1 = ks.length ∧ ks = (slabF ⟨t, p, sh⟩ xs g k s.toNat).map (·.k) ∧ zs = (slabF ⟨t, p, sh⟩ xs g k s.toNat).map (·.a) ∧ ss = (slabF ⟨t, p, sh⟩ xs g k s.toNat).map (·.s) ∧ r_ = x_slab t p sh xs g k
theorem x_slab_begin (t : Int) (p : Int) (sh : Int) (xs : List Int) (g : Int) (k : Int) (hp0 : AGood ⟨t, p, sh⟩ xs) (hp1 : 0 ≤ g ∧ g < p) (hp2 : 0 ≤ k ∧ k ≤ 8) (hl0 : xs.length ≤ 9223372036854775807) : x_slab_w t p sh xs g k (fun s' n1' ks' zs' ss' => x_slab_I0 t p sh xs g k s' n1' ks' zs' ss' (x_slab t p sh xs g k)) (fun r__ => r__ = (x_slab t p sh xs g k)) := by
  unfold x_slab_w
  try unfold x_slab_I0
  exact ⟨by omega, (kSlots_bd k).1, rfl, rfl, rfl, rfl, rfl⟩
theorem x_slab_step0 (t : Int) (p : Int) (sh : Int) (xs : List Int) (g : Int) (k : Int) (hp0 : AGood ⟨t, p, sh⟩ xs) (hp1 : 0 ≤ g ∧ g < p) (hp2 : 0 ≤ k ∧ k ≤ 8) (hl0 : xs.length ≤ 9223372036854775807) (s : Int) (n1 : Nat) (ks : List Int) (zs : List Int) (ss : List Int) {r_ : List Int × List Int × List Int} (hI : x_slab_I0 t p sh xs g k s n1 ks zs ss r_) : x_slab_w0 t p sh xs g k s n1 ks zs ss (fun s' n1' ks' zs' ss' => x_slab_I0 t p sh xs g k s' n1' ks' zs' ss' r_ ∧ lx ((kSlots k - s').toNat, 0, 0) ((kSlots k - s).toNat, 0, 0)) (fun r__ => r__ = r_) := by
  unfold x_slab_I0 at hI
  unfold x_slab_w0
  try unfold x_slab_I0
  obtain ⟨h0, h1, h2, h3, h4, h5, hr⟩ := hI
  have hok := Cf.ok_iff.1 hp0.ok
  simp only at hok
  have hkb := kSlots_bd k
  obtain ⟨s1, s2, s3, s4, s5, s6, _⟩ := szB_ok hok.2.2 hp2
  have hlen : ks.length = s.toNat := by rw [h3, List.length_map, slabF_len]
  refine ⟨fun h => ?_, fun h => ?_⟩
  · rw [r05_Slots_eq] at h
    simp only [decide_eq_true_eq] at h
    have hb1 : r01_Bit (x_Taken t p sh xs g) s = bitAt (cel xs (Cf.taken ⟨t, p, sh⟩ g)) s := bit_eq (cel_bd hp0 _) s
    have hb2 : r01_Bit (x_Slots t p sh xs g) s = bitAt (cel xs (Cf.slots ⟨t, p, sh⟩ g)) s := bit_eq (cel_bd hp0 _) s
    obtain ⟨ha, _⟩ := at_pgB hp0.ok (k := k) (g := g) (j := s) hp2 hp1 ⟨h0, h⟩
    simp only at ha
    rw [w64 (n := s + 1) (by omega), hb1, hb2, ha, s1]
    have es : (s + 1).toNat = s.toNat + 1 := by omega
    have ei : ((s.toNat : Nat) : Int) = s := by omega
    have hst0 : slabF ⟨t, p, sh⟩ xs g k (s + 1).toNat = slabF ⟨t, p, sh⟩ xs g k s.toNat ++ [slabPt ⟨t, p, sh⟩ xs g k s] := by rw [es, slabF, ei]
    have fin : ∀ kd, kd = slabKind ⟨t, p, sh⟩ xs g s → (n1 + 1) * 24 ≤ 140737488355328 ∧ ((0 ≤ s + 1 ∧ s + 1 ≤ kSlots k ∧ n1 + 1 = (ks ++ [kd]).length ∧ ks ++ [kd] = (slabF ⟨t, p, sh⟩ xs g k (s + 1).toNat).map (·.k) ∧ zs ++ [(g + 1) * pgB sh + s * szB sh k] = (slabF ⟨t, p, sh⟩ xs g k (s + 1).toNat).map (·.a) ∧ ss ++ [szB sh k] = (slabF ⟨t, p, sh⟩ xs g k (s + 1).toNat).map (·.s) ∧ r_ = x_slab t p sh xs g k) ∧ lx ((kSlots k - (s + 1)).toNat, 0, 0) ((kSlots k - s).toNat, 0, 0)) := by
      rintro kd rfl
      refine ⟨by omega, ⟨by omega, by omega, by simp [h2], ?_, ?_, ?_, hr⟩, lxo_⟩ <;> rw [hst0, List.map_append]
      · rw [← h3]; rfl
      · rw [← h4]; rfl
      · rw [← h5]; rfl
    refine ⟨hp0, fun _ => ⟨hp1, fun _ => ⟨fun c1 => ⟨hp0, fun _ => ⟨hp1, fun _ => ⟨fun c2 => ?_, fun c2 => ?_⟩⟩⟩, fun c1 => ⟨hp0, fun _ => ⟨hp1, fun _ => ⟨fun c2 => ?_, fun c2 => ?_⟩⟩⟩⟩⟩⟩
    · obtain ⟨a, b⟩ := fin 2 (slabKind_of _ _ c2 c1).symm; exact ⟨a, fun _ => b⟩
    · obtain ⟨a, b⟩ := fin 4 (slabKind_of _ _ c2 c1).symm; exact ⟨a, fun _ => b⟩
    · obtain ⟨a, b⟩ := fin 2 (slabKind_of _ _ c2 c1).symm; exact ⟨a, fun _ => b⟩
    · obtain ⟨a, b⟩ := fin 3 (slabKind_of _ _ c2 c1).symm; exact ⟨a, fun _ => b⟩
  · rw [r05_Slots_eq] at h
    simp only [decide_eq_false_iff_not] at h
    have e : s.toNat = (kSlots k).toNat := by omega
    have hpg : r04_Page t p sh = pgB sh := page_pgB hp0.ok
    have hz : 0 ≤ szB sh k * kSlots k := Int.mul_nonneg (by omega) (by omega)
    have w1 : IntKind.i64.wrap (szB sh k * kSlots k) = szB sh k * kSlots k := w64 (by omega)
    have w2 : IntKind.i64.wrap (pgB sh - szB sh k * kSlots k) = slabRest ⟨t, p, sh⟩ k := w64 (by omega)
    have hre : slabRest ⟨t, p, sh⟩ k = pgB sh - szB sh k * kSlots k := rfl
    rw [hpg, s1, r05_Slots_eq, w1, w2]
    have w3 : IntKind.i64.wrap (pgB sh - slabRest ⟨t, p, sh⟩ k) = szB sh k * kSlots k := by rw [hre, w64 (by omega)]; omega
    rw [w3]
    rw [e] at h3 h4 h5
    refine ⟨fun hc => ⟨by omega, fun _ => ?_⟩, fun hc => ?_⟩
    · obtain ⟨ha, _⟩ := of_pgB hp0.ok (g := g) (o := szB sh k * kSlots k) hp1 (by simp only [gt_iff_lt, decide_eq_true_eq] at hc; show 0 ≤ _ ∧ _ < pgB sh; omega)
      simp only at ha
      rw [ha]
      show _ = _
      have hc' : decide (0 < slabRest ⟨t, p, sh⟩ k) = true := hc
      rw [hr, x_slab, slabL, hc', cond_true, h3, h4, h5]
      simp only [List.map_append]; rfl
    · have hc' : decide (0 < slabRest ⟨t, p, sh⟩ k) = false := hc
      show _ = _
      rw [hr, x_slab, slabL, hc', cond_false, h3, h4, h5]
theorem x_slab_ok : EntryOk Dg Try.prog 74 e_x_slab :=
  ent_wp Dg T_x_feet_ok (I := [1643000000009, 1643000000008, 1643000000007, 1643000000003, 1643000000001, 1643000000002]) Try.func74 mix (B := bodyOf Try.f74) (by kernel_rfl) rfl (by kernel_rfl) 400
    fun p0 t p sh xs g k hb hp => have hl0 : xs.length ≤ 9223372036854775807 := hb.1.2.2.2.1; have hp0 : AGood ⟨t, p, sh⟩ xs := hp _ (.head _); have hp1 : 0 ≤ g ∧ g < p := hp _ (.tail _ (.head _)); have hp2 : 0 ≤ k ∧ k ≤ 8 := hp _ (.tail _ (.tail _ (.head _))); ⟨[⟨none, [0,1,0,1,1,1], [.blk 0, .code [1,1,1,1]], [9, 8, 7, 3, 1, 2], [.i .i64, .ic .i64 (r05_Size sh k), .own 87 [some .i64, some .i64, some .i64], .box 36 [.ic .i64 (t), .ic .i64 (p), .ic .i64 (sh), .roc [.ints .u32 (xs)]], .ic .i64 (g), .ic .i64 (k)]⟩], fun j => List.getD [appC (Hd.kd (⟨none, [0,1,0,1,1,1], [.blk 0, .code [1,1,1,1]], [9, 8, 7, 3, 1, 2], [.i .i64, .ic .i64 (r05_Size sh k), .own 87 [some .i64, some .i64, some .i64], .box 36 [.ic .i64 (t), .ic .i64 (p), .ic .i64 (sh), .roc [.ints .u32 (xs)]], .ic .i64 (g), .ic .i64 (k)]⟩ : Hd Sg)) (fun s' n1' ks' zs' ss' => x_slab_I0 t p sh xs g k s' n1' ks' zs' ss' (x_slab t p sh xs g k))] j (fun _ => False), fun j => List.getD [appC (Hd.kd (⟨none, [0,1,0,1,1,1], [.blk 0, .code [1,1,1,1]], [9, 8, 7, 3, 1, 2], [.i .i64, .ic .i64 (r05_Size sh k), .own 87 [some .i64, some .i64, some .i64], .box 36 [.ic .i64 (t), .ic .i64 (p), .ic .i64 (sh), .roc [.ints .u32 (xs)]], .ic .i64 (g), .ic .i64 (k)]⟩ : Hd Sg)) (fun s' n1' ks' zs' ss' => ((kSlots k - s').toNat, 0, 0))] j (fun _ => (0, 0, 0)), by kernel_rfl, ⟨x_slab_w t p sh xs g k (fun s' n1' ks' zs' ss' => x_slab_I0 t p sh xs g k s' n1' ks' zs' ss' (x_slab t p sh xs g k)) (fun r__ => r__ = (x_slab t p sh xs g k)), fun _ _ _ => by kernel_rfl, x_slab_begin t p sh xs g k hp0 hp1 hp2 hl0 ⟩, ⟨fun s n1 ks zs ss hI => ⟨x_slab_w0 t p sh xs g k s n1 ks zs ss (fun s' n1' ks' zs' ss' => x_slab_I0 t p sh xs g k s' n1' ks' zs' ss' (x_slab t p sh xs g k) ∧ lx ((kSlots k - s').toNat, 0, 0) ((kSlots k - s).toNat, 0, 0)) (fun r__ => r__ = (x_slab t p sh xs g k)), fun _ _ _ => by kernel_rfl, x_slab_step0 t p sh xs g k hp0 hp1 hp2 hl0 s n1 ks zs ss hI⟩, trivial⟩⟩
def T_x_slab : List (Nat × Entry Sg) := (74, e_x_slab) :: T_x_feet
theorem T_x_slab_ok : TableOk Dg Try.prog T_x_slab := TableOk.cons Dg x_slab_ok T_x_feet_ok
def x_parts (t : Int) (p : Int) (sh : Int) (xs : List Int) : List Int × List Int × List Int := ((partsL ⟨t, p, sh⟩ xs).map (·.k), (partsL ⟨t, p, sh⟩ xs).map (·.a), (partsL ⟨t, p, sh⟩ xs).map (·.s))
abbrev c_x_parts : Ct Sg := ⟨none, false, [.agg [.i .i64, .i .i64, .i .i64, .ro [some .u32]]], .new 87 [some .i64, some .i64, some .i64]⟩
def e_x_parts : Entry Sg := entC c_x_parts x_parts (fun t p sh xs => [AGood ⟨t, p, sh⟩ xs])
def x_parts_w (t : Int) (p : Int) (sh : Int) (xs : List Int) (Q0 : Int → Nat → List Int → List Int → List Int → Prop) (R_ : List Int × List Int × List Int → Prop) : Prop := (Q0 ((0 : Int)) ((0 : Nat)) ([]) ([]) ([]))
def x_parts_w0 (t : Int) (p : Int) (sh : Int) (xs : List Int) (i : Int) (n1 : Nat) (ks : List Int) (zs : List Int) (ss : List Int) (Q0 : Int → Nat → List Int → List Int → List Int → Prop) (R_ : List Int × List Int × List Int → Prop) : Prop := (((decide (i < p)) = true → ((AGood { t := t, p := p, s := sh } xs) ∧ ((AGood { t := t, p := p, s := sh } xs) → (((0 : Int) ≤ i ∧ i < p) ∧ (((0 : Int) ≤ i ∧ i < p) → (((Prod.fst (x_Info t p sh xs i) == (1 : Int)) = true → (((Prod.fst (x_Info t p sh xs i) == (1 : Int)) = true → (tw_ (((n1 + (1 : Nat)) * (24 : Nat) ≤ (140737488355328 : Nat)) ∧ (((n1 + (1 : Nat)) * (24 : Nat) ≤ (140737488355328 : Nat)) → (Q0 (IntKind.wrap IntKind.i64 (i + (1 : Int))) (n1 + (1 : Nat)) (ks ++ [Prod.fst (If.k (aInfo { t := t, p := p, s := sh } xs i), If.l (aInfo { t := t, p := p, s := sh } xs i), If.c (aInfo { t := t, p := p, s := sh } xs i))]) (zs ++ [Prod.fst (r06_Of t p sh i (0 : Int))]) (ss ++ [IntKind.wrap IntKind.i64 (If.l (aInfo { t := t, p := p, s := sh } xs i) * r04_Page t p sh)])))))) ∧ ((Prod.fst (x_Info t p sh xs i) == (1 : Int)) = false → (((Prod.fst (x_Info t p sh xs i) == (3 : Int)) = true → (∀ r7 : List Int × List Int × List Int, r7 = (x_slab t p sh xs i (If.c (aInfo { t := t, p := p, s := sh } xs i))) → ((AGood { t := t, p := p, s := sh } xs) ∧ ((AGood { t := t, p := p, s := sh } xs) → (((0 : Int) ≤ i ∧ i < p) ∧ (((0 : Int) ≤ i ∧ i < p) → (((0 : Int) ≤ Prod.snd (If.l (aInfo { t := t, p := p, s := sh } xs i), If.c (aInfo { t := t, p := p, s := sh } xs i)) ∧ Prod.snd (If.l (aInfo { t := t, p := p, s := sh } xs i), If.c (aInfo { t := t, p := p, s := sh } xs i)) ≤ (8 : Int)) ∧ (((0 : Int) ≤ Prod.snd (If.l (aInfo { t := t, p := p, s := sh } xs i), If.c (aInfo { t := t, p := p, s := sh } xs i)) ∧ Prod.snd (If.l (aInfo { t := t, p := p, s := sh } xs i), If.c (aInfo { t := t, p := p, s := sh } xs i)) ≤ (8 : Int)) → (((n1 + List.length (Prod.fst r7)) * (24 : Nat) ≤ (140737488355328 : Nat)) ∧ (((n1 + List.length (Prod.fst r7)) * (24 : Nat) ≤ (140737488355328 : Nat)) → (Q0 (IntKind.wrap IntKind.i64 (i + (1 : Int))) (n1 + List.length (Prod.fst r7)) (ks ++ Prod.fst r7) (zs ++ Prod.fst (Prod.snd r7)) (ss ++ Prod.snd (Prod.snd r7))))))))))))) ∧ ((Prod.fst (x_Info t p sh xs i) == (3 : Int)) = false → (Q0 (IntKind.wrap IntKind.i64 (i + (1 : Int))) (n1) (ks) (zs) (ss))))))) ∧ ((Prod.fst (x_Info t p sh xs i) == (1 : Int)) = false → (((Prod.fst (x_Info t p sh xs i) == (2 : Int)) = true → (tw_ (((n1 + (1 : Nat)) * (24 : Nat) ≤ (140737488355328 : Nat)) ∧ (((n1 + (1 : Nat)) * (24 : Nat) ≤ (140737488355328 : Nat)) → (Q0 (IntKind.wrap IntKind.i64 (i + (1 : Int))) (n1 + (1 : Nat)) (ks ++ [Prod.fst (If.k (aInfo { t := t, p := p, s := sh } xs i), If.l (aInfo { t := t, p := p, s := sh } xs i), If.c (aInfo { t := t, p := p, s := sh } xs i))]) (zs ++ [Prod.fst (r06_Of t p sh i (0 : Int))]) (ss ++ [IntKind.wrap IntKind.i64 (If.l (aInfo { t := t, p := p, s := sh } xs i) * r04_Page t p sh)])))))) ∧ ((Prod.fst (x_Info t p sh xs i) == (2 : Int)) = false → (((Prod.fst (x_Info t p sh xs i) == (3 : Int)) = true → (∀ r7 : List Int × List Int × List Int, r7 = (x_slab t p sh xs i (If.c (aInfo { t := t, p := p, s := sh } xs i))) → ((AGood { t := t, p := p, s := sh } xs) ∧ ((AGood { t := t, p := p, s := sh } xs) → (((0 : Int) ≤ i ∧ i < p) ∧ (((0 : Int) ≤ i ∧ i < p) → (((0 : Int) ≤ Prod.snd (If.l (aInfo { t := t, p := p, s := sh } xs i), If.c (aInfo { t := t, p := p, s := sh } xs i)) ∧ Prod.snd (If.l (aInfo { t := t, p := p, s := sh } xs i), If.c (aInfo { t := t, p := p, s := sh } xs i)) ≤ (8 : Int)) ∧ (((0 : Int) ≤ Prod.snd (If.l (aInfo { t := t, p := p, s := sh } xs i), If.c (aInfo { t := t, p := p, s := sh } xs i)) ∧ Prod.snd (If.l (aInfo { t := t, p := p, s := sh } xs i), If.c (aInfo { t := t, p := p, s := sh } xs i)) ≤ (8 : Int)) → (((n1 + List.length (Prod.fst r7)) * (24 : Nat) ≤ (140737488355328 : Nat)) ∧ (((n1 + List.length (Prod.fst r7)) * (24 : Nat) ≤ (140737488355328 : Nat)) → (Q0 (IntKind.wrap IntKind.i64 (i + (1 : Int))) (n1 + List.length (Prod.fst r7)) (ks ++ Prod.fst r7) (zs ++ Prod.fst (Prod.snd r7)) (ss ++ Prod.snd (Prod.snd r7))))))))))))) ∧ ((Prod.fst (x_Info t p sh xs i) == (3 : Int)) = false → (Q0 (IntKind.wrap IntKind.i64 (i + (1 : Int))) (n1) (ks) (zs) (ss))))))))))))) ∧ ((decide (i < p)) = false → (R_ ((ks, zs, ss)))))
def x_parts_I0 (t : Int) (p : Int) (sh : Int) (xs : List Int) (i : Int) (n1 : Nat) (ks : List Int) (zs : List Int) (ss : List Int) (r_ : List Int × List Int × List Int) : Prop := 0 ≤ i ∧ i ≤ p ∧ n1 = ks.length ∧ ks = (partsF ⟨t, p, sh⟩ xs i.toNat).map (·.k) ∧ zs = (partsF ⟨t, p, sh⟩ xs i.toNat).map (·.a) ∧ ss = (partsF ⟨t, p, sh⟩ xs i.toNat).map (·.s) ∧ r_ = x_parts t p sh xs
theorem x_parts_begin (t : Int) (p : Int) (sh : Int) (xs : List Int) (hp0 : AGood ⟨t, p, sh⟩ xs) (hl0 : xs.length ≤ 9223372036854775807) : x_parts_w t p sh xs (fun i' n1' ks' zs' ss' => x_parts_I0 t p sh xs i' n1' ks' zs' ss' (x_parts t p sh xs)) (fun r__ => r__ = (x_parts t p sh xs)) := by
  unfold x_parts_w
  try unfold x_parts_I0
  have hok := Cf.ok_iff.1 hp0.ok
  simp only at hok
  exact ⟨by omega, by omega, rfl, rfl, rfl, rfl, rfl⟩
theorem x_parts_step0 (t : Int) (p : Int) (sh : Int) (xs : List Int) (hp0 : AGood ⟨t, p, sh⟩ xs) (hl0 : xs.length ≤ 9223372036854775807) (i : Int) (n1 : Nat) (ks : List Int) (zs : List Int) (ss : List Int) {r_ : List Int × List Int × List Int} (hI : x_parts_I0 t p sh xs i n1 ks zs ss r_) : x_parts_w0 t p sh xs i n1 ks zs ss (fun i' n1' ks' zs' ss' => x_parts_I0 t p sh xs i' n1' ks' zs' ss' r_ ∧ lx ((p - i').toNat, 0, 0) ((p - i).toNat, 0, 0)) (fun r__ => r__ = r_) := by
  unfold x_parts_I0 at hI
  unfold x_parts_w0
  try unfold x_parts_I0
  obtain ⟨h0, h1, h2, h3, h4, h5, hr⟩ := hI
  have hok := Cf.ok_iff.1 hp0.ok
  simp only at hok
  have hlen : ks.length ≤ 33 * i.toNat := by rw [h3, List.length_map]; exact partsF_len _ _ _
  refine ⟨fun h => ?_, fun h => ?_⟩
  · simp only [decide_eq_true_eq] at h
    have hg : 0 ≤ i ∧ i < p := ⟨h0, h⟩
    have hbd := iGet_bd (cel xs (Cf.info ⟨t, p, sh⟩ i))
    have hb1 : 0 ≤ (aInfo ⟨t, p, sh⟩ xs i).l ∧ (aInfo ⟨t, p, sh⟩ xs i).l ≤ 1024 := ⟨hbd.2.2.1, hbd.2.2.2.1⟩
    have hb2 : 0 ≤ (aInfo ⟨t, p, sh⟩ xs i).c ∧ (aInfo ⟨t, p, sh⟩ xs i).c ≤ 8 := ⟨hbd.2.2.2.2.1, hbd.2.2.2.2.2⟩
    have hpb := (szB_ok hok.2.2 (k := 0) (by omega)).2.2.2.2
    obtain ⟨ha, _⟩ := of_pgB hp0.ok (g := i) (o := 0) hg (by show 0 ≤ 0 ∧ 0 < pgB sh; omega)
    simp only [Int.add_zero] at ha
    have hpg : r04_Page t p sh = pgB sh := page_pgB hp0.ok
    have hm1 : 0 ≤ (aInfo ⟨t, p, sh⟩ xs i).l * pgB sh := Int.mul_nonneg hb1.1 (by omega)
    have hm2 : (aInfo ⟨t, p, sh⟩ xs i).l * pgB sh ≤ 1024 * 1048576 := Int.mul_le_mul hb1.2 hpb.2.1 (by omega) (by omega)
    have hst : partsF ⟨t, p, sh⟩ xs (i + 1).toNat = partsF ⟨t, p, sh⟩ xs i.toNat ++ partsOf ⟨t, p, sh⟩ xs i := by
      rw [show (i + 1).toNat = i.toNat + 1 by omega, partsF, show ((i.toNat : Nat) : Int) = i by omega]
    have fin : ∀ (L : List Pt), partsOf ⟨t, p, sh⟩ xs i = L → ∀ (n1' : Nat) (ks' zs' ss' : List Int), n1' = n1 + L.length → ks' = ks ++ L.map (·.k) → zs' = zs ++ L.map (·.a) → ss' = ss ++ L.map (·.s) →
        (0 ≤ i + 1 ∧ i + 1 ≤ p ∧ n1' = ks'.length ∧ ks' = (partsF ⟨t, p, sh⟩ xs (i + 1).toNat).map (·.k) ∧ zs' = (partsF ⟨t, p, sh⟩ xs (i + 1).toNat).map (·.a) ∧ ss' = (partsF ⟨t, p, sh⟩ xs (i + 1).toNat).map (·.s) ∧ r_ = x_parts t p sh xs) ∧ lx ((p - (i + 1)).toNat, 0, 0) ((p - i).toNat, 0, 0) := by
      intro L hL n1' ks' zs' ss' e1 e2 e3 e4
      rw [hst, hL, List.map_append, List.map_append, List.map_append, ← h3, ← h4, ← h5]
      exact ⟨⟨by omega, by omega, by rw [e1, e2, List.length_append, List.length_map, h2], e2, e3, e4, hr⟩, lxo_⟩
    simp only [x_Info]
    rw [w64 (n := i + 1) (by omega), ha, hpg, w64 (n := (aInfo ⟨t, p, sh⟩ xs i).l * pgB sh) (by omega)]
    refine ⟨hp0, fun _ => ⟨hg, fun _ => ?_⟩⟩
    have hsl := slabL_len ⟨t, p, sh⟩ xs i (aInfo ⟨t, p, sh⟩ xs i).c
    have hl2 : (x_slab t p sh xs i (aInfo ⟨t, p, sh⟩ xs i).c).1.length = (slabL ⟨t, p, sh⟩ xs i (aInfo ⟨t, p, sh⟩ xs i).c).length := by simp [x_slab]
    have f1 : ∀ h : ((aInfo ⟨t, p, sh⟩ xs i).k == 1 || (aInfo ⟨t, p, sh⟩ xs i).k == 2) = true, _ := fun h => fin _ (partsOf_one _ _ h) _ _ _ _ rfl rfl rfl rfl
    have f3 : ∀ h : ((aInfo ⟨t, p, sh⟩ xs i).k == 3) = true, _ := fun h => fin _ (partsOf_slab _ _ h) _ _ _ _ rfl rfl rfl rfl
    rw [← hl2] at f3
    have f0 := fun h1 h2 h3 => fin _ (partsOf_none ⟨t, p, sh⟩ xs (g := i) h1 h2 h3) n1 ks zs ss (by simp) (by simp) (by simp) (by simp)
    cases k1 : (aInfo ⟨t, p, sh⟩ xs i).k == 1 <;> cases k2 : (aInfo ⟨t, p, sh⟩ xs i).k == 2 <;> cases k3 : (aInfo ⟨t, p, sh⟩ xs i).k == 3 <;> simp only [true_implies, false_implies, Bool.true_eq_false, Bool.false_eq_true, reduceCtorEq, and_true, true_and, and_self] <;> first
      | exact f0 k1 k2 k3
      | exact ⟨by omega, fun _ => f1 (by rw [k1, k2]; rfl)⟩
      | (refine fun r hr => ?_; subst hr; exact ⟨hp0, fun _ => ⟨hg, fun _ => ⟨hb2, fun _ => ⟨by omega, fun _ => f3 k3⟩⟩⟩⟩)
      | fail
  · simp only [decide_eq_false_iff_not] at h
    have e : i.toNat = p.toNat := by omega
    show _ = _
    rw [hr, x_parts, partsL, h3, h4, h5, e]
theorem x_parts_ok : EntryOk Dg Try.prog 68 e_x_parts :=
  ent_wp Dg T_x_slab_ok (I := [411000000004, 411000000003, 411000000001]) Try.func68 mix (B := bodyOf Try.f68) (by kernel_rfl) rfl (by kernel_rfl) 400
    fun p0 t p sh xs hb hp => have hl0 : xs.length ≤ 9223372036854775807 := hb.1.2.2.2.1; have hp0 : AGood ⟨t, p, sh⟩ xs := hp _ (.head _); ⟨[⟨none, [0,1,0,1,1], [.blk 0, .code [1,1,1]], [4, 3, 1], [.i .i64, .own 87 [some .i64, some .i64, some .i64], .box 36 [.ic .i64 (t), .ic .i64 (p), .ic .i64 (sh), .roc [.ints .u32 (xs)]]]⟩], fun j => List.getD [appC (Hd.kd (⟨none, [0,1,0,1,1], [.blk 0, .code [1,1,1]], [4, 3, 1], [.i .i64, .own 87 [some .i64, some .i64, some .i64], .box 36 [.ic .i64 (t), .ic .i64 (p), .ic .i64 (sh), .roc [.ints .u32 (xs)]]]⟩ : Hd Sg)) (fun i' n1' ks' zs' ss' => x_parts_I0 t p sh xs i' n1' ks' zs' ss' (x_parts t p sh xs))] j (fun _ => False), fun j => List.getD [appC (Hd.kd (⟨none, [0,1,0,1,1], [.blk 0, .code [1,1,1]], [4, 3, 1], [.i .i64, .own 87 [some .i64, some .i64, some .i64], .box 36 [.ic .i64 (t), .ic .i64 (p), .ic .i64 (sh), .roc [.ints .u32 (xs)]]]⟩ : Hd Sg)) (fun i' n1' ks' zs' ss' => ((p - i').toNat, 0, 0))] j (fun _ => (0, 0, 0)), by kernel_rfl, ⟨x_parts_w t p sh xs (fun i' n1' ks' zs' ss' => x_parts_I0 t p sh xs i' n1' ks' zs' ss' (x_parts t p sh xs)) (fun r__ => r__ = (x_parts t p sh xs)), fun _ _ _ => by kernel_rfl, x_parts_begin t p sh xs hp0 hl0 ⟩, ⟨fun i n1 ks zs ss hI => ⟨x_parts_w0 t p sh xs i n1 ks zs ss (fun i' n1' ks' zs' ss' => x_parts_I0 t p sh xs i' n1' ks' zs' ss' (x_parts t p sh xs) ∧ lx ((p - i').toNat, 0, 0) ((p - i).toNat, 0, 0)) (fun r__ => r__ = (x_parts t p sh xs)), fun _ _ _ => by kernel_rfl, x_parts_step0 t p sh xs hp0 hl0 i n1 ks zs ss hI⟩, trivial⟩⟩
def T_x_parts : List (Nat × Entry Sg) := (68, e_x_parts) :: T_x_slab
theorem T_x_parts_ok : TableOk Dg Try.prog T_x_parts := TableOk.cons Dg x_parts_ok T_x_slab_ok
end Go.Proofs.Ytajcpopikdpcmaa
namespace Go.Proofs.Ytajcpopikdpcmaa
open Go.Sl
def x_blocks (t : Int) (p : Int) (sh : Int) (xs : List Int) : List Int × List Int := ((blocksL ⟨t, p, sh⟩ xs).map (·.a), (blocksL ⟨t, p, sh⟩ xs).map (·.s))
abbrev c_x_blocks : Ct Sg := ⟨none, false, [.agg [.i .i64, .i .i64, .i .i64, .ro [some .u32]]], .new 89 [some .i64, some .i64]⟩
def e_x_blocks : Entry Sg := entC c_x_blocks x_blocks (fun t p sh xs => [AGood ⟨t, p, sh⟩ xs])
def x_blocks_w (t : Int) (p : Int) (sh : Int) (xs : List Int) (Q0 : Int → Nat → List Int → List Int → List Int → Nat → List Int → List Int → Prop) (R_ : List Int × List Int → Prop) : Prop := (∀ r2 : List Int × List Int × List Int, r2 = (x_parts t p sh xs) → ((AGood { t := t, p := p, s := sh } xs) ∧ ((AGood { t := t, p := p, s := sh } xs) → (Q0 ((0 : Int)) (List.length (Prod.fst r2)) (Prod.fst r2) (Prod.fst (Prod.snd r2)) (Prod.snd (Prod.snd r2)) ((0 : Nat)) ([]) ([])))))
def x_blocks_w0 (t : Int) (p : Int) (sh : Int) (xs : List Int) (i : Int) (n1 : Nat) (ks : List Int) (zs : List Int) (ss : List Int) (n2 : Nat) (as_ : List Int) (bs : List Int) (Q0 : Int → Nat → List Int → List Int → List Int → Nat → List Int → List Int → Prop) (R_ : List Int × List Int → Prop) : Prop := (((decide (i < (↑n1 : Int))) = true → (((0 : Int) ≤ i ∧ i < (↑n1 : Int)) ∧ (((0 : Int) ≤ i ∧ i < (↑n1 : Int)) → (((List.getD ks (Int.toNat i) (0 : Int) == (2 : Int)) = true → (((0 : Int) ≤ i ∧ i < (↑n1 : Int)) ∧ (((0 : Int) ≤ i ∧ i < (↑n1 : Int)) → (((0 : Int) ≤ i ∧ i < (↑n1 : Int)) ∧ (((0 : Int) ≤ i ∧ i < (↑n1 : Int)) → (tw_ (((n2 + (1 : Nat)) * (16 : Nat) ≤ (140737488355328 : Nat)) ∧ (((n2 + (1 : Nat)) * (16 : Nat) ≤ (140737488355328 : Nat)) → (Q0 (IntKind.wrap IntKind.i64 (i + (1 : Int))) (n1) (ks) (zs) (ss) (n2 + (1 : Nat)) (as_ ++ [List.getD zs (Int.toNat i) (0 : Int)]) (bs ++ [List.getD ss (Int.toNat i) (0 : Int)])))))))))) ∧ ((List.getD ks (Int.toNat i) (0 : Int) == (2 : Int)) = false → (Q0 (IntKind.wrap IntKind.i64 (i + (1 : Int))) (n1) (ks) (zs) (ss) (n2) (as_) (bs))))))) ∧ ((decide (i < (↑n1 : Int))) = false → (R_ ((as_, bs)))))
def x_blocks_I0 (t : Int) (p : Int) (sh : Int) (xs : List Int) (i : Int) (n1 : Nat) (ks : List Int) (zs : List Int) (ss : List Int) (n2 : Nat) (as_ : List Int) (bs : List Int) (r_ : List Int × List Int) : Prop := 0 ≤ i ∧ i ≤ n1 ∧ n1 = (partsL ⟨t, p, sh⟩ xs).length ∧ n1 ≤ 33 * 1024 ∧ ks = (partsL ⟨t, p, sh⟩ xs).map (·.k) ∧ zs = (partsL ⟨t, p, sh⟩ xs).map (·.a) ∧ ss = (partsL ⟨t, p, sh⟩ xs).map (·.s) ∧ n2 = as_.length ∧ n2 ≤ i ∧ as_ = (((partsL ⟨t, p, sh⟩ xs).take i.toNat).filter fun x => x.k == 2).map (·.a) ∧ bs = (((partsL ⟨t, p, sh⟩ xs).take i.toNat).filter fun x => x.k == 2).map (·.s) ∧ r_ = x_blocks t p sh xs
theorem x_blocks_begin (t : Int) (p : Int) (sh : Int) (xs : List Int) (hp0 : AGood ⟨t, p, sh⟩ xs) (hl0 : xs.length ≤ 9223372036854775807) : x_blocks_w t p sh xs (fun i' n1' ks' zs' ss' n2' as_' bs' => x_blocks_I0 t p sh xs i' n1' ks' zs' ss' n2' as_' bs' (x_blocks t p sh xs)) (fun r__ => r__ = (x_blocks t p sh xs)) := by
  unfold x_blocks_w
  try unfold x_blocks_I0
  have hok := Cf.ok_iff.1 hp0.ok
  simp only at hok
  have hl : (partsL ⟨t, p, sh⟩ xs).length ≤ 33 * p.toNat := partsL_len _ _
  rintro r2 rfl
  exact ⟨hp0, fun _ => ⟨by omega, by omega, by simp [x_parts], by simp only [x_parts, List.length_map]; omega, rfl, rfl, rfl, rfl, by omega, by simp, by simp, rfl⟩⟩
theorem x_blocks_step0 (t : Int) (p : Int) (sh : Int) (xs : List Int) (hp0 : AGood ⟨t, p, sh⟩ xs) (hl0 : xs.length ≤ 9223372036854775807) (i : Int) (n1 : Nat) (ks : List Int) (zs : List Int) (ss : List Int) (n2 : Nat) (as_ : List Int) (bs : List Int) {r_ : List Int × List Int} (hI : x_blocks_I0 t p sh xs i n1 ks zs ss n2 as_ bs r_) : x_blocks_w0 t p sh xs i n1 ks zs ss n2 as_ bs (fun i' n1' ks' zs' ss' n2' as_' bs' => x_blocks_I0 t p sh xs i' n1' ks' zs' ss' n2' as_' bs' r_ ∧ lx ((n1' - i').toNat, 0, 0) ((n1 - i).toNat, 0, 0)) (fun r__ => r__ = r_) := by
  unfold x_blocks_I0 at hI
  unfold x_blocks_w0
  try unfold x_blocks_I0
  obtain ⟨h0, h1, h2, hb, h3, h4, h5, h6, h7, h8, h9, hr⟩ := hI
  refine ⟨fun h => ?_, fun h => ?_⟩
  · simp only [decide_eq_true_eq] at h
    have hi : 0 ≤ i ∧ i < (n1 : Int) := ⟨h0, h⟩
    have hs := blk_step (partsL ⟨t, p, sh⟩ xs) (i := i.toNat) (by omega)
    rw [← h3, ← h4, ← h5] at hs
    have es : (i + 1).toNat = i.toNat + 1 := by omega
    rw [w64 (n := i + 1) (by omega)]
    refine ⟨hi, fun _ => ⟨fun hc => ⟨hi, fun _ => ⟨hi, fun _ => ?_⟩⟩, fun hc => ?_⟩⟩
    · rw [hc] at hs
      refine And.intro ?_ ?_ <;> exact ⟨by omega, fun _ => ⟨⟨by omega, by omega, h2, hb, h3, h4, h5, by simp [h6], by omega, by rw [es, hs, List.map_append, ← h8]; rfl, by rw [es, hs, List.map_append, ← h9]; rfl, hr⟩, lxo_⟩⟩
    · rw [hc] at hs
      exact ⟨⟨by omega, by omega, h2, hb, h3, h4, h5, h6, by omega, by rw [es, hs, List.map_append, ← h8]; simp, by rw [es, hs, List.map_append, ← h9]; simp, hr⟩, lxo_⟩
  · simp only [decide_eq_false_iff_not] at h
    show _ = _
    rw [hr, x_blocks, blocksL, h8, h9, List.take_of_length_le (by omega)]
theorem x_blocks_ok : EntryOk Dg Try.prog 58 e_x_blocks :=
  ent_wp Dg T_x_parts_ok (I := [1643000000005, 1643000000004, 1643000000003]) Try.func58 mix (B := bodyOf Try.f58) (by kernel_rfl) rfl (by kernel_rfl) 400
    fun p0 t p sh xs hb hp => have hl0 : xs.length ≤ 9223372036854775807 := hb.1.2.2.2.1; have hp0 : AGood ⟨t, p, sh⟩ xs := hp _ (.head _); ⟨[⟨none, [0,1,0,1,1,1], [.blk 0, .code [1,1,1,1]], [5, 4, 3], [.i .i64, .own 87 [some .i64, some .i64, some .i64], .own 89 [some .i64, some .i64]]⟩], fun j => List.getD [appC (Hd.kd (⟨none, [0,1,0,1,1,1], [.blk 0, .code [1,1,1,1]], [5, 4, 3], [.i .i64, .own 87 [some .i64, some .i64, some .i64], .own 89 [some .i64, some .i64]]⟩ : Hd Sg)) (fun i' n1' ks' zs' ss' n2' as_' bs' => x_blocks_I0 t p sh xs i' n1' ks' zs' ss' n2' as_' bs' (x_blocks t p sh xs))] j (fun _ => False), fun j => List.getD [appC (Hd.kd (⟨none, [0,1,0,1,1,1], [.blk 0, .code [1,1,1,1]], [5, 4, 3], [.i .i64, .own 87 [some .i64, some .i64, some .i64], .own 89 [some .i64, some .i64]]⟩ : Hd Sg)) (fun i' n1' ks' zs' ss' n2' as_' bs' => ((n1' - i').toNat, 0, 0))] j (fun _ => (0, 0, 0)), by kernel_rfl, ⟨x_blocks_w t p sh xs (fun i' n1' ks' zs' ss' n2' as_' bs' => x_blocks_I0 t p sh xs i' n1' ks' zs' ss' n2' as_' bs' (x_blocks t p sh xs)) (fun r__ => r__ = (x_blocks t p sh xs)), fun _ _ _ => by kernel_rfl, x_blocks_begin t p sh xs hp0 hl0 ⟩, ⟨fun i n1 ks zs ss n2 as_ bs hI => ⟨x_blocks_w0 t p sh xs i n1 ks zs ss n2 as_ bs (fun i' n1' ks' zs' ss' n2' as_' bs' => x_blocks_I0 t p sh xs i' n1' ks' zs' ss' n2' as_' bs' (x_blocks t p sh xs) ∧ lx ((n1' - i').toNat, 0, 0) ((n1 - i).toNat, 0, 0)) (fun r__ => r__ = (x_blocks t p sh xs)), fun _ _ _ => by kernel_rfl, x_blocks_step0 t p sh xs hp0 hl0 i n1 ks zs ss n2 as_ bs hI⟩, trivial⟩⟩
def T_x_blocks : List (Nat × Entry Sg) := (58, e_x_blocks) :: T_x_parts
theorem T_x_blocks_ok : TableOk Dg Try.prog T_x_blocks := TableOk.cons Dg x_blocks_ok T_x_parts_ok
def x_roots (t : Int) (p : Int) (sh : Int) (xs : List Int) : Bool := rootsOk ⟨t, p, sh⟩ xs
abbrev c_x_roots : Ct Sg := ⟨none, false, [.agg [.i .i64, .i .i64, .i .i64, .ro [some .u32]]], .b⟩
def e_x_roots : Entry Sg := entC c_x_roots x_roots (fun t p sh xs => [AGood ⟨t, p, sh⟩ xs])
def x_roots_w (t : Int) (p : Int) (sh : Int) (xs : List Int) (Q0 : Int → Nat → List Int → List Int → Prop) (R_ : Bool → Prop) : Prop := (∀ r1 : List Int × List Int, r1 = (x_blocks t p sh xs) → ((AGood { t := t, p := p, s := sh } xs) ∧ ((AGood { t := t, p := p, s := sh } xs) → (Q0 ((0 : Int)) (List.length (Prod.fst r1)) (Prod.fst r1) (Prod.snd r1)))))
def x_roots_w0 (t : Int) (p : Int) (sh : Int) (xs : List Int) (i : Int) (n2 : Nat) (as_ : List Int) (bs : List Int) (Q0 : Int → Nat → List Int → List Int → Prop) (R_ : Bool → Prop) : Prop := (((decide (i < (8 : Int))) = true → (((0 : Int) ≤ r07_Root i ∧ r07_Root i < (↑(List.length xs) : Int)) ∧ (((0 : Int) ≤ r07_Root i ∧ r07_Root i < (↑(List.length xs) : Int)) → (((IntKind.wrap IntKind.i64 (List.getD xs (Int.toNat (r07_Root i)) (0 : Int)) != (0 : Int) && !r12_Has as_ bs (IntKind.wrap IntKind.i64 (List.getD xs (Int.toNat (r07_Root i)) (0 : Int)))) = true → (R_ (false))) ∧ ((IntKind.wrap IntKind.i64 (List.getD xs (Int.toNat (r07_Root i)) (0 : Int)) != (0 : Int) && !r12_Has as_ bs (IntKind.wrap IntKind.i64 (List.getD xs (Int.toNat (r07_Root i)) (0 : Int)))) = false → (Q0 (IntKind.wrap IntKind.i64 (i + (1 : Int))) (n2) (as_) (bs))))))) ∧ ((decide (i < (8 : Int))) = false → (R_ (true))))
def x_roots_I0 (t : Int) (p : Int) (sh : Int) (xs : List Int) (i : Int) (n2 : Nat) (as_ : List Int) (bs : List Int) (r_ : Bool) : Prop := 0 ≤ i ∧ i ≤ 8 ∧ n2 = as_.length ∧ as_.length = bs.length ∧ as_.length ≤ 33 * 1024 ∧ rootsF xs as_ (8 - i).toNat = r_
theorem x_roots_begin (t : Int) (p : Int) (sh : Int) (xs : List Int) (hp0 : AGood ⟨t, p, sh⟩ xs) (hl0 : xs.length ≤ 9223372036854775807) : x_roots_w t p sh xs (fun i' n2' as_' bs' => x_roots_I0 t p sh xs i' n2' as_' bs' (x_roots t p sh xs)) (fun r__ => r__ = (x_roots t p sh xs)) := by
  unfold x_roots_w
  try unfold x_roots_I0
  have hok := Cf.ok_iff.1 hp0.ok
  simp only at hok
  have hl : (blocksL ⟨t, p, sh⟩ xs).length ≤ 33 * p.toNat := blocksL_len _ _
  rintro r2 rfl
  exact ⟨hp0, fun _ => ⟨by omega, by omega, rfl, by simp [x_blocks], by simp only [x_blocks, List.length_map]; omega, rfl⟩⟩
theorem x_roots_step0 (t : Int) (p : Int) (sh : Int) (xs : List Int) (hp0 : AGood ⟨t, p, sh⟩ xs) (hl0 : xs.length ≤ 9223372036854775807) (i : Int) (n2 : Nat) (as_ : List Int) (bs : List Int) {r_ : Bool} (hI : x_roots_I0 t p sh xs i n2 as_ bs r_) : x_roots_w0 t p sh xs i n2 as_ bs (fun i' n2' as_' bs' => x_roots_I0 t p sh xs i' n2' as_' bs' r_ ∧ lx ((8 - i').toNat, 0, 0) ((8 - i).toNat, 0, 0)) (fun r__ => r__ = r_) := by
  unfold x_roots_I0 at hI
  unfold x_roots_w0
  try unfold x_roots_I0
  obtain ⟨h0, h1, h2, h3, hb, hr⟩ := hI
  refine ⟨fun h => ?_, fun h => ?_⟩
  · simp only [decide_eq_true_eq] at h
    have hin : 0 ≤ cRoot i ∧ cRoot i < (xs.length : Int) := by
      have h1 := Cf.ok_iff.1 hp0.ok
      have h2 := hp0.len
      unfold Cf.cells at h2
      rw [hp0.ok, cond_true] at h2
      have e : (decide (0 ≤ i) && decide (i < 8)) = true := by simp [h0, h]
      unfold cRoot
      rw [e, cond_true]
      omega
    have hbd := cel_bd hp0 (cRoot i)
    have hbd' : 0 ≤ xs.getD (cRoot i).toNat 0 ∧ xs.getD (cRoot i).toNat 0 < 4294967296 := hbd
    have e : (8 - i).toNat = (8 - (i + 1)).toNat + 1 := by omega
    have ei : (8 : Int) - (((8 - (i + 1)).toNat + 1 : Nat) : Int) = i := by omega
    rw [e] at hr
    simp only [rootsF] at hr
    rw [ei] at hr
    rw [r07_Root_eq, w64 (n := i + 1) (by omega), w64 (n := xs.getD (cRoot i).toNat 0) (by omega)]
    refine ⟨hin, fun _ => ⟨fun hc => ?_, fun hc => ?_⟩⟩
    · have hc' : (cel xs (cRoot i) != 0 && !as_.contains (cel xs (cRoot i))) = true := hc
      rw [hc', cond_true] at hr; exact hr
    · have hc' : (cel xs (cRoot i) != 0 && !as_.contains (cel xs (cRoot i))) = false := hc
      rw [hc', cond_false] at hr
      exact ⟨⟨by omega, by omega, h2, h3, hb, hr⟩, lxo_⟩
  · simp only [decide_eq_false_iff_not] at h
    rw [show (8 - i).toNat = 0 by omega] at hr
    exact hr
theorem x_roots_ok : EntryOk Dg Try.prog 34 e_x_roots :=
  ent_wp Dg T_x_blocks_ok (I := [411000000004, 411000000003, 411000000001]) Try.func34 mix (B := bodyOf Try.f34) (by kernel_rfl) rfl (by kernel_rfl) 400
    fun p0 t p sh xs hb hp => have hl0 : xs.length ≤ 9223372036854775807 := hb.1.2.2.2.1; have hp0 : AGood ⟨t, p, sh⟩ xs := hp _ (.head _); ⟨[⟨none, [0,1,0,1,1], [.blk 0, .code [1,1,1]], [4, 3, 1], [.i .i64, .own 89 [some .i64, some .i64], .box 36 [.ic .i64 (t), .ic .i64 (p), .ic .i64 (sh), .roc [.ints .u32 (xs)]]]⟩], fun j => List.getD [appC (Hd.kd (⟨none, [0,1,0,1,1], [.blk 0, .code [1,1,1]], [4, 3, 1], [.i .i64, .own 89 [some .i64, some .i64], .box 36 [.ic .i64 (t), .ic .i64 (p), .ic .i64 (sh), .roc [.ints .u32 (xs)]]]⟩ : Hd Sg)) (fun i' n2' as_' bs' => x_roots_I0 t p sh xs i' n2' as_' bs' (x_roots t p sh xs))] j (fun _ => False), fun j => List.getD [appC (Hd.kd (⟨none, [0,1,0,1,1], [.blk 0, .code [1,1,1]], [4, 3, 1], [.i .i64, .own 89 [some .i64, some .i64], .box 36 [.ic .i64 (t), .ic .i64 (p), .ic .i64 (sh), .roc [.ints .u32 (xs)]]]⟩ : Hd Sg)) (fun i' n2' as_' bs' => ((8 - i').toNat, 0, 0))] j (fun _ => (0, 0, 0)), by kernel_rfl, ⟨x_roots_w t p sh xs (fun i' n2' as_' bs' => x_roots_I0 t p sh xs i' n2' as_' bs' (x_roots t p sh xs)) (fun r__ => r__ = (x_roots t p sh xs)), fun _ _ _ => by kernel_rfl, x_roots_begin t p sh xs hp0 hl0 ⟩, ⟨fun i n2 as_ bs hI => ⟨x_roots_w0 t p sh xs i n2 as_ bs (fun i' n2' as_' bs' => x_roots_I0 t p sh xs i' n2' as_' bs' (x_roots t p sh xs) ∧ lx ((8 - i').toNat, 0, 0) ((8 - i).toNat, 0, 0)) (fun r__ => r__ = (x_roots t p sh xs)), fun _ _ _ => by kernel_rfl, x_roots_step0 t p sh xs hp0 hl0 i n2 as_ bs hI⟩, trivial⟩⟩
def T_x_roots : List (Nat × Entry Sg) := (34, e_x_roots) :: T_x_blocks
theorem T_x_roots_ok : TableOk Dg Try.prog T_x_roots := TableOk.cons Dg x_roots_ok T_x_blocks_ok
def r12_Check (t : Int) (p : Int) (sh : Int) (xs : List Int) : Int × Bool := checkA ⟨t, p, sh⟩ xs
abbrev c_r12_Check : Ct Sg := ⟨none, false, [.agg [.i .i64, .i .i64, .i .i64], .ro [some .u32]], .tup [.i .i64, .b]⟩
def e_r12_Check : Entry Sg := entC c_r12_Check r12_Check (fun t p sh xs => [bdAll xs])
def r12_Check_w (t : Int) (p : Int) (sh : Int) (xs : List Int) (R_ : Int × Bool → Prop) : Prop := (∀ r1 : Bool, r1 = (r04_Right t p sh) → (((!r1 || (↑(List.length xs) : Int) != r07_Cells t p sh) = true → (R_ (((1 : Int), false)))) ∧ ((!r1 || (↑(List.length xs) : Int) != r07_Cells t p sh) = false → (∀ r4 : Bool, r4 = (x_tiles t p sh xs) → ((AGood { t := t, p := p, s := sh } xs) ∧ ((AGood { t := t, p := p, s := sh } xs) → (((!r4) = true → (R_ (((2 : Int), false)))) ∧ ((!r4) = false → (∀ r7 : Bool, r7 = (x_feet t p sh xs) → ((AGood { t := t, p := p, s := sh } xs) ∧ ((AGood { t := t, p := p, s := sh } xs) → ((Prod.snd (starts { t := t, p := p, s := sh } xs) = true) ∧ ((Prod.snd (starts { t := t, p := p, s := sh } xs) = true) → (((!r7) = true → (R_ (((3 : Int), false)))) ∧ ((!r7) = false → (∀ r11 : Bool, r11 = (x_apart t p sh xs) → ((AGood { t := t, p := p, s := sh } xs) ∧ ((AGood { t := t, p := p, s := sh } xs) → (((!r11) = true → (R_ (((4 : Int), false)))) ∧ ((!r11) = false → (∀ r14 : Bool, r14 = (x_slots t p sh xs) → ((AGood { t := t, p := p, s := sh } xs) ∧ ((AGood { t := t, p := p, s := sh } xs) → (((!r14) = true → (R_ (((5 : Int), false)))) ∧ ((!r14) = false → (∀ r17 : Bool, r17 = (x_bins t p sh xs) → ((AGood { t := t, p := p, s := sh } xs) ∧ ((AGood { t := t, p := p, s := sh } xs) → (((!r17) = true → (R_ (((6 : Int), false)))) ∧ ((!r17) = false → (∀ r20 : Bool, r20 = (x_racks t p sh xs) → ((AGood { t := t, p := p, s := sh } xs) ∧ ((AGood { t := t, p := p, s := sh } xs) → (((!r20) = true → (R_ (((7 : Int), false)))) ∧ ((!r20) = false → (∀ r23 : Bool, r23 = (x_loose t p sh xs) → ((AGood { t := t, p := p, s := sh } xs) ∧ ((AGood { t := t, p := p, s := sh } xs) → (((!r23) = true → (R_ (((8 : Int), false)))) ∧ ((!r23) = false → (∀ r26 : Bool, r26 = (x_counts t p sh xs) → ((AGood { t := t, p := p, s := sh } xs) ∧ ((AGood { t := t, p := p, s := sh } xs) → (((!r26) = true → (R_ (((9 : Int), false)))) ∧ ((!r26) = false → (∀ r29 : Bool, r29 = (x_roots t p sh xs) → ((AGood { t := t, p := p, s := sh } xs) ∧ ((AGood { t := t, p := p, s := sh } xs) → (((!r29) = true → (R_ (((10 : Int), false)))) ∧ ((!r29) = false → (R_ (((0 : Int), true)))))))))))))))))))))))))))))))))))))))))))))))))))))
theorem r12_Check_begin (t : Int) (p : Int) (sh : Int) (xs : List Int) (hp0 : bdAll xs) (hl0 : xs.length ≤ 9223372036854775807) : r12_Check_w t p sh xs  (fun r__ => r__ = (r12_Check t p sh xs)) := by
  unfold r12_Check_w
  have hr : r04_Right t p sh = Cf.ok ⟨t, p, sh⟩ := by
    apply Bool.eq_iff_iff.2
    rw [Cf.ok_iff]
    simp only [r04_Right, Bool.and_eq_true, decide_eq_true_eq]; omega
  have hcl : r07_Cells t p sh = Cf.cells ⟨t, p, sh⟩ := by
    unfold r07_Cells Cf.cells
    rw [hr]
    cases h : Cf.ok ⟨t, p, sh⟩ with
    | false => rfl
    | true =>
      have := Cf.ok_iff.1 h
      simp only at this
      show IntKind.i64.wrap _ = 30 + 4 * t + 6 * p
      rw [w64 (n := 4 * t) (by omega), w64 (n := 30 + 4 * t) (by omega), w64 (n := 6 * p) (by omega), w64 (by omega)]
  rintro r1 rfl
  rw [hr, hcl]
  refine ⟨fun hc => ?_, fun hc => ?_⟩
  · show _ = checkA ⟨t, p, sh⟩ xs
    unfold checkA
    rw [hc]; rfl
  have hg : AGood ⟨t, p, sh⟩ xs := by
    simp only [Bool.or_eq_false_iff, Bool.not_eq_false', bne_eq_false_iff_eq] at hc
    exact { ok := hc.1, len := hc.2, bd := hp0 }
  have key : ∀ {r : Int × Bool}, r = checkA ⟨t, p, sh⟩ xs → (fun r__ => r__ = r12_Check t p sh xs) r := fun h => h
  unfold checkA at key
  rw [hc, cond_false] at key
  rintro r rfl
  refine ⟨hg, fun _ => ⟨fun hd => key (by rw [show (!tiles ⟨t, p, sh⟩ xs) = true from hd]; rfl), fun hd => ?_⟩⟩
  have h_tiles : (!tiles ⟨t, p, sh⟩ xs) = false := hd
  rw [h_tiles, cond_false] at key
  rintro r rfl
  have hst : (starts ⟨t, p, sh⟩ xs).2 = true := by
    have h1 : tiles ⟨t, p, sh⟩ xs = true := by simpa using h_tiles
    unfold tiles at h1
    cases hq : (starts ⟨t, p, sh⟩ xs).2 with
    | true => rfl
    | false => rw [hq] at h1; cases h1
  refine ⟨hg, fun _ => ⟨hst, fun _ => ⟨fun hd => key (by rw [show (!feet ⟨t, p, sh⟩ xs) = true from hd]; rfl), fun hd => ?_⟩⟩⟩
  have h_feet : (!feet ⟨t, p, sh⟩ xs) = false := hd
  rw [h_feet, cond_false] at key
  rintro r rfl
  refine ⟨hg, fun _ => ⟨fun hd => key (by rw [show (!apart ⟨t, p, sh⟩ xs) = true from hd]; rfl), fun hd => ?_⟩⟩
  have h_apart : (!apart ⟨t, p, sh⟩ xs) = false := hd
  rw [h_apart, cond_false] at key
  rintro r rfl
  refine ⟨hg, fun _ => ⟨fun hd => key (by rw [show (!slotsOk ⟨t, p, sh⟩ xs) = true from hd]; rfl), fun hd => ?_⟩⟩
  have h_slotsOk : (!slotsOk ⟨t, p, sh⟩ xs) = false := hd
  rw [h_slotsOk, cond_false] at key
  rintro r rfl
  refine ⟨hg, fun _ => ⟨fun hd => key (by rw [show (!bins ⟨t, p, sh⟩ xs) = true from hd]; rfl), fun hd => ?_⟩⟩
  have h_bins : (!bins ⟨t, p, sh⟩ xs) = false := hd
  rw [h_bins, cond_false] at key
  rintro r rfl
  refine ⟨hg, fun _ => ⟨fun hd => key (by rw [show (!racks ⟨t, p, sh⟩ xs) = true from hd]; rfl), fun hd => ?_⟩⟩
  have h_racks : (!racks ⟨t, p, sh⟩ xs) = false := hd
  rw [h_racks, cond_false] at key
  rintro r rfl
  refine ⟨hg, fun _ => ⟨fun hd => key (by rw [show (!loose ⟨t, p, sh⟩ xs) = true from hd]; rfl), fun hd => ?_⟩⟩
  have h_loose : (!loose ⟨t, p, sh⟩ xs) = false := hd
  rw [h_loose, cond_false] at key
  rintro r rfl
  refine ⟨hg, fun _ => ⟨fun hd => key (by rw [show (!counts ⟨t, p, sh⟩ xs) = true from hd]; rfl), fun hd => ?_⟩⟩
  have h_counts : (!counts ⟨t, p, sh⟩ xs) = false := hd
  rw [h_counts, cond_false] at key
  rintro r rfl
  refine ⟨hg, fun _ => ⟨fun hd => key (by rw [show (!rootsOk ⟨t, p, sh⟩ xs) = true from hd]; rfl), fun hd => ?_⟩⟩
  have h_rootsOk : (!rootsOk ⟨t, p, sh⟩ xs) = false := hd
  rw [h_rootsOk, cond_false] at key
  exact key rfl
theorem r12_Check_ok : EntryOk Dg Try.prog 12 e_r12_Check :=
  ent_wp Dg T_x_roots_ok (I := [2999998]) Try.func12 mix (B := bodyOf Try.f12) (by kernel_rfl) rfl (by kernel_rfl) 400
    fun p0 t p sh xs hb hp => have hl0 : xs.length ≤ 9223372036854775807 := hb.2.1; have hp0 : bdAll xs := hp _ (.head _); ⟨[], fun j => List.getD [] j (fun _ => False), fun j => List.getD [] j (fun _ => (0, 0, 0)), by kernel_rfl, ⟨r12_Check_w t p sh xs  (fun r__ => r__ = (r12_Check t p sh xs)), fun _ _ _ => by kernel_rfl, r12_Check_begin t p sh xs hp0 hl0 ⟩, trivial⟩
def T_r12_Check : List (Nat × Entry Sg) := (12, e_r12_Check) :: T_x_roots
theorem T_r12_Check_ok : TableOk Dg Try.prog T_r12_Check := TableOk.cons Dg r12_Check_ok T_x_roots_ok
def r12_Sound (t : Int) (p : Int) (sh : Int) (xs : List Int) : Bool := soundA ⟨t, p, sh⟩ xs
abbrev c_r12_Sound : Ct Sg := ⟨none, false, [.agg [.i .i64, .i .i64, .i .i64], .ro [some .u32]], .b⟩
def e_r12_Sound : Entry Sg := entC c_r12_Sound r12_Sound (fun t p sh xs => [bdAll xs])
def r12_Sound_w (t : Int) (p : Int) (sh : Int) (xs : List Int) (R_ : Bool → Prop) : Prop := (∀ r1 : Int × Bool, r1 = (r12_Check t p sh xs) → ((bdAll xs) ∧ ((bdAll xs) → (R_ (Prod.snd r1)))))
theorem r12_Sound_begin (t : Int) (p : Int) (sh : Int) (xs : List Int) (hp0 : bdAll xs) (hl0 : xs.length ≤ 9223372036854775807) : r12_Sound_w t p sh xs  (fun r__ => r__ = (r12_Sound t p sh xs)) := by
  unfold r12_Sound_w
  rintro r rfl
  exact ⟨hp0, fun _ => rfl⟩
theorem r12_Sound_ok : EntryOk Dg Try.prog 5 e_r12_Sound :=
  ent_wp Dg T_r12_Check_ok (I := [2999998]) Try.func5 mix (B := bodyOf Try.f5) (by kernel_rfl) rfl (by kernel_rfl) 400
    fun p0 t p sh xs hb hp => have hl0 : xs.length ≤ 9223372036854775807 := hb.2.1; have hp0 : bdAll xs := hp _ (.head _); ⟨[], fun j => List.getD [] j (fun _ => False), fun j => List.getD [] j (fun _ => (0, 0, 0)), by kernel_rfl, ⟨r12_Sound_w t p sh xs  (fun r__ => r__ = (r12_Sound t p sh xs)), fun _ _ _ => by kernel_rfl, r12_Sound_begin t p sh xs hp0 hl0 ⟩, trivial⟩
def T_r12_Sound : List (Nat × Entry Sg) := (5, e_r12_Sound) :: T_r12_Check
theorem T_r12_Sound_ok : TableOk Dg Try.prog T_r12_Sound := TableOk.cons Dg r12_Sound_ok T_r12_Check_ok
def r12_Few (t : Int) (p : Int) (sh : Int) : Bool := decide (p ≤ 64)
def r12_Few_v (t : Int) (p : Int) (sh : Int) : Bool := decide (p ≤ (64 : Int))
abbrev c_r12_Few : Ct Sg := ⟨none, false, [.agg [.i .i64, .i .i64, .i .i64]], .b⟩
def e_r12_Few : Entry Sg := entC c_r12_Few r12_Few (fun _ _ _ => [])
theorem r12_Few_eq (t : Int) (p : Int) (sh : Int) : r12_Few_v t p sh = (r12_Few t p sh) := by
  rfl
theorem r12_Few_ok : EntryOk Dg Try.prog 4 e_r12_Few :=
  ent_ok Dg T_r12_Sound_ok (I := []) Try.func4 mix (B := bodyOf Try.f4) (by kernel_rfl) rfl (by kernel_rfl) 400
    fun _ t p sh hb hp => ⟨(r12_Few_v t p sh), .t, fun _ _ _ => by kernel_rfl, trivial, r12_Few_eq t p sh ⟩
def T_r12_Few : List (Nat × Entry Sg) := (4, e_r12_Few) :: T_r12_Sound
theorem T_r12_Few_ok : TableOk Dg Try.prog T_r12_Few := TableOk.cons Dg r12_Few_ok T_r12_Sound_ok
def l14_Eight : Int × Int × Int × List Int := ((1 : Int), (8 : Int), (10 : Int), [(8 : Int), (0 : Int), (0 : Int), (0 : Int), (0 : Int), (1 : Int), (0 : Int), (0 : Int), (0 : Int), (0 : Int), (0 : Int), (0 : Int), (0 : Int), (0 : Int), (0 : Int), (0 : Int), (0 : Int), (0 : Int), (0 : Int), (0 : Int), (0 : Int), (0 : Int), (0 : Int), (0 : Int), (0 : Int), (0 : Int), (0 : Int), (0 : Int), (0 : Int), (0 : Int), (0 : Int), (0 : Int), (0 : Int), (0 : Int), (129 : Int), (0 : Int), (0 : Int), (0 : Int), (0 : Int), (0 : Int), (0 : Int), (0 : Int), (0 : Int), (0 : Int), (0 : Int), (0 : Int), (0 : Int), (0 : Int), (0 : Int), (0 : Int), (0 : Int), (0 : Int), (0 : Int), (0 : Int), (0 : Int), (0 : Int), (0 : Int), (0 : Int), (0 : Int), (0 : Int), (0 : Int), (0 : Int), (0 : Int), (0 : Int), (0 : Int), (0 : Int), (0 : Int), (0 : Int), (0 : Int), (0 : Int), (0 : Int), (0 : Int), (0 : Int), (0 : Int), (0 : Int), (0 : Int), (0 : Int), (1 : Int), (0 : Int), (0 : Int), (0 : Int), (0 : Int)])
abbrev c_l14_Eight : Ct Sg := ⟨none, false, [], .tup [.agg [.i .i64, .i .i64, .i .i64], .new 47 [some .u32]]⟩
def e_l14_Eight : Entry Sg := entC c_l14_Eight l14_Eight ([])
theorem l14_Eight_ok : EntryOk Dg Try.prog 13 e_l14_Eight :=
  ent_ok Dg T_r12_Few_ok (I := []) Try.func13 mix (B := bodyOf Try.f13) (by kernel_rfl) rfl (by kernel_rfl) 400
    fun _  hb hp => ⟨l14_Eight, (.need ((0 : Int) ≤ (82 : Int) ∧ (82 : Int) ≤ (82 : Int) ∧ (328 : Int) ≤ (140737488355328 : Int)) (.need ((0 : Int) ≤ (0 : Int) ∧ (0 : Int) < (82 : Int)) (.need ((0 : Int) ≤ (5 : Int) ∧ (5 : Int) < (82 : Int)) (.need ((0 : Int) ≤ (34 : Int) ∧ (34 : Int) < (82 : Int)) (.need ((0 : Int) ≤ (77 : Int) ∧ (77 : Int) < (82 : Int)) .t))))), fun _ _ _ => by kernel_rfl, ⟨(by first | omega | decide), fun z1 => ⟨(by first | omega | decide), fun z3 => ⟨(by first | omega | decide), fun z4 => ⟨(by first | omega | decide), fun z5 => ⟨(by first | omega | decide), fun z6 => trivial⟩⟩⟩⟩⟩, rfl⟩
def T_l14_Eight : List (Nat × Entry Sg) := (13, e_l14_Eight) :: T_r12_Few
theorem T_l14_Eight_ok : TableOk Dg Try.prog T_l14_Eight := TableOk.cons Dg l14_Eight_ok T_r12_Few_ok
end Go.Proofs.Ytajcpopikdpcmaa
namespace Go.Sl
theorem VS.there_of {s : VS} {i : Int} (h : s.there i = true) : 0 ≤ i ∧ i < s.n ∧ s.miss < 0 := by
  simp only [VS.there, Bool.and_eq_true, decide_eq_true_eq] at h
  exact ⟨h.1.1, h.1.2, h.2⟩
theorem VS.there_stuck {s : VS} {i : Int} (h : 0 ≤ s.miss) : s.there i = false := by
  simp only [VS.there, Bool.and_eq_false_iff, decide_eq_false_iff_not]
  exact .inr (by omega)
theorem Pg.run_stuck {α : Type} (p : Pg α) : ∀ s : VS, 0 ≤ s.miss → (p.run s).1 = s := by
  induction p with
  | ret a => intro s _; rfl
  | get i k ih =>
    intro s h
    have e : s.read i = s := by simp only [VS.read, VS.there_stuck h, cond_false]
    rw [Pg.run_get, e]; exact ih _ s h
  | put i x k ih =>
    intro s h
    have e : s.set i x = s := by simp only [VS.set, VS.there_stuck h, cond_false]
    rw [Pg.run_put, e]; exact ih s h
structure Full (s : VS) : Prop where
  miss : s.miss = -1
  src : ∀ i : Int, 0 ≤ i → i < s.n → (s.src i).isSome = true
  rn : s.reads.Nodup
  ri : ∀ i ∈ s.reads, 0 ≤ i ∧ i < s.n
theorem VS.read_cases (s : VS) (i : Int) : s.read i = s ∨ (s.there i = true ∧ s.put i = none ∧ s.src i = none ∧ s.read i = { s with miss := i }) ∨ (s.there i = true ∧ s.put i = none ∧ (s.src i).isSome = true ∧ s.reads.contains i = false ∧ s.read i = { s with reads := s.reads ++ [i] }) := by
  unfold VS.read
  cases ht : s.there i with
  | false => exact .inl rfl
  | true =>
    simp only [cond_true]
    cases hp : s.put i with
    | some v => exact .inl rfl
    | none =>
      cases hs : s.src i with
      | none => exact .inr (.inl ⟨by trivial, by trivial, by trivial, rfl⟩)
      | some v =>
        simp only
        cases hc : s.reads.contains i with
        | true => exact .inl rfl
        | false => exact .inr (.inr ⟨by trivial, by trivial, rfl, by trivial, rfl⟩)
theorem nodup_snoc' {xs : List Int} {i : Int} (h : xs.Nodup) (hi : xs.contains i = false) : (xs ++ [i]).Nodup := by
  rw [List.nodup_append]
  refine ⟨h, by simp, fun a ha b hb => ?_⟩
  simp only [List.mem_singleton] at hb
  subst hb
  intro e
  subst e
  have : xs.contains a = true := by simpa using ha
  rw [hi] at this; cases this
theorem Full.read {s : VS} (h : Full s) (i : Int) : Full (s.read i) := by
  rcases s.read_cases i with e | ⟨ht, _, hs, _⟩ | ⟨ht, _, _, hc, e⟩
  · rw [e]; exact h
  · obtain ⟨h0, h1, _⟩ := VS.there_of ht
    have := h.src i h0 h1
    rw [hs] at this; cases this
  · rw [e]
    obtain ⟨h0, h1, _⟩ := VS.there_of ht
    refine { miss := h.miss, src := h.src, rn := nodup_snoc' h.rn hc, ri := fun j hj => ?_ }
    have hj' : j ∈ s.reads ++ [i] := hj
    simp only [List.mem_append, List.mem_singleton] at hj'
    rcases hj' with hj' | rfl
    · exact h.ri j hj'
    · exact ⟨h0, h1⟩
theorem VS.set_same (s : VS) (i x : Int) : (s.set i x).n = s.n ∧ (s.set i x).src = s.src ∧ (s.set i x).reads = s.reads ∧ (s.set i x).miss = s.miss ∧ (s.set i x).all = s.all := by
  unfold VS.set
  cases s.there i <;> exact ⟨rfl, rfl, rfl, rfl, rfl⟩
theorem VS.read_same (s : VS) (i : Int) : (s.read i).n = s.n ∧ (s.read i).src = s.src ∧ (s.read i).put = s.put ∧ (s.read i).wrote = s.wrote ∧ (s.read i).all = s.all := by
  rcases s.read_cases i with e | ⟨_, _, _, e⟩ | ⟨_, _, _, _, e⟩ <;> rw [e] <;> exact ⟨rfl, rfl, rfl, rfl, rfl⟩
theorem Full.set {s : VS} (h : Full s) (i x : Int) : Full (s.set i x) := by
  obtain ⟨e1, e2, e3, e4, _⟩ := s.set_same i x
  exact { miss := by rw [e4]; exact h.miss, src := by rw [e1, e2]; exact h.src, rn := by rw [e3]; exact h.rn, ri := by rw [e1, e3]; exact h.ri }
theorem Full.run {α : Type} (p : Pg α) : ∀ {s : VS}, Full s → Full (p.run s).1 := by
  induction p with
  | ret a => intro s h; exact h
  | get i k ih => intro s h; exact ih _ (h.read i)
  | put i x k ih => intro s h; exact ih (h.set i x)
theorem Pg.run_reads {α : Type} (p : Pg α) : ∀ s : VS, ∃ r, (p.run s).1.reads = s.reads ++ r := by
  induction p with
  | ret a => intro s; exact ⟨[], by simp [Pg.run]⟩
  | get i k ih =>
    intro s
    obtain ⟨r, hr⟩ := ih (s.get i) (s.read i)
    rw [Pg.run_get, hr]
    rcases s.read_cases i with e | ⟨_, _, _, e⟩ | ⟨_, _, _, _, e⟩ <;> rw [e]
    · exact ⟨r, rfl⟩
    · exact ⟨r, rfl⟩
    · exact ⟨i :: r, by simp⟩
  | put i x k ih =>
    intro s
    obtain ⟨r, hr⟩ := ih (s.set i x)
    rw [Pg.run_put, hr, (s.set_same i x).2.2.1]
    exact ⟨r, rfl⟩
theorem VS.whole_full (xs : List Int) : Full (VS.whole xs) where
  miss := rfl
  src := fun i h0 h1 => by
    have e1 : decide (0 ≤ i) = true := by simpa using h0
    have e2 : decide (i < (xs.length : Int)) = true := by simpa [VS.whole] using h1
    simp only [VS.whole, e1, e2, Bool.and_self, cond_true, Option.isSome_some]
  rn := List.nodup_nil
  ri := fun i h => by cases h
structure Sim (kn : Int → Bool) (s k : VS) : Prop where
  full : Full s
  n : k.n = s.n
  put : k.put = s.put
  reads : k.reads = s.reads
  wrote : k.wrote = s.wrote
  miss : k.miss = -1
  src : ∀ i : Int, 0 ≤ i → i < s.n → k.src i = bif kn i then s.src i else none
  rk : ∀ i ∈ s.reads, kn i = true
theorem Sim.there {kn : Int → Bool} {s k : VS} (h : Sim kn s k) (i : Int) : k.there i = s.there i := by
  simp only [VS.there, h.n, h.miss, h.full.miss]
theorem Sim.set {kn : Int → Bool} {s k : VS} (h : Sim kn s k) (i x : Int) : Sim kn (s.set i x) (k.set i x) := by
  obtain ⟨e1, e2, e3, e4, _⟩ := s.set_same i x
  obtain ⟨f1, f2, f3, f4, _⟩ := k.set_same i x
  exact { full := h.full.set i x
          n := by rw [e1, f1]; exact h.n
          put := by unfold VS.set; rw [h.there i, h.put]; cases s.there i <;> simp [h.put]
          reads := by rw [e3, f3]; exact h.reads
          wrote := by unfold VS.set; rw [h.there i, h.put, h.wrote]; cases s.there i <;> simp [h.wrote]
          miss := by rw [f4]; exact h.miss
          src := by rw [e1, e2, f2]; exact h.src
          rk := by rw [e3]; exact h.rk }
def Ends {α : Type} (kn : Int → Bool) (s : VS × α) (k : VS × α) : Prop :=
  (Sim kn s.1 k.1 ∧ s.2 = k.2) ∨ ∃ pre i rest, s.1.reads = pre ++ i :: rest ∧ (∀ j ∈ pre, kn j = true) ∧ kn i = false ∧ k.1.miss = i ∧ k.1.reads = pre
theorem Sim.run {α : Type} (kn : Int → Bool) (p : Pg α) : ∀ {s k : VS}, Sim kn s k → Ends kn (p.run s) (p.run k) := by
  induction p with
  | ret a => intro s k h; exact .inl ⟨h, rfl⟩
  | put i x q ih => intro s k h; exact ih (h.set i x)
  | get i q ih =>
    intro s k h
    rw [Pg.run_get, Pg.run_get]
    have step : Sim kn (s.read i) (k.read i) → s.get i = k.get i → Ends kn ((q (s.get i)).run (s.read i)) ((q (k.get i)).run (k.read i)) := fun h1 h2 => by
      rw [h2]; exact ih _ h1
    cases ht : s.there i with
    | false =>
      have hk : k.there i = false := by rw [h.there]; exact ht
      refine step ?_ ?_
      · simp only [VS.read, ht, hk, cond_false]; exact h
      · simp only [VS.get, ht, hk, cond_false]
    | true =>
      have hk : k.there i = true := by rw [h.there]; exact ht
      obtain ⟨h0, h1, _⟩ := VS.there_of ht
      cases hp : s.put i with
      | some v =>
        have hpk : k.put i = some v := by rw [h.put]; exact hp
        refine step ?_ ?_
        · simp only [VS.read, ht, hk, cond_true, hp, hpk]; exact h
        · simp only [VS.get, ht, hk, cond_true, hp, hpk]
      | none =>
        have hpk : k.put i = none := by rw [h.put]; exact hp
        have hsome := h.full.src i h0 h1
        have hsk := h.src i h0 h1
        cases hs : s.src i with
        | none => rw [hs] at hsome; cases hsome
        | some v =>
          cases hkn : kn i with
          | true =>
            have hks : k.src i = some v := by rw [hsk, hkn, hs]; rfl
            refine step ?_ ?_
            · simp only [VS.read, ht, hk, cond_true, hp, hpk, hs, hks, h.reads]
              cases hc : s.reads.contains i with
              | true => exact h
              | false =>
                exact { full := by have := h.full.read i; simpa only [VS.read, ht, cond_true, hp, hs, hc, cond_false] using this
                        n := h.n, put := h.put, reads := rfl, wrote := h.wrote, miss := h.miss, src := h.src
                        rk := fun j hj => by
                          simp only [cond_false, List.mem_append, List.mem_singleton] at hj
                          rcases hj with hj | rfl
                          · exact h.rk j hj
                          · exact hkn }
            · simp only [VS.get, ht, hk, cond_true, hp, hpk, hs, hks]
          | false =>
            have hks : k.src i = none := by rw [hsk, hkn]; rfl
            have hni : s.reads.contains i = false := by
              cases hc : s.reads.contains i with
              | false => rfl
              | true =>
                have := h.rk i (by simpa using hc)
                rw [hkn] at this; cases this
            have er : k.read i = { k with miss := i } := by simp only [VS.read, hk, cond_true, hpk, hks]
            have es : s.read i = { s with reads := s.reads ++ [i] } := by simp only [VS.read, ht, cond_true, hp, hs, hni, cond_false]
            right
            obtain ⟨r, hr⟩ := Pg.run_reads (q (s.get i)) (s.read i)
            have hst := Pg.run_stuck (q (k.get i)) (k.read i) (by rw [er]; exact h0)
            refine ⟨s.reads, i, r, ?_, h.rk, hkn, ?_, ?_⟩
            · rw [hr, es]; simp
            · rw [hst, er]
            · rw [hst, er]; exact h.reads
theorem length_le_of_subset : ∀ {xs ys : List Int}, xs.Nodup → (∀ x ∈ xs, x ∈ ys) → xs.length ≤ ys.length
  | [], ys, _, _ => by simp
  | x :: xs, ys, hn, h => by
    rw [List.nodup_cons] at hn
    have hx : x ∈ ys := h x (by simp)
    have := length_le_of_subset (xs := xs) (ys := ys.erase x) hn.2 fun y hy => by
      have hne : y ≠ x := fun e => by subst e; exact hn.1 hy
      exact (List.mem_erase_of_ne hne).2 (h y (by simp [hy]))
    rw [List.length_erase_of_mem hx] at this
    have hp : 0 < ys.length := List.length_pos_of_mem hx
    simp only [List.length_cons]; omega
theorem known_run {α : Type} (p : Pg α) {s k : VS} {m : Nat} (hm : m ≤ (p.run s).1.reads.length) (h : Sim (fun i => ((p.run s).1.reads.take m).contains i) s k) :
    (m = (p.run s).1.reads.length → Sim (fun i => ((p.run s).1.reads.take m).contains i) (p.run s).1 (p.run k).1 ∧ (p.run s).2 = (p.run k).2) ∧
    (m < (p.run s).1.reads.length → (p.run k).1.miss = (p.run s).1.reads.getD m 0 ∧ (p.run k).1.reads = (p.run s).1.reads.take m) := by
  have hf := Full.run p h.full
  rcases Sim.run _ p h with ⟨h1, h2⟩ | ⟨pre, i, rest, e, h2, h3, h4, h5⟩
  · refine ⟨fun _ => ⟨h1, h2⟩, fun hlt => ?_⟩
    have hl := length_le_of_subset (ys := (p.run s).1.reads.take m) hf.rn fun x hx => by simpa using h1.rk x hx
    rw [List.length_take] at hl
    omega
  · have hin : i ∈ (p.run s).1.reads := by rw [e]; simp
    have hlen : pre.length = m := by
      have hn := hf.rn
      have hpn : pre.Nodup := by rw [e] at hn; exact (List.nodup_append.1 hn).1
      have a := length_le_of_subset (ys := (p.run s).1.reads.take m) hpn fun x hx => by simpa using h2 x hx
      rw [List.length_take] at a
      have b : ¬ pre.length < m := fun hlt => by
        have : i ∈ (p.run s).1.reads.take m := by
          rw [e, List.mem_take_iff_getElem]
          exact ⟨pre.length, by simp; omega, by simp⟩
        have h3' : ((p.run s).1.reads.take m).contains i = true := by simpa using this
        exact absurd (h3'.symm.trans h3) (by decide)
      omega
    refine ⟨fun he => ?_, fun _ => ⟨?_, ?_⟩⟩
    · exfalso
      have : ((p.run s).1.reads.take m).contains i = true := by rw [he, List.take_length]; simpa using hin
      exact absurd (this.symm.trans h3) (by decide)
    · rw [h4, e, ← hlen]; simp [List.getD_eq_getElem?_getD]
    · rw [h5, e, ← hlen]; simp
theorem known_src {vals xs ys : List Int} (hy : ys = xs.map fun i => vals.getD i.toNat 0) (i : Int) : fsUpto xs ys xs.length i = bif xs.contains i then some (vals.getD i.toNat 0) else none := by
  unfold fsUpto
  cases hf : (List.range xs.length).find? (fun j => xs.getD j 0 == i) with
  | none =>
    have : xs.contains i = false := by
      cases hc : xs.contains i with
      | false => rfl
      | true =>
        have hm : i ∈ xs := by simpa using hc
        obtain ⟨j, hj, e⟩ := List.getElem_of_mem hm
        have := List.find?_eq_none.1 hf j (by simpa using hj)
        rw [List.getD_eq_getElem?_getD, List.getElem?_eq_getElem hj] at this
        simp [e] at this
    rw [this]; rfl
  | some j =>
    have hj : j < xs.length := by simpa using List.mem_of_find?_eq_some hf
    have he : xs.getD j 0 = i := by simpa using List.find?_some hf
    rw [List.getD_eq_getElem?_getD, List.getElem?_eq_getElem hj] at he
    have he' : xs[j] = i := by simpa using he
    have : xs.contains i = true := by simpa using he' ▸ List.getElem_mem hj
    rw [this, hy]
    simp [List.getD_eq_getElem?_getD, List.getElem?_eq_getElem hj, he']
theorem sim_known {vals xs ys : List Int} (hy : ys = xs.map fun i => vals.getD i.toNat 0) : Sim (fun i => xs.contains i) (VS.whole vals) (VS.known vals.length xs ys) where
  full := VS.whole_full vals
  n := rfl
  put := rfl
  reads := rfl
  wrote := rfl
  miss := rfl
  src := fun i h0 h1 => by
    have e1 : decide (0 ≤ i) = true := by simpa using h0
    have e2 : decide (i < (vals.length : Int)) = true := by simpa [VS.whole] using h1
    simp only [VS.known, VS.whole, known_src hy, e1, e2, Bool.and_self, cond_true]
  rk := fun i h => by cases h
end Go.Sl
namespace Go.Sl
structure Mm where
  info : Int → Int
  foot : Int → Int
  next : Int → Int
  prev : Int → Int
  slots : Int → Int
  taken : Int → Int
  bin : Int → Int
  rack : Int → Int
  root : Int → Int
  dn : Int → Int → Int
  fr : Int
  lv : Int
def fset (f : Int → Int) (i x : Int) : Int → Int := fun j => if j = i then x else f j
theorem fset_same (f : Int → Int) (i x : Int) : fset f i x i = x := by simp [fset]
theorem fset_ne {f : Int → Int} {i x j : Int} (h : j ≠ i) : fset f i x j = f j := by simp [fset, h]
theorem pc_val {c : Cf} (hc : c.ok = true) {g : Int} (hg : 0 ≤ g ∧ g < c.p) (k : Int) : c.pc g k = 30 + 4 * c.t + 6 * g + k := by
  unfold Cf.pc Cf.page
  have : (decide (0 ≤ g) && decide (g < c.p)) = true := by simp [hg.1, hg.2]
  rw [hc, this]; rfl
theorem cells_val {c : Cf} (hc : c.ok = true) : c.cells = 30 + 4 * c.t + 6 * c.p := by unfold Cf.cells; rw [hc]; rfl
theorem cBin_val {k : Int} (hk : 0 ≤ k ∧ k < 11) : cBin k = 2 + k := by
  unfold cBin
  have : (decide (0 ≤ k) && decide (k < 11)) = true := by simp [hk.1, hk.2]
  rw [this]; rfl
theorem cRack_val {k : Int} (hk : 0 ≤ k ∧ k < 9) : cRack k = 13 + k := by
  unfold cRack
  have : (decide (0 ≤ k) && decide (k < 9)) = true := by simp [hk.1, hk.2]
  rw [this]; rfl
theorem cRoot_val {k : Int} (hk : 0 ≤ k ∧ k < 8) : cRoot k = 22 + k := by
  unfold cRoot
  have : (decide (0 ≤ k) && decide (k < 8)) = true := by simp [hk.1, hk.2]
  rw [this]; rfl
structure At (c : Cf) (s : VS) (m : Mm) : Prop where
  ok : c.ok = true
  full : Full s
  n : s.n = c.cells
  info : ∀ g, 0 ≤ g ∧ g < c.p → s.cur (30 + 4 * c.t + 6 * g + 0) = m.info g
  foot : ∀ g, 0 ≤ g ∧ g < c.p → s.cur (30 + 4 * c.t + 6 * g + 1) = m.foot g
  next : ∀ g, 0 ≤ g ∧ g < c.p → s.cur (30 + 4 * c.t + 6 * g + 2) = m.next g
  prev : ∀ g, 0 ≤ g ∧ g < c.p → s.cur (30 + 4 * c.t + 6 * g + 3) = m.prev g
  slots : ∀ g, 0 ≤ g ∧ g < c.p → s.cur (30 + 4 * c.t + 6 * g + 4) = m.slots g
  taken : ∀ g, 0 ≤ g ∧ g < c.p → s.cur (30 + 4 * c.t + 6 * g + 5) = m.taken g
  bin : ∀ k, 0 ≤ k ∧ k < 11 → s.cur (2 + k) = m.bin k
  rack : ∀ k, 0 ≤ k ∧ k < 9 → s.cur (13 + k) = m.rack k
  root : ∀ k, 0 ≤ k ∧ k < 8 → s.cur (22 + k) = m.root k
  dn : ∀ t f, 0 ≤ t ∧ t < c.t → 0 ≤ f ∧ f < 4 → s.cur (30 + 4 * t + f) = m.dn t f
  fr : s.cur 0 = m.fr
  lv : s.cur 1 = m.lv
theorem cur_read (s : VS) (i j : Int) : (s.read i).cur j = s.cur j := by
  obtain ⟨_, e1, e2, _, _⟩ := s.read_same i
  unfold VS.cur
  rw [e1, e2]
theorem cur_set {s : VS} {i : Int} (h : s.there i = true) (x j : Int) : (s.set i x).cur j = if j = i then nv x else s.cur j := by
  unfold VS.set
  rw [h, cond_true]
  unfold VS.cur
  by_cases e : j = i
  · subst e; simp [mupd]
  · have e' : (j == i) = false := by simpa using e
    simp [mupd, e, e']
theorem cur_set_out {s : VS} {i : Int} (h : s.there i = false) (x j : Int) : (s.set i x).cur j = s.cur j := by
  unfold VS.set
  rw [h, cond_false]
theorem get_cur {s : VS} {i : Int} (h : s.there i = true) : s.get i = s.cur i := by
  unfold VS.get VS.cur
  rw [h, cond_true]
theorem get_out {s : VS} {i : Int} (h : s.there i = false) : s.get i = 0 := by
  unfold VS.get
  rw [h, cond_false]
section
variable {c : Cf} {s : VS} {m : Mm}
theorem At.there (h : At c s m) {i : Int} (h0 : 0 ≤ i) (h1 : i < c.cells) : s.there i = true := by
  have := h.full.miss
  have := h.n
  simp only [VS.there, Bool.and_eq_true, decide_eq_true_eq]
  omega
theorem At.read (h : At c s m) (i : Int) : At c (s.read i) m := by
  have e := cur_read s i
  exact { ok := h.ok, full := h.full.read i, n := (s.read_same i).1.trans h.n, info := fun g hg => (e _).trans (h.info g hg), foot := fun g hg => (e _).trans (h.foot g hg), next := fun g hg => (e _).trans (h.next g hg), prev := fun g hg => (e _).trans (h.prev g hg), slots := fun g hg => (e _).trans (h.slots g hg), taken := fun g hg => (e _).trans (h.taken g hg), bin := fun k hk => (e _).trans (h.bin k hk), rack := fun k hk => (e _).trans (h.rack k hk), root := fun k hk => (e _).trans (h.root k hk), dn := fun t f ht hf => (e _).trans (h.dn t f ht hf), fr := (e _).trans h.fr, lv := (e _).trans h.lv }
theorem done_val {c : Cf} (hc : c.ok = true) {t f : Int} (ht : 0 ≤ t ∧ t < c.t) (hf : 0 ≤ f ∧ f < 4) : c.done t f = 30 + 4 * t + f := by
  unfold Cf.done
  have : ((decide (0 ≤ t) && decide (t < c.t)) && (decide (0 ≤ f) && decide (f < 4))) = true := by simp [ht.1, ht.2, hf.1, hf.2]
  rw [hc, Bool.true_and, this]; rfl
theorem At.set_info (h : At c s m) {g : Int} (hg : 0 ≤ g ∧ g < c.p) (x : Int) : At c (s.set (c.info g) x) { m with info := fset m.info g (nv x) } := by
  have ha : c.info g = 30 + 4 * c.t + 6 * g + 0 := pc_val h.ok hg 0
  have h1 := Cf.ok_iff.1 h.ok
  have h2 := cells_val h.ok
  have ht : s.there (c.info g) = true := h.there (by omega) (by omega)
  refine ⟨h.ok, h.full.set _ _, (s.set_same _ _).1.trans h.n, ?_, ?_, ?_, ?_, ?_, ?_, ?_, ?_, ?_, ?_, ?_, ?_⟩
  · intro g' hg'; rw [cur_set ht]; by_cases e : g' = g
    · subst e; rw [if_pos (by omega)]; exact (fset_same _ _ _).symm
    · rw [if_neg (by omega), h.info g' hg']; exact (fset_ne e).symm
  · intro g' hg'; rw [cur_set ht, if_neg (by omega)]; exact h.foot g' hg'
  · intro g' hg'; rw [cur_set ht, if_neg (by omega)]; exact h.next g' hg'
  · intro g' hg'; rw [cur_set ht, if_neg (by omega)]; exact h.prev g' hg'
  · intro g' hg'; rw [cur_set ht, if_neg (by omega)]; exact h.slots g' hg'
  · intro g' hg'; rw [cur_set ht, if_neg (by omega)]; exact h.taken g' hg'
  · intro g' hg'; rw [cur_set ht, if_neg (by omega)]; exact h.bin g' hg'
  · intro g' hg'; rw [cur_set ht, if_neg (by omega)]; exact h.rack g' hg'
  · intro g' hg'; rw [cur_set ht, if_neg (by omega)]; exact h.root g' hg'
  · intro t' f' ht' hf'; rw [cur_set ht, if_neg (by omega)]; exact h.dn t' f' ht' hf'
  · rw [cur_set ht, if_neg (by omega)]; exact h.fr
  · rw [cur_set ht, if_neg (by omega)]; exact h.lv
theorem At.get_info (h : At c s m) {g : Int} (hg : 0 ≤ g ∧ g < c.p) : s.get (c.info g) = m.info g := by
  have ha : c.info g = 30 + 4 * c.t + 6 * g + 0 := pc_val h.ok hg 0
  have h1 := Cf.ok_iff.1 h.ok
  have h2 := cells_val h.ok
  have ht : s.there (c.info g) = true := h.there (by omega) (by omega)
  rw [get_cur ht, ha]; exact h.info g hg
theorem At.set_foot (h : At c s m) {g : Int} (hg : 0 ≤ g ∧ g < c.p) (x : Int) : At c (s.set (c.foot g) x) { m with foot := fset m.foot g (nv x) } := by
  have ha : c.foot g = 30 + 4 * c.t + 6 * g + 1 := pc_val h.ok hg 1
  have h1 := Cf.ok_iff.1 h.ok
  have h2 := cells_val h.ok
  have ht : s.there (c.foot g) = true := h.there (by omega) (by omega)
  refine ⟨h.ok, h.full.set _ _, (s.set_same _ _).1.trans h.n, ?_, ?_, ?_, ?_, ?_, ?_, ?_, ?_, ?_, ?_, ?_, ?_⟩
  · intro g' hg'; rw [cur_set ht, if_neg (by omega)]; exact h.info g' hg'
  · intro g' hg'; rw [cur_set ht]; by_cases e : g' = g
    · subst e; rw [if_pos (by omega)]; exact (fset_same _ _ _).symm
    · rw [if_neg (by omega), h.foot g' hg']; exact (fset_ne e).symm
  · intro g' hg'; rw [cur_set ht, if_neg (by omega)]; exact h.next g' hg'
  · intro g' hg'; rw [cur_set ht, if_neg (by omega)]; exact h.prev g' hg'
  · intro g' hg'; rw [cur_set ht, if_neg (by omega)]; exact h.slots g' hg'
  · intro g' hg'; rw [cur_set ht, if_neg (by omega)]; exact h.taken g' hg'
  · intro g' hg'; rw [cur_set ht, if_neg (by omega)]; exact h.bin g' hg'
  · intro g' hg'; rw [cur_set ht, if_neg (by omega)]; exact h.rack g' hg'
  · intro g' hg'; rw [cur_set ht, if_neg (by omega)]; exact h.root g' hg'
  · intro t' f' ht' hf'; rw [cur_set ht, if_neg (by omega)]; exact h.dn t' f' ht' hf'
  · rw [cur_set ht, if_neg (by omega)]; exact h.fr
  · rw [cur_set ht, if_neg (by omega)]; exact h.lv
theorem At.get_foot (h : At c s m) {g : Int} (hg : 0 ≤ g ∧ g < c.p) : s.get (c.foot g) = m.foot g := by
  have ha : c.foot g = 30 + 4 * c.t + 6 * g + 1 := pc_val h.ok hg 1
  have h1 := Cf.ok_iff.1 h.ok
  have h2 := cells_val h.ok
  have ht : s.there (c.foot g) = true := h.there (by omega) (by omega)
  rw [get_cur ht, ha]; exact h.foot g hg
theorem At.set_next (h : At c s m) {g : Int} (hg : 0 ≤ g ∧ g < c.p) (x : Int) : At c (s.set (c.next g) x) { m with next := fset m.next g (nv x) } := by
  have ha : c.next g = 30 + 4 * c.t + 6 * g + 2 := pc_val h.ok hg 2
  have h1 := Cf.ok_iff.1 h.ok
  have h2 := cells_val h.ok
  have ht : s.there (c.next g) = true := h.there (by omega) (by omega)
  refine ⟨h.ok, h.full.set _ _, (s.set_same _ _).1.trans h.n, ?_, ?_, ?_, ?_, ?_, ?_, ?_, ?_, ?_, ?_, ?_, ?_⟩
  · intro g' hg'; rw [cur_set ht, if_neg (by omega)]; exact h.info g' hg'
  · intro g' hg'; rw [cur_set ht, if_neg (by omega)]; exact h.foot g' hg'
  · intro g' hg'; rw [cur_set ht]; by_cases e : g' = g
    · subst e; rw [if_pos (by omega)]; exact (fset_same _ _ _).symm
    · rw [if_neg (by omega), h.next g' hg']; exact (fset_ne e).symm
  · intro g' hg'; rw [cur_set ht, if_neg (by omega)]; exact h.prev g' hg'
  · intro g' hg'; rw [cur_set ht, if_neg (by omega)]; exact h.slots g' hg'
  · intro g' hg'; rw [cur_set ht, if_neg (by omega)]; exact h.taken g' hg'
  · intro g' hg'; rw [cur_set ht, if_neg (by omega)]; exact h.bin g' hg'
  · intro g' hg'; rw [cur_set ht, if_neg (by omega)]; exact h.rack g' hg'
  · intro g' hg'; rw [cur_set ht, if_neg (by omega)]; exact h.root g' hg'
  · intro t' f' ht' hf'; rw [cur_set ht, if_neg (by omega)]; exact h.dn t' f' ht' hf'
  · rw [cur_set ht, if_neg (by omega)]; exact h.fr
  · rw [cur_set ht, if_neg (by omega)]; exact h.lv
theorem At.get_next (h : At c s m) {g : Int} (hg : 0 ≤ g ∧ g < c.p) : s.get (c.next g) = m.next g := by
  have ha : c.next g = 30 + 4 * c.t + 6 * g + 2 := pc_val h.ok hg 2
  have h1 := Cf.ok_iff.1 h.ok
  have h2 := cells_val h.ok
  have ht : s.there (c.next g) = true := h.there (by omega) (by omega)
  rw [get_cur ht, ha]; exact h.next g hg
theorem At.set_prev (h : At c s m) {g : Int} (hg : 0 ≤ g ∧ g < c.p) (x : Int) : At c (s.set (c.prev g) x) { m with prev := fset m.prev g (nv x) } := by
  have ha : c.prev g = 30 + 4 * c.t + 6 * g + 3 := pc_val h.ok hg 3
  have h1 := Cf.ok_iff.1 h.ok
  have h2 := cells_val h.ok
  have ht : s.there (c.prev g) = true := h.there (by omega) (by omega)
  refine ⟨h.ok, h.full.set _ _, (s.set_same _ _).1.trans h.n, ?_, ?_, ?_, ?_, ?_, ?_, ?_, ?_, ?_, ?_, ?_, ?_⟩
  · intro g' hg'; rw [cur_set ht, if_neg (by omega)]; exact h.info g' hg'
  · intro g' hg'; rw [cur_set ht, if_neg (by omega)]; exact h.foot g' hg'
  · intro g' hg'; rw [cur_set ht, if_neg (by omega)]; exact h.next g' hg'
  · intro g' hg'; rw [cur_set ht]; by_cases e : g' = g
    · subst e; rw [if_pos (by omega)]; exact (fset_same _ _ _).symm
    · rw [if_neg (by omega), h.prev g' hg']; exact (fset_ne e).symm
  · intro g' hg'; rw [cur_set ht, if_neg (by omega)]; exact h.slots g' hg'
  · intro g' hg'; rw [cur_set ht, if_neg (by omega)]; exact h.taken g' hg'
  · intro g' hg'; rw [cur_set ht, if_neg (by omega)]; exact h.bin g' hg'
  · intro g' hg'; rw [cur_set ht, if_neg (by omega)]; exact h.rack g' hg'
  · intro g' hg'; rw [cur_set ht, if_neg (by omega)]; exact h.root g' hg'
  · intro t' f' ht' hf'; rw [cur_set ht, if_neg (by omega)]; exact h.dn t' f' ht' hf'
  · rw [cur_set ht, if_neg (by omega)]; exact h.fr
  · rw [cur_set ht, if_neg (by omega)]; exact h.lv
theorem At.get_prev (h : At c s m) {g : Int} (hg : 0 ≤ g ∧ g < c.p) : s.get (c.prev g) = m.prev g := by
  have ha : c.prev g = 30 + 4 * c.t + 6 * g + 3 := pc_val h.ok hg 3
  have h1 := Cf.ok_iff.1 h.ok
  have h2 := cells_val h.ok
  have ht : s.there (c.prev g) = true := h.there (by omega) (by omega)
  rw [get_cur ht, ha]; exact h.prev g hg
theorem At.set_slots (h : At c s m) {g : Int} (hg : 0 ≤ g ∧ g < c.p) (x : Int) : At c (s.set (c.slots g) x) { m with slots := fset m.slots g (nv x) } := by
  have ha : c.slots g = 30 + 4 * c.t + 6 * g + 4 := pc_val h.ok hg 4
  have h1 := Cf.ok_iff.1 h.ok
  have h2 := cells_val h.ok
  have ht : s.there (c.slots g) = true := h.there (by omega) (by omega)
  refine ⟨h.ok, h.full.set _ _, (s.set_same _ _).1.trans h.n, ?_, ?_, ?_, ?_, ?_, ?_, ?_, ?_, ?_, ?_, ?_, ?_⟩
  · intro g' hg'; rw [cur_set ht, if_neg (by omega)]; exact h.info g' hg'
  · intro g' hg'; rw [cur_set ht, if_neg (by omega)]; exact h.foot g' hg'
  · intro g' hg'; rw [cur_set ht, if_neg (by omega)]; exact h.next g' hg'
  · intro g' hg'; rw [cur_set ht, if_neg (by omega)]; exact h.prev g' hg'
  · intro g' hg'; rw [cur_set ht]; by_cases e : g' = g
    · subst e; rw [if_pos (by omega)]; exact (fset_same _ _ _).symm
    · rw [if_neg (by omega), h.slots g' hg']; exact (fset_ne e).symm
  · intro g' hg'; rw [cur_set ht, if_neg (by omega)]; exact h.taken g' hg'
  · intro g' hg'; rw [cur_set ht, if_neg (by omega)]; exact h.bin g' hg'
  · intro g' hg'; rw [cur_set ht, if_neg (by omega)]; exact h.rack g' hg'
  · intro g' hg'; rw [cur_set ht, if_neg (by omega)]; exact h.root g' hg'
  · intro t' f' ht' hf'; rw [cur_set ht, if_neg (by omega)]; exact h.dn t' f' ht' hf'
  · rw [cur_set ht, if_neg (by omega)]; exact h.fr
  · rw [cur_set ht, if_neg (by omega)]; exact h.lv
theorem At.get_slots (h : At c s m) {g : Int} (hg : 0 ≤ g ∧ g < c.p) : s.get (c.slots g) = m.slots g := by
  have ha : c.slots g = 30 + 4 * c.t + 6 * g + 4 := pc_val h.ok hg 4
  have h1 := Cf.ok_iff.1 h.ok
  have h2 := cells_val h.ok
  have ht : s.there (c.slots g) = true := h.there (by omega) (by omega)
  rw [get_cur ht, ha]; exact h.slots g hg
theorem At.set_taken (h : At c s m) {g : Int} (hg : 0 ≤ g ∧ g < c.p) (x : Int) : At c (s.set (c.taken g) x) { m with taken := fset m.taken g (nv x) } := by
  have ha : c.taken g = 30 + 4 * c.t + 6 * g + 5 := pc_val h.ok hg 5
  have h1 := Cf.ok_iff.1 h.ok
  have h2 := cells_val h.ok
  have ht : s.there (c.taken g) = true := h.there (by omega) (by omega)
  refine ⟨h.ok, h.full.set _ _, (s.set_same _ _).1.trans h.n, ?_, ?_, ?_, ?_, ?_, ?_, ?_, ?_, ?_, ?_, ?_, ?_⟩
  · intro g' hg'; rw [cur_set ht, if_neg (by omega)]; exact h.info g' hg'
  · intro g' hg'; rw [cur_set ht, if_neg (by omega)]; exact h.foot g' hg'
  · intro g' hg'; rw [cur_set ht, if_neg (by omega)]; exact h.next g' hg'
  · intro g' hg'; rw [cur_set ht, if_neg (by omega)]; exact h.prev g' hg'
  · intro g' hg'; rw [cur_set ht, if_neg (by omega)]; exact h.slots g' hg'
  · intro g' hg'; rw [cur_set ht]; by_cases e : g' = g
    · subst e; rw [if_pos (by omega)]; exact (fset_same _ _ _).symm
    · rw [if_neg (by omega), h.taken g' hg']; exact (fset_ne e).symm
  · intro g' hg'; rw [cur_set ht, if_neg (by omega)]; exact h.bin g' hg'
  · intro g' hg'; rw [cur_set ht, if_neg (by omega)]; exact h.rack g' hg'
  · intro g' hg'; rw [cur_set ht, if_neg (by omega)]; exact h.root g' hg'
  · intro t' f' ht' hf'; rw [cur_set ht, if_neg (by omega)]; exact h.dn t' f' ht' hf'
  · rw [cur_set ht, if_neg (by omega)]; exact h.fr
  · rw [cur_set ht, if_neg (by omega)]; exact h.lv
theorem At.get_taken (h : At c s m) {g : Int} (hg : 0 ≤ g ∧ g < c.p) : s.get (c.taken g) = m.taken g := by
  have ha : c.taken g = 30 + 4 * c.t + 6 * g + 5 := pc_val h.ok hg 5
  have h1 := Cf.ok_iff.1 h.ok
  have h2 := cells_val h.ok
  have ht : s.there (c.taken g) = true := h.there (by omega) (by omega)
  rw [get_cur ht, ha]; exact h.taken g hg
theorem At.set_bin (h : At c s m) {k : Int} (hg : 0 ≤ k ∧ k < 11) (x : Int) : At c (s.set (cBin k) x) { m with bin := fset m.bin k (nv x) } := by
  have ha : cBin k = 2 + k := cBin_val hg
  have h1 := Cf.ok_iff.1 h.ok
  have h2 := cells_val h.ok
  have ht : s.there (cBin k) = true := h.there (by omega) (by omega)
  refine ⟨h.ok, h.full.set _ _, (s.set_same _ _).1.trans h.n, ?_, ?_, ?_, ?_, ?_, ?_, ?_, ?_, ?_, ?_, ?_, ?_⟩
  · intro g' hg'; rw [cur_set ht, if_neg (by omega)]; exact h.info g' hg'
  · intro g' hg'; rw [cur_set ht, if_neg (by omega)]; exact h.foot g' hg'
  · intro g' hg'; rw [cur_set ht, if_neg (by omega)]; exact h.next g' hg'
  · intro g' hg'; rw [cur_set ht, if_neg (by omega)]; exact h.prev g' hg'
  · intro g' hg'; rw [cur_set ht, if_neg (by omega)]; exact h.slots g' hg'
  · intro g' hg'; rw [cur_set ht, if_neg (by omega)]; exact h.taken g' hg'
  · intro g' hg'; rw [cur_set ht]; by_cases e : g' = k
    · subst e; rw [if_pos (by omega)]; exact (fset_same _ _ _).symm
    · rw [if_neg (by omega), h.bin g' hg']; exact (fset_ne e).symm
  · intro g' hg'; rw [cur_set ht, if_neg (by omega)]; exact h.rack g' hg'
  · intro g' hg'; rw [cur_set ht, if_neg (by omega)]; exact h.root g' hg'
  · intro t' f' ht' hf'; rw [cur_set ht, if_neg (by omega)]; exact h.dn t' f' ht' hf'
  · rw [cur_set ht, if_neg (by omega)]; exact h.fr
  · rw [cur_set ht, if_neg (by omega)]; exact h.lv
theorem At.get_bin (h : At c s m) {k : Int} (hg : 0 ≤ k ∧ k < 11) : s.get (cBin k) = m.bin k := by
  have ha : cBin k = 2 + k := cBin_val hg
  have h1 := Cf.ok_iff.1 h.ok
  have h2 := cells_val h.ok
  have ht : s.there (cBin k) = true := h.there (by omega) (by omega)
  rw [get_cur ht, ha]; exact h.bin k hg
theorem At.set_rack (h : At c s m) {k : Int} (hg : 0 ≤ k ∧ k < 9) (x : Int) : At c (s.set (cRack k) x) { m with rack := fset m.rack k (nv x) } := by
  have ha : cRack k = 13 + k := cRack_val hg
  have h1 := Cf.ok_iff.1 h.ok
  have h2 := cells_val h.ok
  have ht : s.there (cRack k) = true := h.there (by omega) (by omega)
  refine ⟨h.ok, h.full.set _ _, (s.set_same _ _).1.trans h.n, ?_, ?_, ?_, ?_, ?_, ?_, ?_, ?_, ?_, ?_, ?_, ?_⟩
  · intro g' hg'; rw [cur_set ht, if_neg (by omega)]; exact h.info g' hg'
  · intro g' hg'; rw [cur_set ht, if_neg (by omega)]; exact h.foot g' hg'
  · intro g' hg'; rw [cur_set ht, if_neg (by omega)]; exact h.next g' hg'
  · intro g' hg'; rw [cur_set ht, if_neg (by omega)]; exact h.prev g' hg'
  · intro g' hg'; rw [cur_set ht, if_neg (by omega)]; exact h.slots g' hg'
  · intro g' hg'; rw [cur_set ht, if_neg (by omega)]; exact h.taken g' hg'
  · intro g' hg'; rw [cur_set ht, if_neg (by omega)]; exact h.bin g' hg'
  · intro g' hg'; rw [cur_set ht]; by_cases e : g' = k
    · subst e; rw [if_pos (by omega)]; exact (fset_same _ _ _).symm
    · rw [if_neg (by omega), h.rack g' hg']; exact (fset_ne e).symm
  · intro g' hg'; rw [cur_set ht, if_neg (by omega)]; exact h.root g' hg'
  · intro t' f' ht' hf'; rw [cur_set ht, if_neg (by omega)]; exact h.dn t' f' ht' hf'
  · rw [cur_set ht, if_neg (by omega)]; exact h.fr
  · rw [cur_set ht, if_neg (by omega)]; exact h.lv
theorem At.get_rack (h : At c s m) {k : Int} (hg : 0 ≤ k ∧ k < 9) : s.get (cRack k) = m.rack k := by
  have ha : cRack k = 13 + k := cRack_val hg
  have h1 := Cf.ok_iff.1 h.ok
  have h2 := cells_val h.ok
  have ht : s.there (cRack k) = true := h.there (by omega) (by omega)
  rw [get_cur ht, ha]; exact h.rack k hg
theorem At.set_root (h : At c s m) {k : Int} (hg : 0 ≤ k ∧ k < 8) (x : Int) : At c (s.set (cRoot k) x) { m with root := fset m.root k (nv x) } := by
  have ha : cRoot k = 22 + k := cRoot_val hg
  have h1 := Cf.ok_iff.1 h.ok
  have h2 := cells_val h.ok
  have ht : s.there (cRoot k) = true := h.there (by omega) (by omega)
  refine ⟨h.ok, h.full.set _ _, (s.set_same _ _).1.trans h.n, ?_, ?_, ?_, ?_, ?_, ?_, ?_, ?_, ?_, ?_, ?_, ?_⟩
  · intro g' hg'; rw [cur_set ht, if_neg (by omega)]; exact h.info g' hg'
  · intro g' hg'; rw [cur_set ht, if_neg (by omega)]; exact h.foot g' hg'
  · intro g' hg'; rw [cur_set ht, if_neg (by omega)]; exact h.next g' hg'
  · intro g' hg'; rw [cur_set ht, if_neg (by omega)]; exact h.prev g' hg'
  · intro g' hg'; rw [cur_set ht, if_neg (by omega)]; exact h.slots g' hg'
  · intro g' hg'; rw [cur_set ht, if_neg (by omega)]; exact h.taken g' hg'
  · intro g' hg'; rw [cur_set ht, if_neg (by omega)]; exact h.bin g' hg'
  · intro g' hg'; rw [cur_set ht, if_neg (by omega)]; exact h.rack g' hg'
  · intro g' hg'; rw [cur_set ht]; by_cases e : g' = k
    · subst e; rw [if_pos (by omega)]; exact (fset_same _ _ _).symm
    · rw [if_neg (by omega), h.root g' hg']; exact (fset_ne e).symm
  · intro t' f' ht' hf'; rw [cur_set ht, if_neg (by omega)]; exact h.dn t' f' ht' hf'
  · rw [cur_set ht, if_neg (by omega)]; exact h.fr
  · rw [cur_set ht, if_neg (by omega)]; exact h.lv
theorem At.get_root (h : At c s m) {k : Int} (hg : 0 ≤ k ∧ k < 8) : s.get (cRoot k) = m.root k := by
  have ha : cRoot k = 22 + k := cRoot_val hg
  have h1 := Cf.ok_iff.1 h.ok
  have h2 := cells_val h.ok
  have ht : s.there (cRoot k) = true := h.there (by omega) (by omega)
  rw [get_cur ht, ha]; exact h.root k hg
theorem At.set_dn (h : At c s m) {t f : Int} (hg : 0 ≤ t ∧ t < c.t) (hf : 0 ≤ f ∧ f < 4) (x : Int) : At c (s.set (c.done t f) x) { m with dn := fun t' f' => if t' = t ∧ f' = f then nv x else m.dn t' f' } := by
  have ha : c.done t f = 30 + 4 * t + f := done_val h.ok hg hf
  have h1 := Cf.ok_iff.1 h.ok
  have h2 := cells_val h.ok
  have ht : s.there (c.done t f) = true := h.there (by omega) (by omega)
  refine ⟨h.ok, h.full.set _ _, (s.set_same _ _).1.trans h.n, ?_, ?_, ?_, ?_, ?_, ?_, ?_, ?_, ?_, ?_, ?_, ?_⟩
  · intro g' hg'; rw [cur_set ht, if_neg (by omega)]; exact h.info g' hg'
  · intro g' hg'; rw [cur_set ht, if_neg (by omega)]; exact h.foot g' hg'
  · intro g' hg'; rw [cur_set ht, if_neg (by omega)]; exact h.next g' hg'
  · intro g' hg'; rw [cur_set ht, if_neg (by omega)]; exact h.prev g' hg'
  · intro g' hg'; rw [cur_set ht, if_neg (by omega)]; exact h.slots g' hg'
  · intro g' hg'; rw [cur_set ht, if_neg (by omega)]; exact h.taken g' hg'
  · intro g' hg'; rw [cur_set ht, if_neg (by omega)]; exact h.bin g' hg'
  · intro g' hg'; rw [cur_set ht, if_neg (by omega)]; exact h.rack g' hg'
  · intro g' hg'; rw [cur_set ht, if_neg (by omega)]; exact h.root g' hg'
  · intro t' f' ht' hf'; rw [cur_set ht, h.dn t' f' ht' hf']; by_cases e : t' = t ∧ f' = f
    · rw [if_pos (by omega)]; exact (if_pos e).symm
    · rw [if_neg (by omega)]; exact (if_neg e).symm
  · rw [cur_set ht, if_neg (by omega)]; exact h.fr
  · rw [cur_set ht, if_neg (by omega)]; exact h.lv
theorem At.get_dn (h : At c s m) {t f : Int} (hg : 0 ≤ t ∧ t < c.t) (hf : 0 ≤ f ∧ f < 4) : s.get (c.done t f) = m.dn t f := by
  have ha : c.done t f = 30 + 4 * t + f := done_val h.ok hg hf
  have h1 := Cf.ok_iff.1 h.ok
  have h2 := cells_val h.ok
  have ht : s.there (c.done t f) = true := h.there (by omega) (by omega)
  rw [get_cur ht, ha]; exact h.dn t f hg hf
theorem At.set_fr (h : At c s m)  (x : Int) : At c (s.set (0) x) { m with fr := nv x } := by
  have ha : (0 : Int) = 0 := rfl
  have h1 := Cf.ok_iff.1 h.ok
  have h2 := cells_val h.ok
  have ht : s.there (0) = true := h.there (by omega) (by omega)
  refine ⟨h.ok, h.full.set _ _, (s.set_same _ _).1.trans h.n, ?_, ?_, ?_, ?_, ?_, ?_, ?_, ?_, ?_, ?_, ?_, ?_⟩
  · intro g' hg'; rw [cur_set ht, if_neg (by omega)]; exact h.info g' hg'
  · intro g' hg'; rw [cur_set ht, if_neg (by omega)]; exact h.foot g' hg'
  · intro g' hg'; rw [cur_set ht, if_neg (by omega)]; exact h.next g' hg'
  · intro g' hg'; rw [cur_set ht, if_neg (by omega)]; exact h.prev g' hg'
  · intro g' hg'; rw [cur_set ht, if_neg (by omega)]; exact h.slots g' hg'
  · intro g' hg'; rw [cur_set ht, if_neg (by omega)]; exact h.taken g' hg'
  · intro g' hg'; rw [cur_set ht, if_neg (by omega)]; exact h.bin g' hg'
  · intro g' hg'; rw [cur_set ht, if_neg (by omega)]; exact h.rack g' hg'
  · intro g' hg'; rw [cur_set ht, if_neg (by omega)]; exact h.root g' hg'
  · intro t' f' ht' hf'; rw [cur_set ht, if_neg (by omega)]; exact h.dn t' f' ht' hf'
  · rw [cur_set ht, if_pos rfl]
  · rw [cur_set ht, if_neg (by omega)]; exact h.lv
theorem At.get_fr (h : At c s m)  : s.get (0) = m.fr := by
  have ha : (0 : Int) = 0 := rfl
  have h1 := Cf.ok_iff.1 h.ok
  have h2 := cells_val h.ok
  have ht : s.there (0) = true := h.there (by omega) (by omega)
  rw [get_cur ht]; exact h.fr 
theorem At.set_lv (h : At c s m)  (x : Int) : At c (s.set (1) x) { m with lv := nv x } := by
  have ha : (1 : Int) = 1 := rfl
  have h1 := Cf.ok_iff.1 h.ok
  have h2 := cells_val h.ok
  have ht : s.there (1) = true := h.there (by omega) (by omega)
  refine ⟨h.ok, h.full.set _ _, (s.set_same _ _).1.trans h.n, ?_, ?_, ?_, ?_, ?_, ?_, ?_, ?_, ?_, ?_, ?_, ?_⟩
  · intro g' hg'; rw [cur_set ht, if_neg (by omega)]; exact h.info g' hg'
  · intro g' hg'; rw [cur_set ht, if_neg (by omega)]; exact h.foot g' hg'
  · intro g' hg'; rw [cur_set ht, if_neg (by omega)]; exact h.next g' hg'
  · intro g' hg'; rw [cur_set ht, if_neg (by omega)]; exact h.prev g' hg'
  · intro g' hg'; rw [cur_set ht, if_neg (by omega)]; exact h.slots g' hg'
  · intro g' hg'; rw [cur_set ht, if_neg (by omega)]; exact h.taken g' hg'
  · intro g' hg'; rw [cur_set ht, if_neg (by omega)]; exact h.bin g' hg'
  · intro g' hg'; rw [cur_set ht, if_neg (by omega)]; exact h.rack g' hg'
  · intro g' hg'; rw [cur_set ht, if_neg (by omega)]; exact h.root g' hg'
  · intro t' f' ht' hf'; rw [cur_set ht, if_neg (by omega)]; exact h.dn t' f' ht' hf'
  · rw [cur_set ht, if_neg (by omega)]; exact h.fr
  · rw [cur_set ht, if_pos rfl]
theorem At.get_lv (h : At c s m)  : s.get (1) = m.lv := by
  have ha : (1 : Int) = 1 := rfl
  have h1 := Cf.ok_iff.1 h.ok
  have h2 := cells_val h.ok
  have ht : s.there (1) = true := h.there (by omega) (by omega)
  rw [get_cur ht]; exact h.lv 
end
end Go.Sl
namespace Go.Sl
def Mm.of (c : Cf) (xs : List Int) : Mm :=
  { info := fun g => cel xs (c.info g), foot := fun g => cel xs (c.foot g), next := fun g => cel xs (c.next g), prev := fun g => cel xs (c.prev g), slots := fun g => cel xs (c.slots g), taken := fun g => cel xs (c.taken g),
    bin := fun k => cel xs (cBin k), rack := fun k => cel xs (cRack k), root := fun k => cel xs (cRoot k), dn := fun t f => cel xs (c.done t f), fr := cel xs 0, lv := cel xs 1 }
structure Sp where
  k : Int
  l : Int
  c : Int
structure Spn (m : Mm) (a : Int) (x : Sp) : Prop where
  l1 : 1 ≤ x.l
  rt : iRight x.k x.l x.c = true
  k0 : x.k ≠ 0
  inf : iGet (m.info a) = ⟨x.k, x.l, x.c⟩
  iok : infoOk (m.info a) = true
  in0 : ∀ q, a < q → q < a + x.l → m.info q = 0
  ft0 : ∀ q, a ≤ q → q < a + x.l - 1 → m.foot q = 0
  ft : m.foot (a + x.l - 1) = nv (a + 1)
def Tl (m : Mm) : Int → List Sp → Int → Prop
  | a, [], b => a = b
  | a, x :: L, b => Spn m a x ∧ Tl m (a + x.l) L b
def begs : Int → List Sp → List Int
  | _, [] => []
  | a, x :: L => a :: begs (a + x.l) L
theorem Tl.app {m : Mm} : ∀ {L1 L2 : List Sp} {a b : Int}, Tl m a (L1 ++ L2) b ↔ ∃ d, Tl m a L1 d ∧ Tl m d L2 b
  | [], L2, a, b => ⟨fun h => ⟨a, rfl, h⟩, fun ⟨d, h1, h2⟩ => by have h1 : a = d := h1; subst h1; exact h2⟩
  | x :: L1, L2, a, b => by
    constructor
    · rintro ⟨h1, h2⟩
      obtain ⟨d, h3, h4⟩ := Tl.app.1 h2
      exact ⟨d, ⟨h1, h3⟩, h4⟩
    · rintro ⟨d, ⟨h1, h3⟩, h4⟩
      exact ⟨h1, Tl.app.2 ⟨d, h3, h4⟩⟩
theorem Tl.le {m : Mm} : ∀ {L : List Sp} {a b : Int}, Tl m a L b → a ≤ b
  | [], a, b, h => by have h : a = b := h; omega
  | x :: L, a, b, h => by have := h.1.l1; have := Tl.le h.2; omega
theorem Spn.of_eq {m m' : Mm} {a : Int} {x : Sp} (h : Spn m a x) (h1 : ∀ q, a ≤ q → q < a + x.l → m'.info q = m.info q) (h2 : ∀ q, a ≤ q → q < a + x.l → m'.foot q = m.foot q) : Spn m' a x := by
  have hl := h.l1
  exact { l1 := hl, rt := h.rt, k0 := h.k0, inf := by rw [h1 a (by omega) (by omega)]; exact h.inf, iok := by rw [h1 a (by omega) (by omega)]; exact h.iok, in0 := fun q a b => by rw [h1 q (by omega) b]; exact h.in0 q a b, ft0 := fun q a b => by rw [h2 q a (by omega)]; exact h.ft0 q a b, ft := by rw [h2 _ (by omega) (by omega)]; exact h.ft }
theorem Tl.of_eq {m m' : Mm} : ∀ {L : List Sp} {a b : Int}, Tl m a L b → (∀ q, a ≤ q → q < b → m'.info q = m.info q) → (∀ q, a ≤ q → q < b → m'.foot q = m.foot q) → Tl m' a L b
  | [], _, _, h, _, _ => h
  | x :: L, a, b, h, h1, h2 => by
    have := h.1.l1
    have := Tl.le h.2
    exact ⟨h.1.of_eq (fun q a b => h1 q a (by omega)) (fun q a b => h2 q a (by omega)), Tl.of_eq h.2 (fun q a b => h1 q (by omega) b) fun q a b => h2 q (by omega) b⟩
end Go.Sl
namespace Go.Sl
inductive Hq where
  | bin (k : Int)
  | rack (k : Int)
deriving DecidableEq
def Mm.hd (m : Mm) : Hq → Int
  | .bin k => m.bin k
  | .rack k => m.rack k
def Mm.setHd (m : Mm) (h : Hq) (x : Int) : Mm :=
  match h with
  | .bin k => { m with bin := fset m.bin k x }
  | .rack k => { m with rack := fset m.rack k x }
def Sg' (m : Mm) (p : Int) : Int → Int → List Int → Int → Int → Prop
  | q, b, [], q', b' => q = q' ∧ b = b'
  | q, b, g :: r, q', b' => q = g + 1 ∧ (0 ≤ g ∧ g < p) ∧ m.prev g = b ∧ Sg' m p (m.next g) q r q' b'
theorem Sg'.app {m : Mm} {p : Int} : ∀ {l1 l2 : List Int} {q b q' b' : Int}, Sg' m p q b (l1 ++ l2) q' b' ↔ ∃ q1 b1, Sg' m p q b l1 q1 b1 ∧ Sg' m p q1 b1 l2 q' b'
  | [], l2, q, b, q', b' => ⟨fun h => ⟨q, b, ⟨rfl, rfl⟩, h⟩, fun ⟨q1, b1, ⟨h1, h2⟩, h3⟩ => by subst h1; subst h2; exact h3⟩
  | g :: l1, l2, q, b, q', b' => by
    constructor
    · rintro ⟨h1, h2, h3, h4⟩
      obtain ⟨q1, b1, h5, h6⟩ := Sg'.app.1 h4
      exact ⟨q1, b1, ⟨h1, h2, h3, h5⟩, h6⟩
    · rintro ⟨q1, b1, ⟨h1, h2, h3, h5⟩, h6⟩
      exact ⟨h1, h2, h3, Sg'.app.2 ⟨q1, b1, h5, h6⟩⟩
theorem Sg'.of_eq {m m' : Mm} {p : Int} : ∀ {l : List Int} {q b q' b' : Int}, Sg' m p q b l q' b' → (∀ g ∈ l, m'.next g = m.next g) → (∀ g ∈ l, m'.prev g = m.prev g) → Sg' m' p q b l q' b'
  | [], _, _, _, _, h, _, _ => h
  | g :: l, q, b, q', b', ⟨h1, h2, h3, h4⟩, hn, hp => by
    refine ⟨h1, h2, (hp g (by simp)).trans h3, ?_⟩
    rw [hn g (by simp)]
    exact Sg'.of_eq h4 (fun x hx => hn x (by simp [hx])) fun x hx => hp x (by simp [hx])
abbrev DL (m : Mm) (p : Int) (h : Hq) (l : List Int) : Prop := ∃ b', Sg' m p (m.hd h) 0 l 0 b'
def mPush (m : Mm) (h : Hq) (g : Int) : Mm :=
  let q := m.hd h
  { m with next := fset m.next g q, prev := bif q == 0 then fset m.prev g 0 else fset (fset m.prev g 0) (q - 1) (g + 1) }.setHd h (g + 1)
def mPull (m : Mm) (h : Hq) (g : Int) : Mm :=
  let n := m.next g
  let b := m.prev g
  let m1 := bif b == 0 then m.setHd h n else { m with next := fset m.next (b - 1) n }
  let m2 := bif n == 0 then m1 else { m1 with prev := fset m1.prev (n - 1) b }
  { m2 with next := fset m2.next g 0, prev := fset m2.prev g 0 }
def Hq.ok : Hq → Prop
  | .bin k => 0 ≤ k ∧ k < 11
  | .rack k => 0 ≤ k ∧ k < 9
def Hq.ad : Hq → Int
  | .bin k => cBin k
  | .rack k => cRack k
theorem nv0 : nv 0 = 0 := rfl
theorem cur_bd (s : VS) (i : Int) : 0 ≤ s.cur i ∧ s.cur i < 4294967296 := by
  unfold VS.cur
  split
  · exact nv_bd _
  · split
    · exact nv_bd _
    · exact ⟨by decide, by decide⟩
section
variable {c : Cf} {s : VS} {m : Mm}
theorem At.next_bd (h : At c s m) {g : Int} (hg : 0 ≤ g ∧ g < c.p) : 0 ≤ m.next g ∧ m.next g < 4294967296 := by rw [← h.next g hg]; exact cur_bd _ _
theorem At.prev_bd (h : At c s m) {g : Int} (hg : 0 ≤ g ∧ g < c.p) : 0 ≤ m.prev g ∧ m.prev g < 4294967296 := by rw [← h.prev g hg]; exact cur_bd _ _
theorem At.hd_bd (h : At c s m) {q : Hq} (hq : q.ok) : 0 ≤ m.hd q ∧ m.hd q < 4294967296 := by
  cases q with
  | bin k => show 0 ≤ m.bin k ∧ m.bin k < 4294967296; rw [← h.bin k hq]; exact cur_bd _ _
  | rack k => show 0 ≤ m.rack k ∧ m.rack k < 4294967296; rw [← h.rack k hq]; exact cur_bd _ _
theorem At.get_hd (h : At c s m) {q : Hq} (hq : q.ok) : s.get q.ad = m.hd q := by
  cases q with
  | bin k => exact h.get_bin hq
  | rack k => exact h.get_rack hq
theorem At.set_hd (h : At c s m) {q : Hq} (hq : q.ok) (x : Int) : At c (s.set q.ad x) (m.setHd q (nv x)) := by
  cases q with
  | bin k => exact h.set_bin hq x
  | rack k => exact h.set_rack hq x
theorem Cf.page_iff {c : Cf} {g : Int} : c.page g = true ↔ 0 ≤ g ∧ g < c.p := by simp [Cf.page]
theorem push_at (h : At c s m) {q : Hq} (hq : q.ok) {g : Int} (hg : 0 ≤ g ∧ g < c.p) (hh : m.hd q = 0 ∨ (0 ≤ m.hd q - 1 ∧ m.hd q - 1 < c.p)) : At c ((pPush c q.ad g).run s).1 (mPush m q g) := by
  have hp := Cf.ok_iff.1 h.ok
  have hb := h.hd_bd hq
  have e1 : nv (g + 1) = g + 1 := nv_id (by omega)
  have e2 : nv (m.hd q) = m.hd q := nv_id hb
  unfold pPush
  rw [Cf.page_iff.2 hg, cond_true]
  simp only [Pg.run_get, Pg.run_put, Pg.run_bind]
  rw [h.get_hd hq]
  have h1 := ((h.read q.ad).set_next hg (m.hd q)).set_prev hg 0
  rw [e2, nv0] at h1
  unfold mPush
  dsimp only
  cases hz : m.hd q == 0 with
  | true =>
    simp only [cond_true, Pg.run_ret]
    have h2 := h1.set_hd hq (nv (g + 1))
    rw [show nv (nv (g + 1)) = g + 1 by rw [e1, e1]] at h2
    exact h2
  | false =>
    simp only [cond_false, Pg.run_put, Pg.run_ret]
    have hz' : m.hd q ≠ 0 := by simpa using hz
    have hv : 0 ≤ m.hd q - 1 ∧ m.hd q - 1 < c.p := by omega
    have h2 := (h1.set_prev hv (nv (g + 1))).set_hd hq (nv (g + 1))
    rw [show nv (nv (g + 1)) = g + 1 by rw [e1, e1]] at h2
    exact h2
theorem pull_at (h : At c s m) {q : Hq} (hq : q.ok) {g : Int} (hg : 0 ≤ g ∧ g < c.p) (hn : m.next g = 0 ∨ (0 ≤ m.next g - 1 ∧ m.next g - 1 < c.p)) (hb : m.prev g = 0 ∨ (0 ≤ m.prev g - 1 ∧ m.prev g - 1 < c.p)) : At c ((pPull c q.ad g).run s).1 (mPull m q g) := by
  have e1 : nv (m.next g) = m.next g := nv_id (h.next_bd hg)
  have e2 : nv (m.prev g) = m.prev g := nv_id (h.prev_bd hg)
  unfold pPull
  rw [Cf.page_iff.2 hg, cond_true]
  simp only [Pg.run_get, Pg.run_put, Pg.run_bind]
  have h0 := h.read (c.next g)
  rw [h.get_next hg, h0.get_prev hg]
  have h1 := h0.read (c.prev g)
  have key : ∀ (s1 : VS) (m1 : Mm), At c s1 m1 → At c (((((bif m.next g == 0 then Pg.ret () else Pg.put (c.prev (m.next g - 1)) (m.prev g) (.ret ())).run s1).1.set (c.next g) 0).set (c.prev g) 0)) (let m2 := bif m.next g == 0 then m1 else { m1 with prev := fset m1.prev (m.next g - 1) (m.prev g) }; { m2 with next := fset m2.next g 0, prev := fset m2.prev g 0 }) := by
    intro s1 m1 h2
    cases hz : m.next g == 0 with
    | true =>
      have h3 := (h2.set_next hg 0).set_prev hg 0
      rw [nv0] at h3
      exact h3
    | false =>
      have hz' : m.next g ≠ 0 := by simpa using hz
      have h3 := ((h2.set_prev (show 0 ≤ m.next g - 1 ∧ m.next g - 1 < c.p by omega) (m.prev g)).set_next hg 0).set_prev hg 0
      rw [e2, nv0] at h3
      exact h3
  unfold mPull
  dsimp only at key ⊢
  cases hz : m.prev g == 0 with
  | true =>
    have h2 := h1.set_hd hq (m.next g)
    rw [e1] at h2
    exact key _ _ h2
  | false =>
    have hz' : m.prev g ≠ 0 := by simpa using hz
    have h2 := h1.set_next (show 0 ≤ m.prev g - 1 ∧ m.prev g - 1 < c.p by omega) (m.next g)
    rw [e1] at h2
    exact key _ _ h2
end
end Go.Sl
namespace Go.Sl
section
variable (m : Mm) (h : Hq) (x : Int)
theorem setHd_next : (m.setHd h x).next = m.next := by cases h <;> rfl
theorem setHd_prev : (m.setHd h x).prev = m.prev := by cases h <;> rfl
theorem setHd_info : (m.setHd h x).info = m.info := by cases h <;> rfl
theorem setHd_foot : (m.setHd h x).foot = m.foot := by cases h <;> rfl
theorem setHd_slots : (m.setHd h x).slots = m.slots := by cases h <;> rfl
theorem setHd_taken : (m.setHd h x).taken = m.taken := by cases h <;> rfl
theorem setHd_root : (m.setHd h x).root = m.root := by cases h <;> rfl
theorem setHd_dn : (m.setHd h x).dn = m.dn := by cases h <;> rfl
theorem setHd_fr : (m.setHd h x).fr = m.fr := by cases h <;> rfl
theorem setHd_lv : (m.setHd h x).lv = m.lv := by cases h <;> rfl
theorem setHd_hd (h' : Hq) : (m.setHd h x).hd h' = if h' = h then x else m.hd h' := by
  cases h <;> cases h' <;> simp [Mm.setHd, Mm.hd, fset]
end
section
variable {m : Mm} {p : Int} {q : Hq} {g : Int}
theorem push_next (y : Int) : (mPush m q g).next y = if y = g then m.hd q else m.next y := by
  unfold mPush; dsimp only; rw [setHd_next]; rfl
theorem push_prev (y : Int) : (mPush m q g).prev y = if m.hd q ≠ 0 ∧ y = m.hd q - 1 then g + 1 else if y = g then 0 else m.prev y := by
  unfold mPush; dsimp only; rw [setHd_prev]; dsimp only
  cases hz : m.hd q == 0 with
  | true =>
    have : m.hd q = 0 := by simpa using hz
    simp [this, fset]
  | false =>
    have : m.hd q ≠ 0 := by simpa using hz
    simp [this, fset]
theorem push_hd (q' : Hq) : (mPush m q g).hd q' = if q' = q then g + 1 else m.hd q' := by
  unfold mPush; dsimp only; rw [setHd_hd]; cases q' <;> rfl
theorem Sg'.link {m : Mm} {p : Int} {q b : Int} {x : Int} {r : List Int} {q' b' : Int} (h : Sg' m p q b (x :: r) q' b') : q = x + 1 := h.1
theorem push_list {l : List Int} (hl : DL m p q l) (hg : 0 ≤ g ∧ g < p) (hn : g ∉ l) (hd : l.Nodup) : DL (mPush m q g) p q (g :: l) := by
  obtain ⟨b', hl⟩ := hl
  have eh : (mPush m q g).hd q = g + 1 := by rw [push_hd, if_pos rfl]
  have en : (mPush m q g).next g = m.hd q := by rw [push_next, if_pos rfl]
  cases l with
  | nil =>
    obtain ⟨h1, h2⟩ := hl
    refine ⟨g + 1, eh, hg, ?_, ?_⟩
    · rw [push_prev, if_neg (by omega), if_pos rfl]
    · rw [en]; exact ⟨h1, eh⟩
  | cons x r =>
    obtain ⟨h1, h2, h3, h4⟩ := hl
    have hx : x ≠ g := fun e => hn (by simp [e])
    have hxr : g ∉ r := fun e => hn (by simp [e])
    have hd' := (List.nodup_cons.1 hd).1
    refine ⟨b', eh, hg, ?_, ?_, h2, ?_, ?_⟩
    · rw [push_prev, if_neg (by omega), if_pos rfl]
    · rw [en, h1]
    · rw [push_prev, if_pos (by omega), eh]
    · rw [push_next, if_neg hx, en]
      refine Sg'.of_eq h4 (fun y hy => ?_) fun y hy => ?_
      · rw [push_next, if_neg (fun (e : y = g) => hxr (e ▸ hy))]
      · rw [push_prev, if_neg (fun e => hd' (by have : y = x := by omega
                                                exact this ▸ hy)), if_neg (fun (e : y = g) => hxr (e ▸ hy))]
theorem push_other {q' : Hq} {l l' : List Int} (hl : DL m p q l) (hl' : DL m p q' l') (hq : q' ≠ q) (hn : g ∉ l') (hd : ∀ y ∈ l, y ∉ l') : DL (mPush m q g) p q' l' := by
  obtain ⟨b1, hl⟩ := hl
  obtain ⟨b', hl'⟩ := hl'
  refine ⟨b', ?_⟩
  rw [push_hd, if_neg hq]
  refine Sg'.of_eq hl' (fun y hy => ?_) fun y hy => ?_
  · rw [push_next, if_neg (fun (e : y = g) => hn (e ▸ hy))]
  · rw [push_prev, if_neg (fun e => ?_), if_neg (fun (e : y = g) => hn (e ▸ hy))]
    cases l with
    | nil => exact e.1 hl.1
    | cons x r =>
      have := hl.1
      exact hd x (by simp) (by have : y = x := by omega
                               exact this ▸ hy)
theorem pull_next (y : Int) : (mPull m q g).next y = if y = g then 0 else if m.prev g ≠ 0 ∧ y = m.prev g - 1 then m.next g else m.next y := by
  unfold mPull; dsimp only
  cases hz : m.prev g == 0 <;> cases hw : m.next g == 0 <;> simp only [cond_true, cond_false, setHd_next, fset] <;> simp only [beq_iff_eq, beq_eq_false_iff_ne, ne_eq] at hz hw <;> simp [hz]
theorem pull_prev (y : Int) : (mPull m q g).prev y = if y = g then 0 else if m.next g ≠ 0 ∧ y = m.next g - 1 then m.prev g else m.prev y := by
  unfold mPull; dsimp only
  cases hz : m.prev g == 0 <;> cases hw : m.next g == 0 <;> simp only [cond_true, cond_false, setHd_prev, fset] <;> simp only [beq_iff_eq, beq_eq_false_iff_ne, ne_eq] at hz hw <;> simp [hw]
theorem pull_hd (q' : Hq) : (mPull m q g).hd q' = if q' = q ∧ m.prev g = 0 then m.next g else m.hd q' := by
  unfold mPull; dsimp only
  cases hz : m.prev g == 0 <;> cases hw : m.next g == 0 <;> simp only [cond_true, cond_false] <;> simp only [beq_iff_eq, beq_eq_false_iff_ne, ne_eq] at hz hw <;> cases q' <;> simp [hz, Mm.hd, Mm.setHd] <;> cases q <;> simp [fset]
theorem Sg'.last : ∀ {l : List Int} {a b q1 b1 : Int}, Sg' m p a b l q1 b1 → l ≠ [] → ∃ y ∈ l, b1 = y + 1
  | [], _, _, _, _, _, h => absurd rfl h
  | [y], _, _, _, _, ⟨h1, _, _, _, h5⟩, _ => ⟨y, by simp, by omega⟩
  | y :: z :: r, _, _, _, _, ⟨_, _, _, h4⟩, _ => by
    obtain ⟨w, hw, e⟩ := Sg'.last h4 (by simp)
    exact ⟨w, by simp only [List.mem_cons] at hw ⊢; exact .inr hw, e⟩
theorem Sg'.pages : ∀ {l : List Int} {a b q1 b1 : Int}, Sg' m p a b l q1 b1 → ∀ y ∈ l, 0 ≤ y ∧ y < p
  | [], _, _, _, _, _, _, h => by cases h
  | y :: r, _, _, _, _, ⟨_, h2, _, h4⟩, z, hz => by
    rcases List.mem_cons.1 hz with rfl | hz
    · exact h2
    · exact Sg'.pages h4 z hz
theorem Sg'.relink {m' : Mm} {q1' : Int} : ∀ {l : List Int} {a b q1 b1 : Int}, Sg' m p a b l q1 b1 → (∀ y ∈ l, m'.prev y = m.prev y) → (∀ y ∈ l, y + 1 ≠ b1 → m'.next y = m.next y) → (∀ y ∈ l, y + 1 = b1 → m'.next y = q1') → l.Nodup → l ≠ [] → Sg' m' p a b l q1' b1
  | [], _, _, _, _, _, _, _, _, _, h => absurd rfl h
  | [y], a, b, q1, b1, ⟨h1, h2, h3, h4, h5⟩, hp, _, hq, _, _ => ⟨h1, h2, (hp y (by simp)).trans h3, hq y (by simp) (by omega), h5⟩
  | y :: z :: r, a, b, q1, b1, ⟨h1, h2, h3, h4⟩, hp, hn, hq, hd, _ => by
    obtain ⟨w, hw, e⟩ := Sg'.last h4 (by simp)
    have hd' := List.nodup_cons.1 hd
    have hy : y + 1 ≠ b1 := fun e' => hd'.1 (by have : y = w := by omega
                                                exact this ▸ hw)
    refine ⟨h1, h2, (hp y (by simp)).trans h3, ?_⟩
    rw [hn y (by simp) hy]
    exact Sg'.relink h4 (fun x hx => hp x (by simp only [List.mem_cons] at hx ⊢; exact .inr hx)) (fun x hx => hn x (by simp only [List.mem_cons] at hx ⊢; exact .inr hx)) (fun x hx => hq x (by simp only [List.mem_cons] at hx ⊢; exact .inr hx)) hd'.2 (by simp)
theorem pull_list {l1 l2 : List Int} (hl : DL m p q (l1 ++ g :: l2)) (hd : (l1 ++ g :: l2).Nodup) : DL (mPull m q g) p q (l1 ++ l2) := by
  obtain ⟨b', hl⟩ := hl
  obtain ⟨q1, b1, hA, h1, h2, h3, hB⟩ := Sg'.app.1 hl
  have hd1 := List.nodup_append.1 hd
  have hg1 : g ∉ l1 := fun e => hd1.2.2 g e g (by simp) rfl
  have hg2 : g ∉ l2 := (List.nodup_cons.1 hd1.2.1).1
  have hdis : ∀ y ∈ l1, y ∉ l2 := fun y hy hy2 => hd1.2.2 y hy y (by simp [hy2]) rfl
  have hpg := Sg'.pages hA
  have hb1 : l1 ≠ [] → ∃ y ∈ l1, b1 = y + 1 := Sg'.last hA
  -- behind it
  have hB' : ∃ b'', Sg' (mPull m q g) p (m.next g) b1 l2 0 b'' := by
    cases l2 with
    | nil => exact ⟨b1, hB.1, rfl⟩
    | cons z r =>
      obtain ⟨e1, e2, e3, e4⟩ := hB
      have hz : z ≠ g := fun e => hg2 (by simp [e])
      have hgr : g ∉ r := fun e => hg2 (by simp [e])
      have hzr := (List.nodup_cons.1 (List.nodup_cons.1 hd1.2.1).2).1
      have hzb : ∀ y ∈ z :: r, ¬ (m.prev g ≠ 0 ∧ y = m.prev g - 1) := fun y hy ⟨n1, n2⟩ => by
        cases hc : l1 with
        | nil => rw [hc] at hA; have := hA.2; omega
        | cons u v =>
          obtain ⟨w, hw, ew⟩ := hb1 (by rw [hc]; simp)
          have : y = w := by omega
          exact hdis w hw (this ▸ hy)
      refine ⟨b', e1, e2, ?_, ?_⟩
      · rw [pull_prev, if_neg hz, if_pos ⟨by omega, by omega⟩, h3]
      · rw [pull_next, if_neg hz, if_neg (hzb z (by simp))]
        refine Sg'.of_eq e4 (fun y hy => ?_) fun y hy => ?_
        · rw [pull_next, if_neg (fun (e : y = g) => hgr (e ▸ hy)), if_neg (hzb y (by simp [hy]))]
        · rw [pull_prev, if_neg (fun (e : y = g) => hgr (e ▸ hy)), if_neg (fun ⟨_, e⟩ => hzr ((show y = z by omega) ▸ hy))]
  obtain ⟨b'', hB'⟩ := hB'
  have hnl : ∀ y ∈ l1, ¬ (m.next g ≠ 0 ∧ y = m.next g - 1) := fun y hy ⟨n1, n2⟩ => by
    cases l2 with
    | nil => exact n1 hB.1
    | cons z r =>
      have := hB.1
      exact hdis y hy (by have : y = z := by omega
                          rw [this]; simp)
  refine ⟨b'', Sg'.app.2 ⟨m.next g, b1, ?_, hB'⟩⟩
  by_cases hc : l1 = []
  · subst hc
    obtain ⟨e1, e2⟩ := hA
    rw [pull_hd, if_pos ⟨rfl, by omega⟩]
    exact ⟨rfl, e2⟩
  · obtain ⟨w, hw, ew⟩ := hb1 hc
    have := hpg w hw
    rw [pull_hd, if_neg (fun ⟨_, e⟩ => by omega)]
    refine Sg'.relink hA (fun y hy => ?_) (fun y hy hne => ?_) (fun y hy he => ?_) hd1.1 hc
    · rw [pull_prev, if_neg (fun (e : y = g) => hg1 (e ▸ hy)), if_neg (hnl y hy)]
    · rw [pull_next, if_neg (fun (e : y = g) => hg1 (e ▸ hy)), if_neg (fun ⟨_, e⟩ => by omega)]
    · rw [pull_next, if_neg (fun (e : y = g) => hg1 (e ▸ hy)), if_pos ⟨by omega, by omega⟩]
theorem pull_other {q' : Hq} {l l' : List Int} (hl : DL m p q l) (hg : g ∈ l) (hl' : DL m p q' l') (hq : q' ≠ q) (hd : ∀ y ∈ l, y ∉ l') : DL (mPull m q g) p q' l' := by
  obtain ⟨l1, l2, rfl⟩ := List.append_of_mem hg
  obtain ⟨b', hl⟩ := hl
  obtain ⟨q1, b1, hA, h1, h2, h3, hB⟩ := Sg'.app.1 hl
  obtain ⟨b2, hl'⟩ := hl'
  have hgl : g ∉ l' := hd g (by simp)
  have hp1 : ∀ y ∈ l', ¬ (m.prev g ≠ 0 ∧ y = m.prev g - 1) := fun y hy ⟨n1, n2⟩ => by
    by_cases hc : l1 = []
    · subst hc; have := hA.2; omega
    · obtain ⟨w, hw, ew⟩ := Sg'.last hA hc
      exact hd w (by simp [hw]) (by have : y = w := by omega
                                    exact this ▸ hy)
  have hp2 : ∀ y ∈ l', ¬ (m.next g ≠ 0 ∧ y = m.next g - 1) := fun y hy ⟨n1, n2⟩ => by
    cases l2 with
    | nil => exact n1 hB.1
    | cons z r =>
      have := hB.1
      exact hd z (by simp) (by have : y = z := by omega
                               exact this ▸ hy)
  refine ⟨b2, ?_⟩
  rw [pull_hd, if_neg (fun ⟨e, _⟩ => hq e)]
  refine Sg'.of_eq hl' (fun y hy => ?_) fun y hy => ?_
  · rw [pull_next, if_neg (fun (e : y = g) => hgl (e ▸ hy)), if_neg (hp1 y hy)]
  · rw [pull_prev, if_neg (fun (e : y = g) => hgl (e ▸ hy)), if_neg (hp2 y hy)]
end
end Go.Sl
namespace Go.Proofs.Ytajcpopikdpcmaa
open Go.Sl
section
variable {c : Cf} {xs : List Int}
theorem listF_dl (hx : AGood c xs) : ∀ (f : Nat) (q ahead : Int) (out : List Int), 0 ≤ q → (listF c xs f q ahead out).2 = true → ∃ l b', (listF c xs f q ahead out).1 = out ++ l ∧ Sg' (Mm.of c xs) c.p q ahead l 0 b' ∧ out.length + l.length ≤ c.p.toNat + (if l = [] then out.length else 0)
  | 0, _, _, _, _, h => by simp [listF] at h
  | f + 1, q, ahead, out, hq, h => by
    simp only [listF] at h ⊢
    cases h0 : q == 0 with
    | true =>
      simp only [cond_true]
      exact ⟨[], ahead, by simp, ⟨by simpa using h0, rfl⟩, by simp⟩
    | false =>
      rw [h0, cond_false] at h
      simp only [cond_false]
      have hq0 : q ≠ 0 := by simpa using h0
      cases h1 : (decide (q > c.p) || decide ((out.length : Int) ≥ c.p)) with
      | true => rw [h1] at h; cases h
      | false =>
        rw [h1, cond_false] at h
        simp only [cond_false]
        simp only [Bool.or_eq_false_iff, decide_eq_false_iff_not] at h1
        cases h2 : cel xs (c.prev (q - 1)) != ahead with
        | true => rw [h2] at h; cases h
        | false =>
          rw [h2, cond_false] at h
          simp only [cond_false]
          have hb := cel_bd hx (c.next (q - 1))
          obtain ⟨l, b', e1, e2, e3⟩ := listF_dl hx f _ _ _ hb.1 h
          refine ⟨(q - 1) :: l, b', by rw [e1]; simp, ⟨by omega, by omega, (show cel xs (c.prev (q - 1)) = ahead by simpa using h2), e2⟩, ?_⟩
          simp only [List.length_append, List.length_cons, List.length_nil, reduceCtorEq, if_false] at e3 ⊢
          by_cases hl : l = []
          · subst hl; simp at e3 ⊢; omega
          · rw [if_neg hl] at e3; omega
theorem dl_listF (hx : AGood c xs) : ∀ (l : List Int) (f : Nat) (q ahead b' : Int) (out : List Int), Sg' (Mm.of c xs) c.p q ahead l 0 b' → l.length < f → (out.length + l.length : Int) ≤ c.p → listF c xs f q ahead out = (out ++ l, true)
  | _, 0, _, _, _, _, _, h, _ => by omega
  | [], f + 1, q, ahead, b', out, h, _, _ => by
    have : q = 0 := h.1
    simp [listF, this]
  | g :: l, f + 1, q, ahead, b', out, ⟨h1, h2, h3, h4⟩, hf, hl => by
    simp only [List.length_cons] at hf hl
    have e0 : (q == 0) = false := by simp; omega
    have e1 : (decide (q > c.p) || decide ((out.length : Int) ≥ c.p)) = false := by
      simp only [Bool.or_eq_false_iff, decide_eq_false_iff_not]; push_cast at hl; omega
    have eg : q - 1 = g := by omega
    have e2 : (cel xs (c.prev (q - 1)) != ahead) = false := by
      rw [eg]
      have : cel xs (c.prev g) = ahead := h3
      simp [this]
    simp only [listF, e0, e1, e2, cond_false]
    have := dl_listF hx l f _ _ b' (out ++ [g]) h4 (by omega) (by simp only [List.length_append, List.length_cons, List.length_nil]; push_cast at hl ⊢; omega)
    rw [eg]
    exact this.trans (by simp)
def Ch (c : Cf) (xs : List Int) : Int → List Int → Prop
  | a, [] => a = c.p
  | a, x :: l => a = x ∧ a < c.p ∧ infoOk (cel xs (c.info a)) = true ∧ (aInfo c xs a).k ≠ 0 ∧ 1 ≤ (aInfo c xs a).l ∧ Ch c xs (a + (aInfo c xs a).l) l
theorem startsF_ch : ∀ (f : Nat) (a : Int) (out : List Int), (startsF c xs f a out).2 = true → ∃ l, (startsF c xs f a out).1 = out ++ l ∧ Ch c xs a l
  | 0, a, out, h => ⟨[], by simp [startsF], (show a = c.p by simpa [startsF] using h)⟩
  | f + 1, a, out, h => by
    simp only [startsF] at h ⊢
    cases hd : decide (a < c.p) with
    | false =>
      rw [hd] at h
      simp only [cond_false] at h ⊢
      exact ⟨[], by simp, (show a = c.p by simpa using h)⟩
    | true =>
      rw [hd, cond_true] at h
      simp only [cond_true]
      cases hc : (!infoOk (cel xs (c.info a)) || (aInfo c xs a).k == 0) with
      | true => rw [hc] at h; cases h
      | false =>
        rw [hc, cond_false] at h
        simp only [cond_false]
        obtain ⟨l, e1, e2⟩ := startsF_ch f _ _ h
        simp only [Bool.or_eq_false_iff, Bool.not_eq_false'] at hc
        exact ⟨a :: l, by rw [e1]; simp, rfl, by simpa using hd, hc.1, by simpa using hc.2, iGet_len hc.1 hc.2, e2⟩
theorem ch_startsF : ∀ (l : List Int) (f : Nat) (a : Int) (out : List Int), Ch c xs a l → l.length < f → startsF c xs f a out = (out ++ l, true)
  | _, 0, _, _, _, h => by omega
  | [], f + 1, a, out, h, _ => by
    have h : a = c.p := h
    simp [startsF, h]
  | x :: l, f + 1, a, out, ⟨h1, h2, h3, h4, h5, h6⟩, hf => by
    have e1 : decide (a < c.p) = true := by simpa using h2
    have e2 : (!infoOk (cel xs (c.info a)) || (aInfo c xs a).k == 0) = false := by simp [h3, h4]
    simp only [startsF, e1, e2, cond_true, cond_false]
    rw [ch_startsF l f _ _ h6 (by simp at hf; omega)]
    subst h1; simp
theorem Ch.le : ∀ {l : List Int} {a : Int}, Ch c xs a l → a + l.length ≤ c.p
  | [], a, h => by have h : a = c.p := h; simp; omega
  | x :: l, a, ⟨_, _, _, _, h5, h6⟩ => by have := Ch.le h6; simp only [List.length_cons]; push_cast; omega
theorem Ch.ge : ∀ {l : List Int} {a : Int}, Ch c xs a l → ∀ x ∈ l, a ≤ x
  | [], _, _, _, h => by cases h
  | y :: l, a, ⟨h1, _, _, _, h5, h6⟩, x, hx => by
    rcases List.mem_cons.1 hx with rfl | hx
    · omega
    · have := Ch.ge h6 x hx; omega
theorem starts_iff (hp : 0 ≤ c.p) {l : List Int} : starts c xs = (l, true) ↔ Ch c xs 0 l := by
  constructor
  · intro h
    have h2 : (startsF c xs (c.p.toNat + 1) 0 []).2 = true := by unfold starts at h; rw [h]
    obtain ⟨l', e1, e2⟩ := startsF_ch _ _ _ h2
    have : l = l' := by
      have e3 : (startsF c xs (c.p.toNat + 1) 0 []).1 = l := by unfold starts at h; rw [h]
      rw [← e3, e1]; simp
    rw [this]; exact e2
  · intro h
    have := h.le
    unfold starts
    rw [ch_startsF l _ 0 [] h (by omega)]; simp
theorem drop_at {l : List Int} {n : Nat} (h : n < l.length) : l.drop n = l.getD n 0 :: l.drop (n + 1) := by
  rw [List.drop_eq_getElem_cons h, List.getD_eq_getElem?_getD, List.getElem?_eq_getElem h]; rfl
theorem tilesF_iff (l : List Int) : ∀ (k n : Nat), (l.drop n).Pairwise (· < ·) → (∀ x ∈ l.drop n, c.p - k ≤ x ∧ x < c.p) → (tilesF c xs l k n = true ↔ ∀ q : Int, c.p - k ≤ q → q < c.p → q ∈ l.drop n ∨ cel xs (c.info q) = 0)
  | 0, n, _, _ => by
    simp only [tilesF, true_iff]
    intro q h1 h2; omega
  | k + 1, n, hs, hb => by
    simp only [tilesF]
    cases hc : (decide (n < l.length) && l.getD n 0 == c.p - (k + 1 : Nat)) with
    | true =>
      simp only [Bool.and_eq_true, decide_eq_true_eq, beq_iff_eq] at hc
      have hd := drop_at hc.1
      rw [hc.2] at hd
      rw [hd] at hs hb ⊢
      have hs' := List.pairwise_cons.1 hs
      simp only [cond_true]
      rw [tilesF_iff l k (n + 1) hs'.2 (fun x hx => ⟨by have := hs'.1 x hx; push_cast at this; omega, (hb x (by simp [hx])).2⟩)]
      constructor
      · intro h q h1 h2
        by_cases hq : q = c.p - (k + 1 : Nat)
        · left; rw [hq]; simp
        · rcases h q (by push_cast at hq h1; omega) h2 with h3 | h3
          · left; simp [h3]
          · exact .inr h3
      · intro h q h1 h2
        rcases h q (by push_cast; omega) h2 with h3 | h3
        · rcases List.mem_cons.1 h3 with h4 | h4
          · exfalso; push_cast at h4; omega
          · exact .inl h4
        · exact .inr h3
    | false =>
      simp only [cond_false]
      have hn : ∀ x ∈ l.drop n, x ≠ c.p - (k + 1 : Nat) := fun x hx e => by
        have hlt : n < l.length := by
          rcases Nat.lt_or_ge n l.length with h | h
          · exact h
          · rw [List.drop_of_length_le h] at hx; cases hx
        have hd := drop_at hlt
        rw [hd] at hx hs hb
        have h1 : l.getD n 0 ≠ c.p - (k + 1 : Nat) := fun e' => by
          have : (decide (n < l.length) && l.getD n 0 == c.p - (k + 1 : Nat)) = true := by
            simp only [Bool.and_eq_true, decide_eq_true_eq, beq_iff_eq]; exact ⟨hlt, e'⟩
          rw [hc] at this; cases this
        rcases List.mem_cons.1 hx with h2 | h2
        · exact h1 (h2 ▸ e)
        · have h3 := (List.pairwise_cons.1 hs).1 x h2
          have h4 := (hb _ (List.mem_cons_self)).1
          omega
      have hb' : ∀ x ∈ l.drop n, c.p - k ≤ x ∧ x < c.p := fun x hx => by
        have h1 := hb x hx
        have h2 := hn x hx
        push_cast at h1 h2
        omega
      cases hz : cel xs (c.info (c.p - (k + 1 : Nat))) != 0 with
      | true =>
        simp only [cond_true, reduceCtorEq, false_iff]
        intro h
        rcases h (c.p - (k + 1 : Nat)) (Int.le_refl _) (by push_cast; omega) with h3 | h3
        · exact hn _ h3 rfl
        · rw [h3] at hz; cases hz
      | false =>
        simp only [cond_false]
        rw [tilesF_iff l k n hs hb']
        constructor
        · intro h q h1 h2
          by_cases hq : q = c.p - (k + 1 : Nat)
          · right; rw [hq]; simpa using hz
          · exact h q (by push_cast at hq h1; omega) h2
        · intro h q h1 h2
          exact h q (by push_cast; omega) h2
theorem Ch.sorted : ∀ {l : List Int} {a : Int}, Ch c xs a l → l.Pairwise (· < ·)
  | [], _, _ => List.Pairwise.nil
  | y :: l, a, ⟨h1, _, _, _, h5, h6⟩ => List.pairwise_cons.2 ⟨fun x hx => by have := Ch.ge h6 x hx; omega, Ch.sorted h6⟩
theorem Ch.lt : ∀ {l : List Int} {a : Int}, Ch c xs a l → ∀ x ∈ l, x < c.p
  | [], _, _, _, h => by cases h
  | y :: l, a, ⟨h1, h2, _, _, _, h6⟩, x, hx => by
    rcases List.mem_cons.1 hx with rfl | hx
    · omega
    · exact Ch.lt h6 x hx
theorem tiles_iff (hp : 0 ≤ c.p) : tiles c xs = true ↔ ∃ l, starts c xs = (l, true) ∧ Ch c xs 0 l ∧ ∀ q : Int, 0 ≤ q → q < c.p → q ∈ l ∨ cel xs (c.info q) = 0 := by
  unfold tiles
  cases h2 : (starts c xs).2 with
  | false =>
    simp only [cond_false, reduceCtorEq, false_iff]
    rintro ⟨l, h, _⟩
    rw [h] at h2; cases h2
  | true =>
    have hs : starts c xs = ((starts c xs).1, true) := by rw [← h2]
    have hc := (starts_iff hp).1 hs
    have e : (c.p.toNat : Int) = c.p := by omega
    simp only [cond_true]
    rw [tilesF_iff _ _ 0 (by simpa using hc.sorted) (fun x hx => ⟨by rw [e]; have := hc.ge x (by simpa using hx); omega, hc.lt x (by simpa using hx)⟩)]
    simp only [List.drop_zero]
    constructor
    · intro h
      exact ⟨_, hs, hc, fun q h1 h3 => h q (by omega) h3⟩
    · rintro ⟨l, h, _, h4⟩ q h1 h3
      rw [h]; exact h4 q (by omega) h3
def wantF (c : Cf) (xs : List Int) (x q : Int) : Int := bif q == x + (aInfo c xs x).l - 1 then nv (x + 1) else 0
theorem feetF_iff (l : List Int) : ∀ (k n : Nat) (a : Int) (r : List Int), l.drop n = a :: r → Ch c xs a (a :: r) → a ≤ c.p - k → c.p - k ≤ a + (aInfo c xs a).l →
    (feetF c xs l k n = true ↔ ∀ q : Int, c.p - k ≤ q → q < c.p → ∀ x ∈ a :: r, x ≤ q → q < x + (aInfo c xs x).l → cel xs (c.foot q) = wantF c xs x q)
  | 0, n, a, r, _, _, _, _ => by
    simp only [feetF, true_iff]
    intro q h1 h2; omega
  | k + 1, n, a, r, hd, hc, h1, h2 => by
    have hlt : n < l.length := by
      rcases Nat.lt_or_ge n l.length with h | h
      · exact h
      · rw [List.drop_of_length_le h] at hd; cases hd
    have hda := drop_at hlt
    rw [hd] at hda
    have ha : l.getD n 0 = a := by injection hda with h _; exact h.symm
    have hr : l.drop (n + 1) = r := by injection hda with _ h; exact h.symm
    obtain ⟨_, c2, c3, c4, c5, c6⟩ := hc
    have hw : ∀ x q, (bif q == x + (aInfo c xs x).l - 1 then nv (x + 1) else 0) = wantF c xs x q := fun _ _ => rfl
    simp only [feetF]
    cases r with
    | nil =>
      have e6 : a + (aInfo c xs a).l = c.p := c6
      have hlen : ¬ (n + 1 < l.length) := fun h => by
        have := drop_at h; rw [hr] at this; cases this
      have e1 : (decide (n + 1 < l.length) && l.getD (n + 1) 0 == c.p - (k + 1 : Nat)) = false := by simp [hlen]
      rw [e1]
      simp only [cond_false]
      rw [ha, hw]
      have ih := feetF_iff l k n a [] hd ⟨rfl, c2, c3, c4, c5, c6⟩ (by push_cast at h1; omega) (by omega)
      cases hz : cel xs (c.foot (c.p - (k + 1 : Nat))) != wantF c xs a (c.p - (k + 1 : Nat)) with
      | true =>
        simp only [cond_true, reduceCtorEq, false_iff]
        intro h
        have := h (c.p - (k + 1 : Nat)) (Int.le_refl _) (by push_cast; omega) a (by simp) h1 (by push_cast at h2 ⊢; omega)
        rw [this] at hz; simp at hz
      | false =>
        simp only [cond_false]
        rw [ih]
        constructor
        · intro h q g1 g2 x hx g3 g4
          by_cases hq : q = c.p - (k + 1 : Nat)
          · simp only [List.mem_singleton] at hx
            subst hx; rw [hq]; simpa using hz
          · exact h q (by push_cast at hq g1; omega) g2 x hx g3 g4
        · intro h q g1 g2 x hx g3 g4
          exact h q (by push_cast; omega) g2 x hx g3 g4
    | cons b r' =>
      obtain ⟨d1, d2, d3, d4, d5, d6⟩ := c6
      have hlt2 : n + 1 < l.length := by
        rcases Nat.lt_or_ge (n + 1) l.length with h | h
        · exact h
        · rw [List.drop_of_length_le h] at hr; cases hr
      have hdb := drop_at hlt2
      rw [hr] at hdb
      have hb : l.getD (n + 1) 0 = b := by injection hdb with h _; exact h.symm
      have hb2 : Ch c xs b (b :: r') := by
        have e : Ch c xs (a + (aInfo c xs a).l) (b :: r') := ⟨d1, d2, d3, d4, d5, d6⟩
        rw [d1] at e; exact e
      have hge : ∀ x ∈ b :: r', b ≤ x := hb2.ge
      by_cases hp : c.p - (k + 1 : Nat) = b
      · have e1 : (decide (n + 1 < l.length) && l.getD (n + 1) 0 == c.p - (k + 1 : Nat)) = true := by rw [hb, hp]; simp [hlt2]
        rw [e1]
        simp only [cond_true]
        rw [hb, hw]
        have d5' : 1 ≤ (aInfo c xs b).l := by rw [← d1]; exact d5
        have ih := feetF_iff l k (n + 1) b r' hr hb2 (by push_cast at hp; omega) (by push_cast at hp; omega)
        have hb3 : Ch c xs (b + (aInfo c xs b).l) r' := hb2.2.2.2.2.2
        have hge2 : ∀ x ∈ r', b + (aInfo c xs b).l ≤ x := hb3.ge
        cases hz : cel xs (c.foot (c.p - (k + 1 : Nat))) != wantF c xs b (c.p - (k + 1 : Nat)) with
        | true =>
          simp only [cond_true, reduceCtorEq, false_iff]
          intro h
          have := h (c.p - (k + 1 : Nat)) (Int.le_refl _) (by push_cast; omega) b (by simp) (by omega) (by omega)
          rw [this] at hz; simp at hz
        | false =>
          simp only [cond_false]
          rw [ih]
          constructor
          · intro h q g1 g2 x hx g3 g4
            have hxa : x ≠ a := fun e => by subst e; push_cast at hp g1; omega
            have hx' : x ∈ b :: r' := by
              rcases List.mem_cons.1 hx with h5 | h5
              · exact absurd h5 hxa
              · exact h5
            by_cases hq : q = c.p - (k + 1 : Nat)
            · have hxb : x = b := by
                rcases List.mem_cons.1 hx' with h5 | h5
                · exact h5
                · have := hge2 x h5; omega
              subst hxb; rw [hq]; simpa using hz
            · exact h q (by push_cast at hq g1; omega) g2 x hx' g3 g4
          · intro h q g1 g2 x hx g3 g4
            exact h q (by push_cast; omega) g2 x (by simp only [List.mem_cons] at hx ⊢; exact .inr hx) g3 g4
      · have e1 : (decide (n + 1 < l.length) && l.getD (n + 1) 0 == c.p - (k + 1 : Nat)) = false := by
          simp only [hb, Bool.and_eq_false_iff, beq_eq_false_iff_ne, ne_eq]
          right; omega
        rw [e1]
        simp only [cond_false]
        rw [ha, hw]
        have ih := feetF_iff l k n a (b :: r') hd ⟨rfl, c2, c3, c4, c5, d1, d2, d3, d4, d5, d6⟩ (by push_cast at h1; omega) (by push_cast at h2 hp; omega)
        cases hz : cel xs (c.foot (c.p - (k + 1 : Nat))) != wantF c xs a (c.p - (k + 1 : Nat)) with
        | true =>
          simp only [cond_true, reduceCtorEq, false_iff]
          intro h
          have := h (c.p - (k + 1 : Nat)) (Int.le_refl _) (by push_cast; omega) a (by simp) h1 (by omega)
          rw [this] at hz; simp at hz
        | false =>
          simp only [cond_false]
          rw [ih]
          constructor
          · intro h q g1 g2 x hx g3 g4
            by_cases hq : q = c.p - (k + 1 : Nat)
            · have hxa : x = a := by
                rcases List.mem_cons.1 hx with h5 | h5
                · exact h5
                · have := hge x h5; omega
              subst hxa; rw [hq]; simpa using hz
            · exact h q (by push_cast at hq g1; omega) g2 x hx g3 g4
          · intro h q g1 g2 x hx g3 g4
            exact h q (by push_cast; omega) g2 x hx g3 g4
theorem feet_iff (hp : 1 ≤ c.p) {l : List Int} (h : starts c xs = (l, true)) : feet c xs = true ↔ ∀ q : Int, 0 ≤ q → q < c.p → ∀ x ∈ l, x ≤ q → q < x + (aInfo c xs x).l → cel xs (c.foot q) = wantF c xs x q := by
  have hc := (starts_iff (by omega)).1 h
  have e : (c.p.toNat : Int) = c.p := by omega
  unfold feet
  rw [h]
  cases l with
  | nil => have : (0 : Int) = c.p := hc; omega
  | cons a r =>
    have ha : (0 : Int) = a := hc.1
    have hc' : Ch c xs a (a :: r) := by rw [← ha] at hc ⊢; exact hc
    have hl := hc.2.2.2.2.1
    rw [feetF_iff (a :: r) c.p.toNat 0 a r rfl hc' (by omega) (by rw [← ha]; omega)]
    constructor
    · intro g q g1 g2; exact g q (by omega) g2
    · intro g q g1 g2; exact g q (by omega) g2
def spOf (c : Cf) (xs : List Int) (x : Int) : Sp := ⟨(aInfo c xs x).k, (aInfo c xs x).l, (aInfo c xs x).c⟩
theorem tl_of : ∀ (l : List Int) (a : Int), Ch c xs a l → (∀ q : Int, a ≤ q → q < c.p → q ∈ l ∨ cel xs (c.info q) = 0) → (∀ q : Int, a ≤ q → q < c.p → ∀ x ∈ l, x ≤ q → q < x + (aInfo c xs x).l → cel xs (c.foot q) = wantF c xs x q) → Tl (Mm.of c xs) a (l.map (spOf c xs)) c.p
  | [], a, h, _, _ => h
  | x :: l, a, ⟨h1, h2, h3, h4, h5, h6⟩, ht, hf => by
    have hge := Ch.ge h6
    have hle := Ch.le h6
    subst h1
    have hle' : a + (aInfo c xs a).l ≤ c.p := by omega
    have hsp : (spOf c xs a).l = (aInfo c xs a).l := rfl
    refine ⟨?_, ?_⟩
    · exact { l1 := h5, rt := iGet_right (cel xs (c.info a)), k0 := h4, inf := rfl, iok := h3,
              in0 := fun q g1 g2 => by
                rcases ht q (by omega) (by rw [hsp] at g2; omega) with h | h
                · rcases List.mem_cons.1 h with h | h
                  · omega
                  · have := hge q h; rw [hsp] at g2; omega
                · exact h,
              ft0 := fun q g1 g2 => by
                rw [hsp] at g2
                have := hf q g1 (by omega) a (by simp) g1 (by omega)
                unfold wantF at this
                rw [show (q == a + (aInfo c xs a).l - 1) = false by simp; omega] at this
                exact this,
              ft := by
                have := hf (a + (aInfo c xs a).l - 1) (by omega) (by omega) a (by simp) (by omega) (by omega)
                unfold wantF at this
                rw [show (a + (aInfo c xs a).l - 1 == a + (aInfo c xs a).l - 1) = true by simp] at this
                exact this }
    · refine tl_of l _ h6 (fun q g1 g2 => ?_) fun q g1 g2 y hy => hf q (by have : a + (spOf c xs a).l ≤ q := g1; omega) g2 y (by simp [hy])
      have g1' : a + (aInfo c xs a).l ≤ q := g1
      rcases ht q (by omega) g2 with h | h
      · rcases List.mem_cons.1 h with h | h
        · omega
        · exact .inl h
      · exact .inr h
theorem ch_of_tl : ∀ (L : List Sp) (a : Int), Tl (Mm.of c xs) a L c.p → Ch c xs a (begs a L) ∧ (∀ q : Int, a ≤ q → q < c.p → q ∈ begs a L ∨ cel xs (c.info q) = 0) ∧ (∀ q : Int, a ≤ q → q < c.p → ∀ x ∈ begs a L, x ≤ q → q < x + (aInfo c xs x).l → cel xs (c.foot q) = wantF c xs x q) ∧ (begs a L).map (spOf c xs) = L
  | [], a, h => ⟨h, fun q g1 g2 => (by have h : a = c.p := h; omega), fun q g1 g2 x hx => (by cases hx), rfl⟩
  | x :: L, a, ⟨h, h2⟩ => by
    obtain ⟨i1, i2, i3, i4⟩ := ch_of_tl L _ h2
    have hl := h.l1
    have hle := Tl.le h2
    have hinf : aInfo c xs a = ⟨x.k, x.l, x.c⟩ := h.inf
    have hal : (aInfo c xs a).l = x.l := by rw [hinf]
    have hge := Ch.ge i1
    refine ⟨⟨rfl, by omega, h.iok, by rw [hinf]; exact h.k0, by omega, by rw [hal]; exact i1⟩, fun q g1 g2 => ?_, fun q g1 g2 y hy g3 g4 => ?_, ?_⟩
    · by_cases hq : q = a
      · left; rw [hq]; simp [begs]
      · by_cases hq2 : q < a + x.l
        · right; exact h.in0 q (by omega) hq2
        · rcases i2 q (by omega) g2 with g | g
          · left; simp only [begs, List.mem_cons]; exact .inr g
          · exact .inr g
    · simp only [begs, List.mem_cons] at hy
      by_cases hya : y = a
      · subst hya
        unfold wantF
        by_cases hq : q = y + (aInfo c xs y).l - 1
        · rw [show (q == y + (aInfo c xs y).l - 1) = true by simpa using hq, cond_true, hq, hal]
          exact h.ft
        · rw [show (q == y + (aInfo c xs y).l - 1) = false by simpa using hq, cond_false]
          exact h.ft0 q g1 (by omega)
      · rcases hy with hy | hy
        · exact absurd hy hya
        · have := hge y hy
          exact i3 q (by omega) g2 y hy g3 g4
    · simp only [begs, List.map_cons, i4, spOf, hinf]
theorem tl_iff (hp : 1 ≤ c.p) : (tiles c xs = true ∧ feet c xs = true) ↔ ∃ L, Tl (Mm.of c xs) 0 L c.p := by
  constructor
  · rintro ⟨h1, h2⟩
    obtain ⟨l, e1, e2, e3⟩ := (tiles_iff (by omega)).1 h1
    exact ⟨_, tl_of l 0 e2 e3 ((feet_iff hp e1).1 h2)⟩
  · rintro ⟨L, h⟩
    obtain ⟨i1, i2, i3, _⟩ := ch_of_tl L 0 h
    have e := (starts_iff (by omega)).2 i1
    exact ⟨(tiles_iff (by omega)).2 ⟨_, e, i1, i2⟩, (feet_iff hp e).2 i3⟩
theorem upto_iff {P : Int → Prop} {k : Nat} {b : Bool} {rest : Bool} (hb : b = true ↔ P (c.p - (k + 1 : Nat))) (hr : rest = true ↔ ∀ q : Int, c.p - k ≤ q → q < c.p → P q) : (b && rest) = true ↔ ∀ q : Int, c.p - (k + 1 : Nat) ≤ q → q < c.p → P q := by
  rw [Bool.and_eq_true, hb, hr]
  constructor
  · rintro ⟨h1, h2⟩ q g1 g2
    by_cases hq : q = c.p - (k + 1 : Nat)
    · rw [hq]; exact h1
    · exact h2 q (by push_cast at hq g1; omega) g2
  · intro h
    exact ⟨h _ (Int.le_refl _) (by push_cast; omega), fun q g1 g2 => h q (by push_cast; omega) g2⟩
def inL (c : Cf) (xs : List Int) (q : Int) : Bool := (aInfo c xs q).k == 1 || ((aInfo c xs q).k == 3 && !full (cel xs (c.taken q)) (aInfo c xs q).c)
theorem looseF_iff : ∀ k : Nat, looseF c xs k = true ↔ ∀ q : Int, c.p - k ≤ q → q < c.p → (inL c xs q = true ∨ (cel xs (c.next q) = 0 ∧ cel xs (c.prev q) = 0))
  | 0 => by
    simp only [looseF, true_iff]
    intro q h1 h2; omega
  | k + 1 => by
    have e : looseF c xs (k + 1) = ((inL c xs (c.p - (k + 1 : Nat)) || (cel xs (c.next (c.p - (k + 1 : Nat))) == 0 && cel xs (c.prev (c.p - (k + 1 : Nat))) == 0)) && looseF c xs k) := by
      simp only [looseF, inL, bne]
      cases ((aInfo c xs (c.p - (k + 1 : Nat))).k == 1 || ((aInfo c xs (c.p - (k + 1 : Nat))).k == 3 && !full (cel xs (c.taken (c.p - (k + 1 : Nat)))) (aInfo c xs (c.p - (k + 1 : Nat))).c)) <;> cases cel xs (c.next (c.p - (k + 1 : Nat))) == 0 <;> cases cel xs (c.prev (c.p - (k + 1 : Nat))) == 0 <;> simp
    rw [e]
    exact upto_iff (P := fun q => inL c xs q = true ∨ (cel xs (c.next q) = 0 ∧ cel xs (c.prev q) = 0)) (by simp only [Bool.or_eq_true, Bool.and_eq_true, beq_iff_eq]) (looseF_iff k)
theorem apartF_iff (l : List Int) : ∀ k : Nat, k < l.length → (apartF c xs l k = true ↔ ∀ i : Nat, l.length - k ≤ i → i < l.length → ¬ ((aInfo c xs (l.getD i 0)).k = 1 ∧ (aInfo c xs (l.getD (i - 1) 0)).k = 1))
  | 0, _ => by
    simp only [apartF, true_iff]
    intro i h1 h2; omega
  | k + 1, hk => by
    simp only [apartF]
    have ih := apartF_iff l k (by omega)
    cases hc : (aInfo c xs (l.getD (l.length - (k + 1)) 0)).k == 1 && (aInfo c xs (l.getD (l.length - (k + 1) - 1) 0)).k == 1 with
    | true =>
      simp only [cond_true, reduceCtorEq, false_iff]
      intro h
      simp only [Bool.and_eq_true, beq_iff_eq] at hc
      exact h (l.length - (k + 1)) (Nat.le_refl _) (by omega) hc
    | false =>
      simp only [cond_false]
      rw [ih]
      constructor
      · intro h i g1 g2
        by_cases hi : i = l.length - (k + 1)
        · subst hi
          rintro ⟨h1, h2⟩
          rw [h1, h2] at hc; cases hc
        · exact h i (by omega) g2
      · intro h i g1 g2
        exact h i (by omega) g2
theorem uptoN {P : Int → Prop} {N : Int} {k : Nat} {b : Bool} {rest : Bool} (hb : b = true ↔ P (N - (k + 1 : Nat))) (hr : rest = true ↔ ∀ q : Int, N - k ≤ q → q < N → P q) : (b && rest) = true ↔ ∀ q : Int, N - (k + 1 : Nat) ≤ q → q < N → P q := by
  rw [Bool.and_eq_true, hb, hr]
  constructor
  · rintro ⟨h1, h2⟩ q g1 g2
    by_cases hq : q = N - (k + 1 : Nat)
    · rw [hq]; exact h1
    · exact h2 q (by push_cast at hq g1; omega) g2
  · intro h
    exact ⟨h _ (Int.le_refl _) (by push_cast; omega), fun q g1 g2 => h q (by push_cast; omega) g2⟩
def badBit (c : Cf) (xs : List Int) (p : Int) (i : If) (b : Int) : Bool := (bitAt (cel xs (c.slots p)) b && !bitAt (cel xs (c.taken p)) b) || (bitAt (cel xs (c.taken p)) b && ((i.k != 3) || decide (b ≥ kSlots i.c)))
theorem slotsB_iff (p : Int) (i : If) : ∀ k : Nat, slotsB c xs p i k = true ↔ ∀ b : Int, 32 - k ≤ b → b < 32 → badBit c xs p i b = false
  | 0 => by
    simp only [slotsB, true_iff]
    intro b h1 h2; omega
  | k + 1 => by
    have e : slotsB c xs p i (k + 1) = (!badBit c xs p i (32 - (k + 1 : Nat)) && slotsB c xs p i k) := by
      simp only [slotsB]
      show (bif badBit c xs p i (32 - (k + 1 : Nat)) then false else slotsB c xs p i k) = _
      cases badBit c xs p i (32 - (k + 1 : Nat)) <;> simp
    rw [e]
    exact uptoN (P := fun b => badBit c xs p i b = false) (by simp) (slotsB_iff p i k)
theorem slotsF_iff : ∀ k : Nat, slotsF c xs k = true ↔ ∀ q : Int, c.p - k ≤ q → q < c.p → (slotsB c xs q (aInfo c xs q) 32 && !((aInfo c xs q).k == 3 && cel xs (c.taken q) == 0)) = true
  | 0 => by
    simp only [slotsF, true_iff]
    intro q h1 h2; omega
  | k + 1 => by
    have e : slotsF c xs (k + 1) = ((slotsB c xs (c.p - (k + 1 : Nat)) (aInfo c xs (c.p - (k + 1 : Nat))) 32 && !((aInfo c xs (c.p - (k + 1 : Nat))).k == 3 && cel xs (c.taken (c.p - (k + 1 : Nat))) == 0)) && slotsF c xs k) := by
      simp only [slotsF]
      cases slotsB c xs (c.p - (k + 1 : Nat)) (aInfo c xs (c.p - (k + 1 : Nat))) 32 <;> cases ((aInfo c xs (c.p - (k + 1 : Nat))).k == 3 && cel xs (c.taken (c.p - (k + 1 : Nat))) == 0) <;> simp
    rw [e]
    exact uptoN (P := fun q => (slotsB c xs q (aInfo c xs q) 32 && !((aInfo c xs q).k == 3 && cel xs (c.taken q) == 0)) = true) Iff.rfl (slotsF_iff k)
theorem onceF_iff (l : List Int) (g : Int → Bool) : ∀ k : Nat, onceF c l g k = true ↔ ∀ q : Int, c.p - k ≤ q → q < c.p → inA l q = bif g q then 1 else 0
  | 0 => by
    simp only [onceF, true_iff]
    intro q h1 h2; omega
  | k + 1 => by
    have e : onceF c l g (k + 1) = ((inA l (c.p - (k + 1 : Nat)) == (bif g (c.p - (k + 1 : Nat)) then 1 else 0)) && onceF c l g k) := by
      simp only [onceF, bne]
      cases inA l (c.p - (k + 1 : Nat)) == (bif g (c.p - (k + 1 : Nat)) then 1 else 0) <;> simp
    rw [e]
    exact uptoN (P := fun q => inA l q = bif g q then 1 else 0) (by simp only [beq_iff_eq]) (onceF_iff l g k)
def binOk (c : Cf) (xs : List Int) (j : Int) : Bool := (listA c xs (cBin j)).2 && onceF c (listA c xs (cBin j)).1 (binned c xs · j) c.p.toNat
theorem binsF_iff : ∀ k : Nat, binsF c xs k = true ↔ ∀ j : Int, 11 - k ≤ j → j < 11 → binOk c xs j = true
  | 0 => by
    simp only [binsF, true_iff]
    intro q h1 h2; omega
  | k + 1 => by
    have e : binsF c xs (k + 1) = (binOk c xs (11 - (k + 1 : Nat)) && binsF c xs k) := by
      simp only [binsF, binOk]
      cases (listA c xs (cBin (11 - (k + 1 : Nat)))).2 <;> cases onceF c (listA c xs (cBin (11 - (k + 1 : Nat)))).1 (binned c xs · (11 - (k + 1 : Nat))) c.p.toNat <;> simp
    rw [e]
    exact uptoN (P := fun j => binOk c xs j = true) Iff.rfl (binsF_iff k)
def rackOk (c : Cf) (xs : List Int) (j : Int) : Bool := (listA c xs (cRack j)).2 && onceF c (listA c xs (cRack j)).1 (racked c xs · j) c.p.toNat
theorem racksF_iff : ∀ k : Nat, racksF c xs k = true ↔ ∀ j : Int, 9 - k ≤ j → j < 9 → rackOk c xs j = true
  | 0 => by
    simp only [racksF, true_iff]
    intro q h1 h2; omega
  | k + 1 => by
    have e : racksF c xs (k + 1) = (rackOk c xs (9 - (k + 1 : Nat)) && racksF c xs k) := by
      simp only [racksF, rackOk]
      cases (listA c xs (cRack (9 - (k + 1 : Nat)))).2 <;> cases onceF c (listA c xs (cRack (9 - (k + 1 : Nat)))).1 (racked c xs · (9 - (k + 1 : Nat))) c.p.toNat <;> simp
    rw [e]
    exact uptoN (P := fun j => rackOk c xs j = true) Iff.rfl (racksF_iff k)
theorem inA_count (l : List Int) (q : Int) : inA l q = (l.count q : Int) := by
  unfold inA
  rw [List.count, List.countP_eq_length_filter]
theorem nodup_pages {p : Int} {l : List Int} (hn : l.Nodup) (h : ∀ x ∈ l, 0 ≤ x ∧ x < p) : l.length ≤ p.toNat := nodup_len' hn h
def LsOk (c : Cf) (m : Mm) (h : Hq) (g : Int → Bool) (l : List Int) : Prop := DL m c.p h l ∧ l.Nodup ∧ ∀ q : Int, q ∈ l ↔ (0 ≤ q ∧ q < c.p) ∧ g q = true
theorem lst_iff (hx : AGood c xs) (hd : Int) (h : Hq) (hh : (Mm.of c xs).hd h = cel xs hd) (g : Int → Bool) : ((listA c xs hd).2 && onceF c (listA c xs hd).1 g c.p.toNat) = true ↔ ∃ l, LsOk c (Mm.of c xs) h g l := by
  have hok := Cf.ok_iff.1 hx.ok
  have hbd := cel_bd hx hd
  rw [Bool.and_eq_true, onceF_iff]
  constructor
  · rintro ⟨h1, h2⟩
    unfold listA at h1 h2
    obtain ⟨l, b', e1, e2, _⟩ := listF_dl hx _ _ _ _ hbd.1 h1
    rw [e1, List.nil_append] at h2
    have hpg := Sg'.pages e2
    refine ⟨l, ⟨b', by rw [hh]; exact e2⟩, ?_, fun q => ?_⟩
    · rw [List.nodup_iff_count]
      intro q
      by_cases hq : q ∈ l
      · have := h2 q (by have := hpg q hq; omega) (hpg q hq).2
        rw [inA_count] at this
        cases hg : g q <;> rw [hg] at this <;> simp only [cond_true, cond_false] at this <;> omega
      · rw [List.count_eq_zero.2 hq]; omega
    · constructor
      · intro hq
        refine ⟨hpg q hq, ?_⟩
        have := h2 q (by have := hpg q hq; omega) (hpg q hq).2
        rw [inA_count] at this
        have hc := List.count_pos_iff.2 hq
        cases hg : g q with
        | true => rfl
        | false => rw [hg] at this; simp only [cond_false] at this; omega
      · rintro ⟨h3, h4⟩
        have := h2 q (by omega) h3.2
        rw [inA_count, h4] at this
        simp only [cond_true] at this
        exact List.count_pos_iff.1 (by omega)
  · rintro ⟨l, ⟨b', h1⟩, h2, h3⟩
    rw [hh] at h1
    have hpg := Sg'.pages h1
    have hl := nodup_pages h2 hpg
    have e := dl_listF hx l (c.p.toNat + 2) _ _ _ [] h1 (by omega) (by simp; omega)
    have e' : listA c xs hd = (l, true) := by unfold listA; rw [e]; simp
    rw [e']
    refine ⟨rfl, fun q g1 g2 => ?_⟩
    rw [inA_count]
    cases hg : g q with
    | true =>
      have hm := (h3 q).2 ⟨⟨by omega, g2⟩, hg⟩
      have a1 := List.count_pos_iff.2 hm
      have a2 := (List.nodup_iff_count.1 h2) q
      simp only [cond_true]; omega
    | false =>
      have hm : q ∉ l := fun hm => by
        have := ((h3 q).1 hm).2
        rw [hg] at this; cases this
      rw [List.count_eq_zero.2 hm]; rfl
def ifM (m : Mm) (q : Int) : If := iGet (m.info q)
def inM (m : Mm) (q : Int) : Bool := (ifM m q).k == 1 || ((ifM m q).k == 3 && !full (m.taken q) (ifM m q).c)
def binM (m : Mm) (k q : Int) : Bool := (ifM m q).k == 1 && logI (ifM m q).l == k
def rackM (m : Mm) (k q : Int) : Bool := (ifM m q).k == 3 && (ifM m q).c == k && !full (m.taken q) k
def badM (m : Mm) (q b : Int) : Bool := (bitAt (m.slots q) b && !bitAt (m.taken q) b) || (bitAt (m.taken q) b && (((ifM m q).k != 3) || decide (b ≥ kSlots (ifM m q).c)))
structure SndM (c : Cf) (m : Mm) (L : List Sp) : Prop where
  tl : Tl m 0 L c.p
  ap : ∀ i : Nat, i + 1 < L.length → ¬ ((L.getD i ⟨0, 0, 0⟩).k = 1 ∧ (L.getD (i + 1) ⟨0, 0, 0⟩).k = 1)
  bits : ∀ q : Int, 0 ≤ q → q < c.p → ∀ b : Int, 0 ≤ b → b < 32 → badM m q b = false
  some : ∀ q : Int, 0 ≤ q → q < c.p → ((ifM m q).k == 3 && m.taken q == 0) = false
  bins : ∀ k : Int, 0 ≤ k → k < 11 → ∃ l, LsOk c m (.bin k) (binM m k) l
  racks : ∀ k : Int, 0 ≤ k → k < 9 → ∃ l, LsOk c m (.rack k) (rackM m k) l
  loose : ∀ q : Int, 0 ≤ q → q < c.p → inM m q = true ∨ (m.next q = 0 ∧ m.prev q = 0)
theorem snd_of (hb : bdAll xs) (h : soundA c xs = true) : AGood c xs ∧ (∃ L, SndM c (Mm.of c xs) L) ∧ counts c xs = true ∧ rootsOk c xs = true := by
  rw [soundA_eq] at h
  unfold soundB at h
  simp only [Bool.and_eq_true, beq_iff_eq] at h
  obtain ⟨⟨⟨⟨⟨⟨⟨⟨⟨⟨h1, h2⟩, h3⟩, h4⟩, h5⟩, h6⟩, h7⟩, h8⟩, h9⟩, h10⟩, h11⟩ := h
  have hx : AGood c xs := { ok := h1, len := h2, bd := hb }
  have hok := Cf.ok_iff.1 h1
  have ep : (c.p.toNat : Int) = c.p := by omega
  obtain ⟨l, e1, e2, e3⟩ := (tiles_iff (by omega)).1 h3
  refine ⟨hx, ⟨l.map (spOf c xs), ?_⟩, h10, h11⟩
  exact
    { tl := tl_of l 0 e2 e3 ((feet_iff (by omega) e1).1 h4)
      ap := fun i hi => by
        rw [List.length_map] at hi
        have hl : 1 ≤ l.length := by omega
        unfold apart at h5
        rw [e1] at h5
        have := (apartF_iff l (l.length - 1) (by omega)).1 h5 (i + 1) (by omega) hi
        have g : ∀ j, j < l.length → (l.map (spOf c xs)).getD j ⟨0, 0, 0⟩ = spOf c xs (l.getD j 0) := fun j hj => by
          rw [List.getD_eq_getElem?_getD, List.getD_eq_getElem?_getD, List.getElem?_map, List.getElem?_eq_getElem hj]; rfl
        rw [g i (by omega), g (i + 1) hi]
        rintro ⟨a, b⟩
        exact this ⟨b, a⟩
      bits := fun q g1 g2 b g3 g4 => by
        have := (slotsF_iff c.p.toNat).1 h6 q (by omega) g2
        simp only [Bool.and_eq_true] at this
        exact (slotsB_iff q _ 32).1 this.1 b (by omega) g4
      some := fun q g1 g2 => by
        have := (slotsF_iff c.p.toNat).1 h6 q (by omega) g2
        simp only [Bool.and_eq_true, Bool.not_eq_true'] at this
        exact this.2
      bins := fun k g1 g2 => by
        have := (binsF_iff 11).1 h7 k (by omega) g2
        exact (lst_iff hx (cBin k) (.bin k) rfl _).1 this
      racks := fun k g1 g2 => by
        have := (racksF_iff 9).1 h8 k (by omega) g2
        exact (lst_iff hx (cRack k) (.rack k) rfl _).1 this
      loose := fun q g1 g2 => (looseF_iff c.p.toNat).1 h9 q (by omega) g2 }
theorem snd_to {L : List Sp} (hx : AGood c xs) (S : SndM c (Mm.of c xs) L) (h10 : counts c xs = true) (h11 : rootsOk c xs = true) : soundA c xs = true := by
  have hok := Cf.ok_iff.1 hx.ok
  have ep : (c.p.toNat : Int) = c.p := by omega
  obtain ⟨i1, i2, i3, i4⟩ := ch_of_tl L 0 S.tl
  have e := (starts_iff (by omega)).2 i1
  have hll : (begs 0 L).length = L.length := by rw [← congrArg List.length i4]; simp
  have h3 : tiles c xs = true := (tiles_iff (by omega)).2 ⟨_, e, i1, i2⟩
  have h4 : feet c xs = true := (feet_iff (by omega) e).2 i3
  have h5 : apart c xs = true := by
    unfold apart
    rw [e]
    simp only
    by_cases h0 : (begs 0 L).length = 0
    · rw [h0]; rfl
    · refine (apartF_iff (begs 0 L) _ (by omega)).2 fun i g1 g2 => ?_
      have g : ∀ j, j < (begs 0 L).length → L.getD j ⟨0, 0, 0⟩ = spOf c xs ((begs 0 L).getD j 0) := fun j hj => by
        have : ((begs 0 L).map (spOf c xs)).getD j ⟨0, 0, 0⟩ = spOf c xs ((begs 0 L).getD j 0) := by
          rw [List.getD_eq_getElem?_getD, List.getD_eq_getElem?_getD, List.getElem?_map, List.getElem?_eq_getElem hj]; rfl
        rw [i4] at this; exact this
      have := S.ap (i - 1) (by omega)
      rw [show i - 1 + 1 = i by omega, g i g2, g (i - 1) (by omega)] at this
      rintro ⟨a, b⟩
      exact this ⟨b, a⟩
  have h6 : slotsOk c xs = true := (slotsF_iff c.p.toNat).2 fun q g1 g2 => by
    have a := S.some q (by omega) g2
    simp only [Bool.and_eq_true, Bool.not_eq_true']
    exact ⟨(slotsB_iff q _ 32).2 fun b g3 g4 => S.bits q (by omega) g2 b (by omega) g4, a⟩
  have h7 : bins c xs = true := (binsF_iff 11).2 fun k g1 g2 => (lst_iff hx (cBin k) (.bin k) rfl _).2 (S.bins k (by omega) g2)
  have h8 : racks c xs = true := (racksF_iff 9).2 fun k g1 g2 => (lst_iff hx (cRack k) (.rack k) rfl _).2 (S.racks k (by omega) g2)
  have h9 : loose c xs = true := (looseF_iff c.p.toNat).2 fun q g1 g2 => S.loose q (by omega) g2
  rw [soundA_eq]
  unfold soundB
  simp only [hx.ok, hx.len, h3, h4, h5, h6, h7, h8, h9, h10, h11, beq_self_eq_true, Bool.and_true]
def smF (f : Int → Int) : Nat → Int
  | 0 => 0
  | k + 1 => smF f k + f k
theorem smF_congr {f g : Int → Int} : ∀ {n : Nat}, (∀ q : Int, 0 ≤ q → q < n → f q = g q) → smF f n = smF g n
  | 0, _ => rfl
  | n + 1, h => by
    simp only [smF]
    rw [smF_congr (n := n) fun q a b => h q a (by push_cast; omega), h n (by omega) (by push_cast; omega)]
theorem smF_add (f g : Int → Int) : ∀ n : Nat, smF (fun q => f q + g q) n = smF f n + smF g n
  | 0 => rfl
  | n + 1 => by simp only [smF, smF_add f g n]; omega
theorem smF_one {f g : Int → Int} {a : Int} : ∀ {n : Nat}, 0 ≤ a → a < n → (∀ q : Int, 0 ≤ q → q < n → q ≠ a → f q = g q) → smF f n = smF g n + (f a - g a)
  | 0, h1, h2, _ => by omega
  | n + 1, h1, h2, h => by
    simp only [smF]
    by_cases e : a = n
    · rw [smF_congr (f := f) (g := g) fun q a b => h q a (by push_cast; omega) (by omega), ← e]; omega
    · have h3 : f n = g n := h n (by omega) (by push_cast; omega) (by omega)
      have := smF_one (f := f) (g := g) (n := n) h1 (by push_cast at h2; omega) fun q a b d => h q a (by push_cast; omega) d
      rw [this, h3]; omega
theorem smF_two {f g : Int → Int} {a b : Int} {n : Nat} (ha : 0 ≤ a) (ha' : a < n) (hb : 0 ≤ b) (hb' : b < n) (hab : a ≠ b) (h : ∀ q : Int, 0 ≤ q → q < n → q ≠ a → q ≠ b → f q = g q) : smF f n = smF g n + (f a - g a) + (f b - g b) := by
  have h1 := smF_one (f := f) (g := fun q => bif q == a then f a else g q) (a := b) (n := n) hb hb' fun q h1 h2 h3 => by
    by_cases e : q = a
    · subst e; simp
    · have : (q == a) = false := by simpa using e
      simp only [this, cond_false]; exact h q h1 h2 e h3
  have h2 := smF_one (f := fun q => bif q == a then f a else g q) (g := g) (a := a) (n := n) ha ha' fun q h1 h2 h3 => by
    have : (q == a) = false := by simpa using h3
    simp only [this, cond_false]
  have e1 : (b == a) = false := by simpa using fun e => hab e.symm
  simp only [e1, cond_false, beq_self_eq_true, cond_true] at h1 h2
  omega
def frP (m : Mm) (q : Int) : Int := bif (ifM m q).k == 1 then (ifM m q).l else 0
def lvP (m : Mm) (q : Int) : Int := (bif (ifM m q).k == 2 then 1 else 0) + ones (m.slots q)
def CntM (c : Cf) (m : Mm) : Prop := m.fr = nv (smF (frP m) c.p.toNat) ∧ m.lv = nv (smF (lvP m) c.p.toNat)
theorem countsF_sm : ∀ n : Nat, countsF c xs n = (smF (frP (Mm.of c xs)) n, smF (lvP (Mm.of c xs)) n)
  | 0 => rfl
  | n + 1 => by
    simp only [countsF, countsF_sm n, smF]
    refine Prod.ext rfl ?_
    show _ + _ + _ = _ + (_ + _)
    rw [Int.add_assoc]; rfl
theorem counts_iff : counts c xs = true ↔ CntM c (Mm.of c xs) := by
  unfold counts CntM
  rw [countsF_sm, Bool.and_eq_true, beq_iff_eq, beq_iff_eq]
  exact Iff.rfl
def slB (c : Cf) (m : Mm) (q k : Int) : Nat → List Pt
  | 0 => []
  | n + 1 => slB c m q k n ++ bif bitAt (m.slots q) n then [⟨2, (q + 1) * pgB c.s + n * szB c.s k, szB c.s k⟩] else []
def blkP (c : Cf) (m : Mm) (q : Int) : List Pt := bif (ifM m q).k == 2 then [⟨2, (q + 1) * pgB c.s, (ifM m q).l * pgB c.s⟩] else bif (ifM m q).k == 3 then slB c m q (ifM m q).c (kSlots (ifM m q).c).toNat else []
def blkF (c : Cf) (m : Mm) : Nat → List Pt
  | 0 => []
  | n + 1 => blkF c m n ++ blkP c m n
theorem slB_of (g k : Int) : ∀ n : Nat, (slabF c xs g k n).filter (fun x => x.k == 2) = slB c (Mm.of c xs) g k n
  | 0 => rfl
  | n + 1 => by
    have e : (slabKind c xs g n == 2) = bitAt (cel xs (c.slots g)) n := by
      unfold slabKind
      cases bitAt (cel xs (c.slots g)) n <;> cases bitAt (cel xs (c.taken g)) n <;> rfl
    simp only [slabF, slB, List.filter_append, slB_of g k n]
    congr 1
    simp only [slabPt, List.filter_cons, List.filter_nil, e]
    show _ = bif bitAt (cel xs (c.slots g)) n then _ else _
    cases h : bitAt (cel xs (c.slots g)) n with
    | true =>
      have : slabKind c xs g n = 2 := by rw [h] at e; simpa using e
      simp [this]
    | false => simp
theorem blkP_of (g : Int) : (partsOf c xs g).filter (fun x => x.k == 2) = blkP c (Mm.of c xs) g := by
  unfold partsOf blkP
  have e : ifM (Mm.of c xs) g = aInfo c xs g := rfl
  rw [e]
  simp only
  cases h2 : (aInfo c xs g).k == 2 with
  | true =>
    have h2' : (aInfo c xs g).k = 2 := by simpa using h2
    simp [h2']
  | false =>
    cases h1 : (aInfo c xs g).k == 1 with
    | true =>
      have h1' : (aInfo c xs g).k = 1 := by simpa using h1
      simp [h1']
    | false =>
      cases h3 : (aInfo c xs g).k == 3 with
      | false => simp
      | true =>
        simp only [Bool.or_self, cond_false, cond_true]
        unfold slabL
        cases decide (0 < slabRest c (aInfo c xs g).c) with
        | false => simp only [cond_false]; exact slB_of _ _ _
        | true =>
          simp only [cond_true, List.filter_append, slB_of]
          simp
theorem blkF_of : ∀ n : Nat, (partsF c xs n).filter (fun x => x.k == 2) = blkF c (Mm.of c xs) n
  | 0 => rfl
  | n + 1 => by rw [partsF, List.filter_append, blkF_of n, blkP_of]; rfl
theorem blocks_eq : blocksL c xs = blkF c (Mm.of c xs) c.p.toNat := blkF_of _
theorem blkF_congr {m m' : Mm} : ∀ {n : Nat}, (∀ q : Int, 0 ≤ q → q < n → blkP c m' q = blkP c m q) → blkF c m' n = blkF c m n
  | 0, _ => rfl
  | n + 1, h => by
    simp only [blkF]
    rw [blkF_congr (n := n) fun q a b => h q a (by push_cast; omega), h n (by omega) (by push_cast; omega)]
theorem blkP_congr {m m' : Mm} {q : Int} (h1 : m'.info q = m.info q) (h2 : m'.slots q = m.slots q) : blkP c m' q = blkP c m q := by
  have e : ifM m' q = ifM m q := by unfold ifM; rw [h1]
  have e2 : ∀ k n, slB c m' q k n = slB c m q k n := fun k n => by
    induction n with
    | zero => rfl
    | succ n ih => simp only [slB, ih, h2]
  unfold blkP
  rw [e, e2]
theorem mem_blkF {m : Mm} {x : Pt} : ∀ {n : Nat}, x ∈ blkF c m n ↔ ∃ q : Int, 0 ≤ q ∧ q < n ∧ x ∈ blkP c m q
  | 0 => by
    constructor
    · intro h; cases h
    · rintro ⟨q, h1, h2, _⟩; omega
  | n + 1 => by
    rw [blkF, List.mem_append, mem_blkF (n := n)]
    constructor
    · rintro (⟨q, h1, h2, h3⟩ | h)
      · exact ⟨q, h1, by push_cast; omega, h3⟩
      · exact ⟨n, by omega, by push_cast; omega, h⟩
    · rintro ⟨q, h1, h2, h3⟩
      by_cases e : q = n
      · subst e; exact .inr h3
      · exact .inl ⟨q, h1, by push_cast at h2; omega, h3⟩
def RootM (c : Cf) (m : Mm) : Prop := ∀ k : Int, 0 ≤ k → k < 8 → m.root k = 0 ∨ ∃ x ∈ blkF c m c.p.toNat, x.a = m.root k
theorem rootsF_iff (l : List Int) : ∀ k : Nat, rootsF xs l k = true ↔ ∀ q : Int, 8 - k ≤ q → q < 8 → (cel xs (cRoot q) = 0 ∨ cel xs (cRoot q) ∈ l)
  | 0 => by
    simp only [rootsF, true_iff]
    intro q h1 h2; omega
  | k + 1 => by
    have e : rootsF xs l (k + 1) = ((cel xs (cRoot (8 - (k + 1 : Nat))) == 0 || l.contains (cel xs (cRoot (8 - (k + 1 : Nat))))) && rootsF xs l k) := by
      simp only [rootsF, bne]
      cases cel xs (cRoot (8 - (k + 1 : Nat))) == 0 <;> cases l.contains (cel xs (cRoot (8 - (k + 1 : Nat)))) <;> simp
    rw [e]
    exact uptoN (P := fun q => cel xs (cRoot q) = 0 ∨ cel xs (cRoot q) ∈ l) (by simp) (rootsF_iff l k)
theorem roots_iff : rootsOk c xs = true ↔ RootM c (Mm.of c xs) := by
  unfold rootsOk RootM
  rw [rootsF_iff, blocks_eq]
  constructor
  · intro h k g1 g2
    rcases h k (by omega) g2 with h | h
    · exact .inl h
    · obtain ⟨x, h1, h2⟩ := List.mem_map.1 h
      exact .inr ⟨x, h1, h2⟩
  · intro h k g1 g2
    rcases h k (by omega) g2 with h | ⟨x, h1, h2⟩
    · exact .inl h
    · exact .inr (List.mem_map.2 ⟨x, h1, h2⟩)
structure SoundM (c : Cf) (m : Mm) (L : List Sp) : Prop where
  snd : SndM c m L
  cnt : CntM c m
  rts : RootM c m
theorem sound_iff (hb : bdAll xs) : soundA c xs = true ↔ AGood c xs ∧ ∃ L, SoundM c (Mm.of c xs) L := by
  constructor
  · intro h
    obtain ⟨h1, ⟨L, h2⟩, h3, h4⟩ := snd_of hb h
    exact ⟨h1, L, h2, counts_iff.1 h3, roots_iff.1 h4⟩
  · rintro ⟨h1, L, h2⟩
    exact snd_to h1 h2.snd (counts_iff.2 h2.cnt) (roots_iff.2 h2.rts)
end
end Go.Proofs.Ytajcpopikdpcmaa
namespace Go.Proofs.Ytajcpopikdpcmaa
open Go.Sl
structure MEq (c : Cf) (m m' : Mm) : Prop where
  info : ∀ q : Int, 0 ≤ q → q < c.p → m'.info q = m.info q
  foot : ∀ q : Int, 0 ≤ q → q < c.p → m'.foot q = m.foot q
  next : ∀ q : Int, 0 ≤ q → q < c.p → m'.next q = m.next q
  prev : ∀ q : Int, 0 ≤ q → q < c.p → m'.prev q = m.prev q
  slots : ∀ q : Int, 0 ≤ q → q < c.p → m'.slots q = m.slots q
  taken : ∀ q : Int, 0 ≤ q → q < c.p → m'.taken q = m.taken q
  bin : ∀ k : Int, 0 ≤ k → k < 11 → m'.bin k = m.bin k
  rack : ∀ k : Int, 0 ≤ k → k < 9 → m'.rack k = m.rack k
  root : ∀ k : Int, 0 ≤ k → k < 8 → m'.root k = m.root k
  fr : m'.fr = m.fr
  lv : m'.lv = m.lv
section
variable {c : Cf} {m m' : Mm}
theorem ifM_eq {q : Int} (h : m'.info q = m.info q) : ifM m' q = ifM m q := by unfold ifM; rw [h]
theorem inM_eq {q : Int} (h : m'.info q = m.info q) (h2 : m'.taken q = m.taken q) : inM m' q = inM m q := by unfold inM; rw [ifM_eq h, h2]
theorem binM_eq {q : Int} (h : m'.info q = m.info q) (k : Int) : binM m' k q = binM m k q := by unfold binM; rw [ifM_eq h]
theorem rackM_eq {q : Int} (h : m'.info q = m.info q) (h2 : m'.taken q = m.taken q) (k : Int) : rackM m' k q = rackM m k q := by unfold rackM; rw [ifM_eq h, h2]
theorem badM_eq {q : Int} (h : m'.info q = m.info q) (h1 : m'.slots q = m.slots q) (h2 : m'.taken q = m.taken q) (b : Int) : badM m' q b = badM m q b := by unfold badM; rw [ifM_eq h, h1, h2]
theorem LsOk.of_eq {h : Hq} {g g' : Int → Bool} {l : List Int} (H : LsOk c m h g l) (e0 : m'.hd h = m.hd h) (e1 : ∀ q ∈ l, m'.next q = m.next q) (e2 : ∀ q ∈ l, m'.prev q = m.prev q) (e3 : ∀ q : Int, 0 ≤ q → q < c.p → g' q = g q) : LsOk c m' h g' l := by
  obtain ⟨⟨b', h1⟩, h2, h3⟩ := H
  refine ⟨⟨b', ?_⟩, h2, fun q => ?_⟩
  · rw [e0]; exact Sg'.of_eq h1 e1 e2
  · rw [h3 q]
    constructor
    · rintro ⟨a, b⟩; exact ⟨a, by rw [e3 q a.1 a.2]; exact b⟩
    · rintro ⟨a, b⟩; exact ⟨a, by rw [← e3 q a.1 a.2]; exact b⟩
theorem LsOk.pg {h : Hq} {g : Int → Bool} {l : List Int} (H : LsOk c m h g l) {q : Int} (hq : q ∈ l) : 0 ≤ q ∧ q < c.p := ((H.2.2 q).1 hq).1
theorem SndM.congr {L : List Sp} (S : SndM c m L) (e : MEq c m m') : SndM c m' L :=
  { tl := Tl.of_eq S.tl (fun q a b => e.info q a b) fun q a b => e.foot q a b
    ap := S.ap
    bits := fun q a b k g1 g2 => by rw [badM_eq (e.info q a b) (e.slots q a b) (e.taken q a b)]; exact S.bits q a b k g1 g2
    some := fun q a b => by rw [ifM_eq (e.info q a b), e.taken q a b]; exact S.some q a b
    bins := fun k a b => by
      obtain ⟨l, h⟩ := S.bins k a b
      exact ⟨l, h.of_eq (e.bin k a b) (fun q hq => e.next q (h.pg hq).1 (h.pg hq).2) (fun q hq => e.prev q (h.pg hq).1 (h.pg hq).2) fun q g1 g2 => binM_eq (e.info q g1 g2) k⟩
    racks := fun k a b => by
      obtain ⟨l, h⟩ := S.racks k a b
      exact ⟨l, h.of_eq (e.rack k a b) (fun q hq => e.next q (h.pg hq).1 (h.pg hq).2) (fun q hq => e.prev q (h.pg hq).1 (h.pg hq).2) fun q g1 g2 => rackM_eq (e.info q g1 g2) (e.taken q g1 g2) k⟩
    loose := fun q a b => by rw [inM_eq (e.info q a b) (e.taken q a b), e.next q a b, e.prev q a b]; exact S.loose q a b }
theorem frP_eq {q : Int} (h : m'.info q = m.info q) : frP m' q = frP m q := by unfold frP; rw [ifM_eq h]
theorem lvP_eq {q : Int} (h : m'.info q = m.info q) (h1 : m'.slots q = m.slots q) : lvP m' q = lvP m q := by unfold lvP; rw [ifM_eq h, h1]
theorem blkF_eq (h : ∀ q : Int, 0 ≤ q → q < c.p → m'.info q = m.info q) (h1 : ∀ q : Int, 0 ≤ q → q < c.p → m'.slots q = m.slots q) : blkF c m' c.p.toNat = blkF c m c.p.toNat := blkF_congr fun q a b => blkP_congr (h q a (by omega)) (h1 q a (by omega))
theorem CntM.congr (S : CntM c m) (e : MEq c m m') : CntM c m' := by
  unfold CntM at *
  rw [e.fr, e.lv, smF_congr (f := frP m') (g := frP m) fun q a b => frP_eq (e.info q a (by omega)), smF_congr (f := lvP m') (g := lvP m) fun q a b => lvP_eq (e.info q a (by omega)) (e.slots q a (by omega))]
  exact S
theorem RootM.congr (S : RootM c m) (e : MEq c m m') : RootM c m' := fun k a b => by
  rw [e.root k a b, blkF_eq e.info e.slots]; exact S k a b
theorem SoundM.congr {L : List Sp} (S : SoundM c m L) (e : MEq c m m') : SoundM c m' L := ⟨S.snd.congr e, S.cnt.congr e, S.rts.congr e⟩
end
end Go.Proofs.Ytajcpopikdpcmaa
namespace Go.Proofs.Ytajcpopikdpcmaa
open Go.Sl
structure ListsM (c : Cf) (m : Mm) (G : Hq → Int → Bool) : Prop where
  ls : ∀ h : Hq, h.ok → ∃ l, LsOk c m h (G h) l
  lo : ∀ q : Int, 0 ≤ q → q < c.p → (∃ h : Hq, h.ok ∧ G h q = true) ∨ (m.next q = 0 ∧ m.prev q = 0)
  one : ∀ h h' : Hq, h.ok → h'.ok → h ≠ h' → ∀ q : Int, 0 ≤ q → q < c.p → G h q = true → G h' q = true → False
def gAdd (G : Hq → Int → Bool) (h : Hq) (a : Int) : Hq → Int → Bool := fun h' q => G h' q || (decide (h' = h) && decide (q = a))
def gDel (G : Hq → Int → Bool) (h : Hq) (a : Int) : Hq → Int → Bool := fun h' q => G h' q && !(decide (h' = h) && decide (q = a))
section
variable {c : Cf} {m : Mm} {G : Hq → Int → Bool} {h : Hq} {a : Int}
theorem DL.hd_in {l : List Int} (H : DL m c.p h l) (h0 : m.hd h ≠ 0) : m.hd h - 1 ∈ l := by
  obtain ⟨b', H⟩ := H
  cases l with
  | nil => exact absurd H.1 h0
  | cons x r => have := H.1; simp only [List.mem_cons]; left; omega
theorem ListsM.hd_ok (S : ListsM c m G) (hh : h.ok) : m.hd h = 0 ∨ (0 ≤ m.hd h - 1 ∧ m.hd h - 1 < c.p) := by
  obtain ⟨l, H⟩ := S.ls h hh
  by_cases h0 : m.hd h = 0
  · exact .inl h0
  · exact .inr (H.pg (DL.hd_in (c := c) H.1 h0))
theorem ListsM.push (S : ListsM c m G) (hh : h.ok) (ha : 0 ≤ a ∧ a < c.p) (hn : ∀ h' : Hq, h'.ok → G h' a = false) : ListsM c (mPush m h a) (gAdd G h a) := by
  obtain ⟨l, H⟩ := S.ls h hh
  have hal : a ∉ l := fun e => by have := ((H.2.2 a).1 e).2; rw [hn h hh] at this; cases this
  refine ⟨fun h' hh' => ?_, fun q g1 g2 => ?_, fun h1 h2 k1 k2 hne q g1 g2 e1 e2 => ?_⟩
  · by_cases e : h' = h
    · subst e
      refine ⟨a :: l, push_list H.1 ha hal H.2.1, List.nodup_cons.2 ⟨hal, H.2.1⟩, fun q => ?_⟩
      simp only [List.mem_cons, gAdd, decide_true, Bool.true_and, Bool.or_eq_true, decide_eq_true_eq]
      rw [H.2.2 q]
      constructor
      · rintro (rfl | ⟨b1, b2⟩)
        · exact ⟨ha, .inr rfl⟩
        · exact ⟨b1, .inl b2⟩
      · rintro ⟨b1, b2 | b2⟩
        · exact .inr ⟨b1, b2⟩
        · exact .inl b2
    · obtain ⟨l', H'⟩ := S.ls h' hh'
      have hal' : a ∉ l' := fun e => by have := ((H'.2.2 a).1 e).2; rw [hn h' hh'] at this; cases this
      refine ⟨l', push_other H.1 H'.1 e hal' (fun y b1 b2 => ?_), H'.2.1, fun q => ?_⟩
      · have c1 := (H.2.2 y).1 b1
        have c2 := (H'.2.2 y).1 b2
        exact S.one h' h hh' hh e y c1.1.1 c1.1.2 c2.2 c1.2
      · rw [H'.2.2 q]
        have : decide (h' = h) = false := by simpa using e
        simp only [gAdd, this, Bool.false_and, Bool.or_false]
  · by_cases e : q = a
    · left; exact ⟨h, hh, by simp [gAdd, e]⟩
    · rcases S.lo q g1 g2 with ⟨h', k1, k2⟩ | ⟨k1, k2⟩
      · left; exact ⟨h', k1, by simp [gAdd, k2]⟩
      · by_cases e2 : m.hd h ≠ 0 ∧ q = m.hd h - 1
        · left
          have := (H.2.2 q).1 (by rw [e2.2]; exact DL.hd_in (c := c) H.1 e2.1)
          exact ⟨h, hh, by simp [gAdd, this.2]⟩
        · right
          rw [push_next, push_prev, if_neg e, if_neg e2, if_neg e]
          exact ⟨k1, k2⟩
  · simp only [gAdd, Bool.or_eq_true, Bool.and_eq_true, decide_eq_true_eq] at e1 e2
    rcases e1 with e1 | ⟨e1, f1⟩ <;> rcases e2 with e2 | ⟨e2, f2⟩
    · exact S.one h1 h2 k1 k2 hne q g1 g2 e1 e2
    · rw [f2, hn h1 k1] at e1; cases e1
    · rw [f1, hn h2 k2] at e2; cases e2
    · exact hne (e1.trans e2.symm)
theorem nb_in {l1 l2 : List Int} (H : DL m c.p h (l1 ++ a :: l2)) : (m.next a ≠ 0 → m.next a - 1 ∈ l2) ∧ (m.prev a ≠ 0 → m.prev a - 1 ∈ l1) := by
  obtain ⟨b', H⟩ := H
  obtain ⟨q1, b1, H1, H2⟩ := Sg'.app.1 H
  obtain ⟨e1, e2, e3, e4⟩ := H2
  constructor
  · intro h0
    cases l2 with
    | nil => exact absurd e4.1 h0
    | cons x r => have := e4.1; simp only [List.mem_cons]; left; omega
  · intro h0
    cases l1 with
    | nil => have h2 := H1.2; exact absurd (e3.trans h2.symm) h0
    | cons x r =>
      obtain ⟨y, hy, e⟩ := Sg'.last H1 (by simp)
      rw [e3, e]; simpa using hy
theorem ListsM.nb_ok (S : ListsM c m G) (hh : h.ok) (ha : 0 ≤ a ∧ a < c.p) (hg : G h a = true) : (m.next a = 0 ∨ (0 ≤ m.next a - 1 ∧ m.next a - 1 < c.p)) ∧ (m.prev a = 0 ∨ (0 ≤ m.prev a - 1 ∧ m.prev a - 1 < c.p)) := by
  obtain ⟨l, H⟩ := S.ls h hh
  obtain ⟨l1, l2, e⟩ := List.append_of_mem ((H.2.2 a).2 ⟨ha, hg⟩)
  subst e
  have hn := nb_in (c := c) H.1
  constructor
  · by_cases h0 : m.next a = 0
    · exact .inl h0
    · exact .inr (H.pg (by simp [hn.1 h0]))
  · by_cases h0 : m.prev a = 0
    · exact .inl h0
    · exact .inr (H.pg (by simp [hn.2 h0]))
theorem ListsM.pull (S : ListsM c m G) (hh : h.ok) (ha : 0 ≤ a ∧ a < c.p) (hg : G h a = true) : ListsM c (mPull m h a) (gDel G h a) := by
  obtain ⟨l, H⟩ := S.ls h hh
  have hal := (H.2.2 a).2 ⟨ha, hg⟩
  obtain ⟨l1, l2, e⟩ := List.append_of_mem hal
  subst e
  have hnd := H.2.1
  have hnb := nb_in (c := c) H.1
  have hna : a ∉ l1 ++ l2 := by
    have := hnd
    rw [List.nodup_append] at this
    obtain ⟨n1, n2, n3⟩ := this
    have n4 := List.nodup_cons.1 n2
    rw [List.mem_append]
    rintro (e | e)
    · exact n3 a e a (by simp) rfl
    · exact n4.1 e
  refine ⟨fun h' hh' => ?_, fun q g1 g2 => ?_, fun h1 h2 k1 k2 hne q g1 g2 e1 e2 => ?_⟩
  · by_cases e : h' = h
    · subst e
      refine ⟨l1 ++ l2, pull_list H.1 hnd, ?_, fun q => ?_⟩
      · exact hnd.sublist (List.Sublist.append (List.Sublist.refl l1) (List.sublist_cons_self a l2))
      · simp only [gDel, decide_true, Bool.true_and, Bool.and_eq_true, Bool.not_eq_true', decide_eq_false_iff_not]
        have hq := H.2.2 q
        constructor
        · intro hm
          have h5 := hq.1 (by simp only [List.mem_append, List.mem_cons] at hm ⊢; rcases hm with hm | hm; exact .inl hm; exact .inr (.inr hm))
          exact ⟨h5.1, h5.2, fun e => hna (e ▸ hm)⟩
        · rintro ⟨b1, b2, b3⟩
          have := hq.2 ⟨b1, b2⟩
          simp only [List.mem_append, List.mem_cons] at this ⊢
          rcases this with h5 | h5 | h5
          · exact .inl h5
          · exact absurd h5 b3
          · exact .inr h5
    · obtain ⟨l', H'⟩ := S.ls h' hh'
      refine ⟨l', pull_other H.1 hal H'.1 e (fun y b1 b2 => ?_), H'.2.1, fun q => ?_⟩
      · have c1 := (H.2.2 y).1 b1
        have c2 := (H'.2.2 y).1 b2
        exact S.one h' h hh' hh e y c1.1.1 c1.1.2 c2.2 c1.2
      · rw [H'.2.2 q]
        have : decide (h' = h) = false := by simpa using e
        simp only [gDel, this, Bool.false_and, Bool.not_false, Bool.and_true]
  · by_cases e : q = a
    · right; rw [pull_next, pull_prev, if_pos e, if_pos e]; exact ⟨rfl, rfl⟩
    · rcases S.lo q g1 g2 with ⟨h', k1, k2⟩ | ⟨k1, k2⟩
      · left; exact ⟨h', k1, by simp [gDel, k2, e]⟩
      · by_cases e1 : m.prev a ≠ 0 ∧ q = m.prev a - 1
        · left
          have := (H.2.2 q).1 (by rw [e1.2]; simp [hnb.2 e1.1])
          exact ⟨h, hh, by simp [gDel, this.2, e]⟩
        · by_cases e2 : m.next a ≠ 0 ∧ q = m.next a - 1
          · left
            have := (H.2.2 q).1 (by rw [e2.2]; simp [hnb.1 e2.1])
            exact ⟨h, hh, by simp [gDel, this.2, e]⟩
          · right
            rw [pull_next, pull_prev, if_neg e, if_neg e, if_neg e1, if_neg e2]
            exact ⟨k1, k2⟩
  · simp only [gDel, Bool.and_eq_true] at e1 e2
    exact S.one h1 h2 k1 k2 hne q g1 g2 e1.1 e2.1
def gM (m : Mm) : Hq → Int → Bool
  | .bin k => binM m k
  | .rack k => rackM m k
structure ShapeM (c : Cf) (m : Mm) (L : List Sp) : Prop where
  tl : Tl m 0 L c.p
  ap : ∀ i : Nat, i + 1 < L.length → ¬ ((L.getD i ⟨0, 0, 0⟩).k = 1 ∧ (L.getD (i + 1) ⟨0, 0, 0⟩).k = 1)
  bits : ∀ q : Int, 0 ≤ q → q < c.p → ∀ b : Int, 0 ≤ b → b < 32 → badM m q b = false
  some : ∀ q : Int, 0 ≤ q → q < c.p → ((ifM m q).k == 3 && m.taken q == 0) = false
theorem logI_bd {n : Int} (h : 1 ≤ n ∧ n ≤ 1024) : 0 ≤ logI n ∧ logI n < 11 := by
  unfold logI
  rw [if_neg (by omega)]
  have : Nat.log2 n.toNat < 11 := (Nat.log2_lt (by omega)).2 (by omega)
  omega
theorem iGet_one {v : Int} (h : (iGet v).k = 1) : 1 ≤ (iGet v).l ∧ (iGet v).l ≤ 1024 := by
  have := iGet_right v
  rw [h] at this
  have e : (decide (1 ≤ (iGet v).l) && decide ((iGet v).l ≤ 1024) && ((iGet v).c == 0)) = true := this
  simp only [Bool.and_eq_true, decide_eq_true_eq] at e
  exact e.1
theorem iGet_three {v : Int} (h : (iGet v).k = 3) : 0 ≤ (iGet v).c ∧ (iGet v).c ≤ 8 ∧ (iGet v).l = 1 := by
  have := iGet_right v
  rw [h] at this
  have e : ((iGet v).l == 1 && (decide (0 ≤ (iGet v).c) && decide ((iGet v).c ≤ 8))) = true := this
  simp only [Bool.and_eq_true, decide_eq_true_eq, beq_iff_eq] at e
  exact ⟨e.2.1, e.2.2, e.1⟩
theorem snd_iff {L : List Sp} : SndM c m L ↔ ShapeM c m L ∧ ListsM c m (gM m) := by
  constructor
  · intro S
    refine ⟨⟨S.tl, S.ap, S.bits, S.some⟩, fun h hh => ?_, fun q g1 g2 => ?_, fun h h' k1 k2 hne q g1 g2 e1 e2 => ?_⟩
    · cases h with
      | bin k => exact S.bins k hh.1 hh.2
      | rack k => exact S.racks k hh.1 hh.2
    · rcases S.loose q g1 g2 with h | h
      · left
        unfold inM at h
        simp only [Bool.or_eq_true, beq_iff_eq, Bool.and_eq_true] at h
        rcases h with h | ⟨h, h2⟩
        · refine ⟨.bin (logI (ifM m q).l), logI_bd (iGet_one h), ?_⟩
          simp [gM, binM, h]
        · refine ⟨.rack (ifM m q).c, (by have := iGet_three h; exact ⟨this.1, (by have := this.2.1; show (iGet (m.info q)).c < 9; omega)⟩), ?_⟩
          simp only [gM, rackM, h, h2, beq_self_eq_true, Bool.and_true]
      · exact .inr h
    · cases h with
      | bin k =>
        cases h' with
        | bin k' =>
          simp only [gM, binM, Bool.and_eq_true, beq_iff_eq] at e1 e2
          exact hne (by rw [← e1.2, e2.2])
        | rack k' =>
          simp only [gM, binM, rackM, Bool.and_eq_true, beq_iff_eq] at e1 e2
          rw [e1.1] at e2; exact absurd e2.1.1 (by decide)
      | rack k =>
        cases h' with
        | bin k' =>
          simp only [gM, binM, rackM, Bool.and_eq_true, beq_iff_eq] at e1 e2
          rw [e2.1] at e1; exact absurd e1.1.1 (by decide)
        | rack k' =>
          simp only [gM, rackM, Bool.and_eq_true, beq_iff_eq] at e1 e2
          exact hne (by rw [← e1.1.2, e2.1.2])
  · rintro ⟨S, T⟩
    exact
      { tl := S.tl, ap := S.ap, bits := S.bits, some := S.some
        bins := fun k a b => T.ls (.bin k) ⟨a, b⟩
        racks := fun k a b => T.ls (.rack k) ⟨a, b⟩
        loose := fun q a b => by
          rcases T.lo q a b with ⟨h, h1, h2⟩ | h
          · left
            cases h with
            | bin k =>
              simp only [gM, binM, Bool.and_eq_true] at h2
              simp only [inM, h2.1, Bool.true_or]
            | rack k =>
              simp only [gM, rackM, Bool.and_eq_true] at h2
              have e : (ifM m q).c = k := by simpa using h2.1.2
              simp only [inM, h2.1.1, e, h2.2, Bool.and_true, Bool.or_true]
          · exact .inr h }
theorem ListsM.of_eq {m' : Mm} {G' : Hq → Int → Bool} (S : ListsM c m G) (e0 : ∀ h : Hq, m'.hd h = m.hd h) (e1 : m'.next = m.next) (e2 : m'.prev = m.prev) (e3 : ∀ h : Hq, h.ok → ∀ q : Int, 0 ≤ q → q < c.p → G' h q = G h q) : ListsM c m' G' where
  ls := fun h hh => by
    obtain ⟨l, H⟩ := S.ls h hh
    exact ⟨l, H.of_eq (e0 h) (fun q _ => by rw [e1]) (fun q _ => by rw [e2]) (e3 h hh)⟩
  lo := fun q g1 g2 => by
    rw [e1, e2]
    rcases S.lo q g1 g2 with ⟨h, k1, k2⟩ | k
    · exact .inl ⟨h, k1, by rw [e3 h k1 q g1 g2]; exact k2⟩
    · exact .inr k
  one := fun h h' k1 k2 hne q g1 g2 a b => S.one h h' k1 k2 hne q g1 g2 (by rw [← e3 h k1 q g1 g2]; exact a) (by rw [← e3 h' k2 q g1 g2]; exact b)
end
end Go.Proofs.Ytajcpopikdpcmaa
namespace Go.Proofs.Ytajcpopikdpcmaa
open Go.Sl
theorem iRight_bd {k l x : Int} (h : iRight k l x = true) : (0 ≤ k ∧ k ≤ 3) ∧ (0 ≤ l ∧ l ≤ 1024) ∧ 0 ≤ x ∧ x ≤ 8 := by
  unfold iRight at h
  cases h0 : k == 0 with
  | true =>
    rw [h0] at h
    simp only [cond_true, Bool.and_eq_true, beq_iff_eq] at h h0
    omega
  | false =>
    rw [h0] at h
    simp only [cond_false] at h
    cases h1 : (k == 1 || k == 2) with
    | true =>
      rw [h1] at h
      simp only [cond_true, Bool.and_eq_true, decide_eq_true_eq, beq_iff_eq, Bool.or_eq_true] at h h1
      omega
    | false =>
      rw [h1] at h
      simp only [cond_false] at h
      cases h3 : k == 3 with
      | false => rw [h3] at h; cases h
      | true =>
        rw [h3] at h
        simp only [cond_true, Bool.and_eq_true, decide_eq_true_eq, beq_iff_eq] at h h3
        omega
theorem iVal_get {k l x : Int} (h : iRight k l x = true) : iGet (iVal k l x) = ⟨k, l, x⟩ ∧ infoOk (iVal k l x) = true ∧ nv (iVal k l x) = iVal k l x := by
  have hb := iRight_bd h
  have e : iVal k l x = k + 16 * l + 65536 * x := by unfold iVal; rw [h]; rfl
  have e1 : (k + 16 * l + 65536 * x) % 16 = k := by omega
  have e2 : (k + 16 * l + 65536 * x) / 16 % 4096 = l := by omega
  have e3 : (k + 16 * l + 65536 * x) / 65536 = x := by omega
  rw [e]
  unfold iGet infoOk
  rw [e1, e2, e3, h]
  exact ⟨rfl, rfl, by unfold nv; omega⟩
section
variable {c : Cf} {m : Mm} {s : VS} {a n : Int}
def mSpan (m : Mm) (k a n : Int) : Mm := { m with info := fset m.info a (iVal k n 0), foot := fset m.foot (a + n - 1) (nv (a + 1)) }
def mAdd (m : Mm) (a n : Int) : Mm := mPush (mSpan m 1 a n) (.bin (logI n)) a
theorem span_right {k : Int} (hk : k = 1 ∨ k = 2) (hn : 1 ≤ n ∧ n ≤ 1024) : iRight k n 0 = true := by
  rcases hk with rfl | rfl <;> simp [iRight, hn]
theorem nvnv (x : Int) : nv (nv x) = nv x := by unfold nv; omega
theorem add_at (h : At c s m) (ha : 0 ≤ a ∧ a < c.p) (hn : 1 ≤ n ∧ n ≤ c.p - a) (hh : m.bin (logI n) = 0 ∨ (0 ≤ m.bin (logI n) - 1 ∧ m.bin (logI n) - 1 < c.p)) : At c ((pAdd c a n).run s).1 (mAdd m a n) := by
  have hp := Cf.ok_iff.1 h.ok
  have hb := logI_bd (n := n) (by omega)
  have hr := iVal_get (span_right (n := n) (.inl rfl) (by omega))
  have eb : binOf n = logI n := by
    unfold binOf
    have : decide (n > 1024) = false := by simp; omega
    rw [this]; rfl
  unfold pAdd
  have e : (c.page a && (decide (1 ≤ n) && decide (n ≤ c.p - a))) = true := by
    rw [Cf.page_iff.2 ha]; simp [hn]
  rw [e, cond_true]
  simp only [Pg.run_put]
  have h1 := (h.set_info ha (iVal 1 n 0)).set_foot (g := a + n - 1) (by omega) (nv (a + 1))
  rw [hr.2.2, nvnv] at h1
  rw [eb]
  exact push_at (q := .bin (logI n)) h1 hb ha hh
theorem used_at (h : At c s m) (ha : 0 ≤ a ∧ a < c.p) (hn : 1 ≤ n ∧ n ≤ c.p - a) : At c ((pUsed c a n).run s).1 (mSpan m 2 a n) := by
  have hp := Cf.ok_iff.1 h.ok
  have hr := iVal_get (span_right (n := n) (.inr rfl) (by omega))
  unfold pUsed
  simp only [Pg.run_put, Pg.run_ret]
  have h1 := (h.set_info ha (iVal 2 n 0)).set_foot (g := a + n - 1) (by omega) (nv (a + 1))
  rw [hr.2.2, nvnv] at h1
  exact h1
def mDrop (m : Mm) (a : Int) : Mm := mPull m (.bin (logI (ifM m a).l)) a
theorem free_at (h : At c s m) (ha : 0 ≤ a ∧ a < c.p) : At c ((pFree c a).run s).1 m ∧ ((pFree c a).run s).2 = bif (ifM m a).k == 1 then (ifM m a).l else 0 := by
  unfold pFree
  simp only [Pg.run_get, Pg.run_ret]
  rw [h.get_info ha]
  exact ⟨h.read _, rfl⟩
theorem drop_at' {G : Hq → Int → Bool} (h : At c s m) (ha : 0 ≤ a ∧ a < c.p) (hk : (ifM m a).k = 1) (S : ListsM c m G) (hG : G (.bin (logI (ifM m a).l)) a = true) : At c ((pDrop c a).run s).1 (mDrop m a) ∧ ((pDrop c a).run s).2 = (ifM m a).l := by
  have hl := iGet_one hk
  have hb := logI_bd hl
  have hl' : 1 ≤ (ifM m a).l ∧ (ifM m a).l ≤ 1024 := hl
  have eb : binOf (ifM m a).l = logI (ifM m a).l := by
    unfold binOf
    have : decide ((ifM m a).l > 1024) = false := by simp; omega
    rw [this]; rfl
  obtain ⟨f1, f2⟩ := free_at h ha
  rw [hk] at f2
  unfold pDrop
  rw [Cf.page_iff.2 ha, cond_true]
  simp only [Pg.run_bind, Pg.run_ret, f2, beq_self_eq_true, cond_true]
  have e : decide (0 < (ifM m a).l) = true := by simp; omega
  rw [e, cond_true, eb]
  have hn := S.nb_ok (h := .bin (logI (ifM m a).l)) hb ha hG
  exact ⟨pull_at (q := .bin (logI (ifM m a).l)) f1 hb ha hn.1 hn.2, trivial⟩
theorem iGet_zero : iGet 0 = ⟨0, 0, 0⟩ := rfl
theorem Tl.at {b q : Int} : ∀ {L : List Sp} {a : Int}, Tl m a L b → a ≤ q → q < b → (ifM m q).k ≠ 0 → ∃ L1 x L2, L = L1 ++ x :: L2 ∧ Tl m a L1 q ∧ Spn m q x ∧ Tl m (q + x.l) L2 b
  | [], a, h, h1, h2, _ => by have h : a = b := h; omega
  | x :: L, a, ⟨h, hr⟩, h1, h2, h3 => by
    by_cases e : q = a
    · subst e; exact ⟨[], x, L, rfl, rfl, h, hr⟩
    · by_cases e2 : q < a + x.l
      · exfalso
        apply h3
        unfold ifM
        rw [h.in0 q (by omega) e2, iGet_zero]
      · obtain ⟨L1, y, L2, g1, g2, g3, g4⟩ := Tl.at hr (by omega) h2 h3
        exact ⟨x :: L1, y, L2, by rw [g1]; rfl, ⟨h, g2⟩, g3, g4⟩
theorem info_one {v : Int} (h : (iGet v).k = 1) (h2 : infoOk v = true) : v = iVal 1 (iGet v).l 0 := by
  have hb := iGet_one h
  unfold iVal
  rw [span_right (.inl rfl) hb]
  simp only [cond_true]
  unfold infoOk at h2
  unfold iGet at h ⊢
  rw [h2] at h ⊢
  simp only [cond_true] at h ⊢
  have hr := h2
  rw [h] at hr
  have e : (decide (1 ≤ v / 16 % 4096) && decide (v / 16 % 4096 ≤ 1024) && (v / 65536 == 0)) = true := hr
  simp only [Bool.and_eq_true, decide_eq_true_eq, beq_iff_eq] at e
  omega
theorem spn_one {x : Sp} (h : Spn m a x) (hk : (ifM m a).k = 1) : x.l = (ifM m a).l ∧ m.info a = iVal 1 x.l 0 ∧ m.foot (a + x.l - 1) = nv (a + 1) := by
  have e : x.l = (ifM m a).l := by unfold ifM; rw [h.inf]
  refine ⟨e, ?_, h.ft⟩
  rw [e]; exact info_one hk h.iok
theorem pull_same (h : Hq) : (mPull m h a).info = m.info ∧ (mPull m h a).foot = m.foot ∧ (mPull m h a).slots = m.slots ∧ (mPull m h a).taken = m.taken ∧ (mPull m h a).root = m.root ∧ (mPull m h a).fr = m.fr ∧ (mPull m h a).lv = m.lv ∧ (mPull m h a).dn = m.dn := by
  unfold mPull
  dsimp only
  cases m.prev a == 0 <;> cases m.next a == 0 <;> cases h <;> exact ⟨rfl, rfl, rfl, rfl, rfl, rfl, rfl, rfl⟩
theorem push_same (h : Hq) : (mPush m h a).info = m.info ∧ (mPush m h a).foot = m.foot ∧ (mPush m h a).slots = m.slots ∧ (mPush m h a).taken = m.taken ∧ (mPush m h a).root = m.root ∧ (mPush m h a).fr = m.fr ∧ (mPush m h a).lv = m.lv ∧ (mPush m h a).dn = m.dn := by
  unfold mPush
  dsimp only
  cases m.hd h == 0 <;> cases h <;> exact ⟨rfl, rfl, rfl, rfl, rfl, rfl, rfl, rfl⟩
theorem back_sound {L : List Sp} (S : SoundM c m L) (ha : 0 ≤ a ∧ a < c.p) (hk : (ifM m a).k = 1) : SoundM c (mAdd (mDrop m a) a (ifM m a).l) L ∧ blkF c (mAdd (mDrop m a) a (ifM m a).l) c.p.toNat = blkF c m c.p.toNat ∧ (mAdd (mDrop m a) a (ifM m a).l).root = m.root := by
  obtain ⟨S1, S2⟩ := snd_iff.1 S.snd
  obtain ⟨L1, x, L2, g1, g2, g3, g4⟩ := Tl.at S1.tl ha.1 ha.2 (by rw [hk]; decide)
  obtain ⟨e1, e2, e3⟩ := spn_one g3 hk
  have hb := logI_bd (iGet_one hk)
  have hG : gM m (.bin (logI (ifM m a).l)) a = true := by simp [gM, binM, hk]
  have T1 := S2.pull (h := .bin (logI (ifM m a).l)) hb ha hG
  have hno : ∀ h' : Hq, h'.ok → gDel (gM m) (.bin (logI (ifM m a).l)) a h' a = false := fun h' hh' => by
    by_cases e : h' = .bin (logI (ifM m a).l)
    · simp [gDel, e]
    · have := S2.one h' (.bin (logI (ifM m a).l)) hh' hb e a ha.1 ha.2
      cases hc : gM m h' a with
      | true => exact absurd hG (fun e => this hc e)
      | false => simp [gDel, hc]
  have ep := pull_same (m := m) (a := a) (.bin (logI (ifM m a).l))
  have eq := push_same (m := mPull m (.bin (logI (ifM m a).l)) a) (a := a) (.bin (logI (ifM m a).l))
  have ei : (mDrop m a).info = m.info := ep.1
  have ef : (mDrop m a).foot = m.foot := ep.2.1
  have es : mSpan (mDrop m a) 1 a (ifM m a).l = mDrop m a := by
    unfold mSpan
    have h1 : fset (mDrop m a).info a (iVal 1 (ifM m a).l 0) = (mDrop m a).info := by
      funext y
      by_cases e : y = a
      · subst e; rw [fset_same, ei, e2, e1]
      · rw [fset_ne e]
    have h2 : fset (mDrop m a).foot (a + (ifM m a).l - 1) (nv (a + 1)) = (mDrop m a).foot := by
      funext y
      by_cases e : y = a + (ifM m a).l - 1
      · subst e; rw [fset_same, ef, ← e1, e3]
      · rw [fset_ne e]
    rw [h1, h2]
  have T2 := T1.push (h := .bin (logI (ifM m a).l)) hb ha hno
  have em : mAdd (mDrop m a) a (ifM m a).l = mPush (mPull m (.bin (logI (ifM m a).l)) a) (.bin (logI (ifM m a).l)) a := by
    unfold mAdd; rw [es]; rfl
  have hi : (mAdd (mDrop m a) a (ifM m a).l).info = m.info := by rw [em]; exact eq.1.trans ep.1
  have hf : (mAdd (mDrop m a) a (ifM m a).l).foot = m.foot := by rw [em]; exact eq.2.1.trans ep.2.1
  have hs : (mAdd (mDrop m a) a (ifM m a).l).slots = m.slots := by rw [em]; exact eq.2.2.1.trans ep.2.2.1
  have ht : (mAdd (mDrop m a) a (ifM m a).l).taken = m.taken := by rw [em]; exact eq.2.2.2.1.trans ep.2.2.2.1
  have hro : (mAdd (mDrop m a) a (ifM m a).l).root = m.root := by rw [em]; exact eq.2.2.2.2.1.trans ep.2.2.2.2.1
  have hfr : (mAdd (mDrop m a) a (ifM m a).l).fr = m.fr := by rw [em]; exact eq.2.2.2.2.2.1.trans ep.2.2.2.2.2.1
  have hlv : (mAdd (mDrop m a) a (ifM m a).l).lv = m.lv := by rw [em]; exact eq.2.2.2.2.2.2.1.trans ep.2.2.2.2.2.2.1
  rw [← em] at T2
  have hblk : blkF c (mAdd (mDrop m a) a (ifM m a).l) c.p.toNat = blkF c m c.p.toNat := blkF_eq (fun q _ _ => by rw [hi]) fun q _ _ => by rw [hs]
  refine ⟨⟨snd_iff.2 ⟨⟨Tl.of_eq S1.tl (fun q _ _ => by rw [hi]) (fun q _ _ => by rw [hf]), S1.ap, fun q a1 a2 b b1 b2 => ?_, fun q a1 a2 => ?_⟩, ?_⟩, ?_, ?_⟩, hblk, hro⟩
  · rw [badM_eq (m := m) (by rw [hi]) (by rw [hs]) (by rw [ht])]; exact S1.bits q a1 a2 b b1 b2
  · rw [ifM_eq (m := m) (by rw [hi]), ht]; exact S1.some q a1 a2
  · refine T2.of_eq (fun _ => rfl) rfl rfl fun h hh q a1 a2 => ?_
    have e0 : gM (mAdd (mDrop m a) a (ifM m a).l) h q = gM m h q := by
      cases h with
      | bin k => exact binM_eq (by rw [hi]) k
      | rack k => exact rackM_eq (by rw [hi]) (by rw [ht]) k
    rw [e0]
    simp only [gAdd, gDel]
    by_cases hc : h = .bin (logI (ifM m a).l) ∧ q = a
    · rw [hc.1, hc.2, hG]; simp
    · have : (decide (h = .bin (logI (ifM m a).l)) && decide (q = a)) = false := by
        simp only [Bool.and_eq_false_iff, decide_eq_false_iff_not]
        by_cases h1 : h = .bin (logI (ifM m a).l)
        · right; exact fun h2 => hc ⟨h1, h2⟩
        · exact .inl h1
      rw [this]; simp
  · have := S.cnt
    unfold CntM at *
    rw [hfr, hlv, smF_congr (f := frP (mAdd (mDrop m a) a (ifM m a).l)) (g := frP m) fun q _ _ => frP_eq (by rw [hi]), smF_congr (f := lvP (mAdd (mDrop m a) a (ifM m a).l)) (g := lvP m) fun q _ _ => lvP_eq (by rw [hi]) (by rw [hs])]
    exact this
  · intro k a1 a2
    rw [hblk, hro]
    exact S.rts k a1 a2
end
end Go.Proofs.Ytajcpopikdpcmaa
namespace Go.Proofs.Ytajcpopikdpcmaa
open Go.Sl
section
variable {c : Cf} {xs : List Int} {m : Mm} {s : VS}
theorem whole_cur (hx : AGood c xs) {i : Int} (h : 0 ≤ i ∧ i < c.cells) : (VS.whole xs).cur i = cel xs i := by
  have hl := hx.len
  have e : (decide (0 ≤ i) && decide (i < (xs.length : Int))) = true := by
    simp only [Bool.and_eq_true, decide_eq_true_eq]; omega
  have hb := cel_bd hx i
  have : (VS.whole xs).cur i = nv (cel xs i) := by
    unfold VS.cur VS.whole
    simp only [mnil, e, cond_true]; rfl
  rw [this, nv_id hb]
theorem at_whole (hx : AGood c xs) : At c (VS.whole xs) (Mm.of c xs) := by
  have hok := Cf.ok_iff.1 hx.ok
  have hl := hx.len
  have hc : c.cells = 30 + 4 * c.t + 6 * c.p := by unfold Cf.cells; rw [hx.ok]; rfl
  have pc : ∀ g k : Int, 0 ≤ g ∧ g < c.p → c.pc g k = 30 + 4 * c.t + 6 * g + k := fun g k hg => by
    unfold Cf.pc; rw [hx.ok, Cf.page_iff.2 hg]; rfl
  have P : ∀ g k : Int, (0 ≤ g ∧ g < c.p) → 0 ≤ k ∧ k ≤ 5 → (VS.whole xs).cur (30 + 4 * c.t + 6 * g + k) = cel xs (c.pc g k) := fun g k hg hk => by
    rw [pc g k hg]; exact whole_cur hx (by omega)
  exact
    { ok := hx.ok, full := VS.whole_full xs, n := hl
      info := fun g hg => P g 0 hg (by omega), foot := fun g hg => P g 1 hg (by omega), next := fun g hg => P g 2 hg (by omega), prev := fun g hg => P g 3 hg (by omega), slots := fun g hg => P g 4 hg (by omega), taken := fun g hg => P g 5 hg (by omega)
      bin := fun k hk => by
        have e : (decide (0 ≤ k) && decide (k < 11)) = true := by simpa using hk
        show _ = cel xs (cBin k)
        unfold cBin; rw [e]; exact whole_cur hx (by omega)
      rack := fun k hk => by
        have e : (decide (0 ≤ k) && decide (k < 9)) = true := by simpa using hk
        show _ = cel xs (cRack k)
        unfold cRack; rw [e]; exact whole_cur hx (by omega)
      root := fun k hk => by
        have e : (decide (0 ≤ k) && decide (k < 8)) = true := by simpa using hk
        show _ = cel xs (cRoot k)
        unfold cRoot; rw [e]; exact whole_cur hx (by omega)
      dn := fun t f ht hf => by
        show _ = cel xs (c.done t f)
        have e : (c.ok && (decide (0 ≤ t) && decide (t < c.t)) && (decide (0 ≤ f) && decide (f < 4))) = true := by
          rw [hx.ok]; simp [ht, hf]
        unfold Cf.done; rw [e]; exact whole_cur hx (by omega)
      fr := whole_cur hx (by omega), lv := whole_cur hx (by omega) }
theorem cel_vals (h : At c s m) (ha : s.all = true) {i : Int} (hi : 0 ≤ i ∧ i < c.cells) : cel s.vals i = s.cur i := by
  have hn := h.n
  unfold cel VS.vals
  rw [ha]
  simp only [cond_true]
  rw [List.getD_eq_getElem?_getD, List.getElem?_map, List.getElem?_range (by omega)]
  simp only [Option.map_some, Option.getD_some]
  congr 1; omega
theorem good_vals (h : At c s m) (ha : s.all = true) : AGood c s.vals := by
  have hok := Cf.ok_iff.1 h.ok
  have hc : c.cells = 30 + 4 * c.t + 6 * c.p := by unfold Cf.cells; rw [h.ok]; rfl
  have hn := h.n
  exact
    { ok := h.ok
      len := by
        unfold VS.vals; rw [ha]; simp only [cond_true, List.length_map, List.length_range]; omega
      bd := fun v hv => by
        unfold VS.vals at hv; rw [ha] at hv
        simp only [cond_true, List.mem_map] at hv
        obtain ⟨j, _, rfl⟩ := hv
        exact cur_bd _ _ }
theorem meq_vals (h : At c s m) (ha : s.all = true) : MEq c m (Mm.of c s.vals) := by
  have hok := Cf.ok_iff.1 h.ok
  have hc : c.cells = 30 + 4 * c.t + 6 * c.p := by unfold Cf.cells; rw [h.ok]; rfl
  have P : ∀ g k : Int, (0 ≤ g ∧ g < c.p) → 0 ≤ k ∧ k ≤ 5 → cel s.vals (c.pc g k) = s.cur (30 + 4 * c.t + 6 * g + k) := fun g k hg hk => by
    have : c.pc g k = 30 + 4 * c.t + 6 * g + k := by unfold Cf.pc; rw [h.ok, Cf.page_iff.2 hg]; rfl
    rw [this]; exact cel_vals h ha (by omega)
  exact
    { info := fun q a b => (P q 0 ⟨a, b⟩ (by omega)).trans (h.info q ⟨a, b⟩), foot := fun q a b => (P q 1 ⟨a, b⟩ (by omega)).trans (h.foot q ⟨a, b⟩), next := fun q a b => (P q 2 ⟨a, b⟩ (by omega)).trans (h.next q ⟨a, b⟩), prev := fun q a b => (P q 3 ⟨a, b⟩ (by omega)).trans (h.prev q ⟨a, b⟩), slots := fun q a b => (P q 4 ⟨a, b⟩ (by omega)).trans (h.slots q ⟨a, b⟩), taken := fun q a b => (P q 5 ⟨a, b⟩ (by omega)).trans (h.taken q ⟨a, b⟩)
      bin := fun k a b => by
        have e : (decide (0 ≤ k) && decide (k < 11)) = true := by simp [a, b]
        show cel s.vals (cBin k) = _
        rw [← h.bin k ⟨a, b⟩]
        unfold cBin; rw [e, cond_true]; exact cel_vals h ha (by omega)
      rack := fun k a b => by
        have e : (decide (0 ≤ k) && decide (k < 9)) = true := by simp [a, b]
        show cel s.vals (cRack k) = _
        rw [← h.rack k ⟨a, b⟩]
        unfold cRack; rw [e, cond_true]; exact cel_vals h ha (by omega)
      root := fun k a b => by
        have e : (decide (0 ≤ k) && decide (k < 8)) = true := by simp [a, b]
        show cel s.vals (cRoot k) = _
        rw [← h.root k ⟨a, b⟩]
        unfold cRoot; rw [e, cond_true]; exact cel_vals h ha (by omega)
      fr := (cel_vals h ha (by omega)).trans h.fr, lv := (cel_vals h ha (by omega)).trans h.lv }
theorem read_all (s : VS) (i : Int) : (s.read i).all = s.all := by
  rcases VS.read_cases s i with h | ⟨_, _, _, h⟩ | ⟨_, _, _, _, h⟩ <;> rw [h]
theorem set_all (s : VS) (i x : Int) : (s.set i x).all = s.all := by
  unfold VS.set
  cases s.there i <;> rfl
theorem run_all {α : Type} (p : Pg α) : ∀ s : VS, (p.run s).1.all = s.all := by
  induction p with
  | ret a => intro s; rfl
  | get i k ih => intro s; exact (ih _ _).trans (read_all s i)
  | put i x k ih => intro s; exact (ih _).trans (set_all s i x)
end
end Go.Proofs.Ytajcpopikdpcmaa
namespace Go.Proofs.Ytajcpopikdpcmaa
open Go.Sl
def apF : Bool → List Sp → Bool
  | _, [] => true
  | b, x :: L => !(b && x.k == 1) && apF (x.k == 1) L
def apE : Bool → List Sp → Bool
  | b, [] => b
  | _, x :: L => apE (x.k == 1) L
theorem apF_app : ∀ (L1 L2 : List Sp) (b : Bool), apF b (L1 ++ L2) = (apF b L1 && apF (apE b L1) L2)
  | [], _, _ => by simp [apF, apE]
  | x :: L1, L2, b => by simp only [List.cons_append, apF, apE, apF_app L1 L2, Bool.and_assoc]
theorem apE_app : ∀ (L1 L2 : List Sp) (b : Bool), apE b (L1 ++ L2) = apE (apE b L1) L2
  | [], _, _ => rfl
  | x :: L1, L2, b => by simp only [List.cons_append, apE, apE_app L1 L2]
theorem apF_weak {L : List Sp} {b : Bool} (h : apF b L = true) : apF false L = true := by
  cases L with
  | nil => rfl
  | cons x L => simp only [apF, Bool.and_eq_true] at h ⊢; exact ⟨rfl, h.2⟩
theorem apF_iff : ∀ {L : List Sp}, apF false L = true ↔ ∀ i : Nat, i + 1 < L.length → ¬ ((L.getD i ⟨0, 0, 0⟩).k = 1 ∧ (L.getD (i + 1) ⟨0, 0, 0⟩).k = 1)
  | [] => by simp [apF]
  | [x] => by simp [apF]
  | x :: y :: L => by
    have ih := apF_iff (L := y :: L)
    simp only [apF, Bool.false_and, Bool.not_false, Bool.true_and, Bool.and_eq_true] at ih ⊢
    rw [ih]
    constructor
    · rintro ⟨h1, h2⟩ i hi
      cases i with
      | zero =>
        simp only [List.getD_cons_zero, List.getD_cons_succ]
        rintro ⟨a, b⟩
        rw [a, b] at h1; simp at h1
      | succ i =>
        simp only [List.getD_cons_succ]
        exact h2 i (by simp only [List.length_cons] at hi ⊢; omega)
    · intro h
      refine ⟨?_, fun i hi => ?_⟩
      · have := h 0 (by simp)
        simp only [List.getD_cons_zero, List.getD_cons_succ] at this
        cases h1 : x.k == 1 <;> cases h2 : y.k == 1 <;> simp_all
      · have := h (i + 1) (by simp only [List.length_cons] at hi ⊢; omega)
        simpa only [List.getD_cons_succ] using this
def fS : List Sp → Int
  | [] => 0
  | x :: L => (bif x.k == 1 then x.l else 0) + fS L
theorem fS_app : ∀ L1 L2 : List Sp, fS (L1 ++ L2) = fS L1 + fS L2
  | [], L2 => by simp [fS]
  | x :: L1, L2 => by simp only [List.cons_append, fS, fS_app L1 L2]; omega
theorem smF_zero (f : Int → Int) (n : Nat) : ∀ k : Nat, (∀ q : Int, n ≤ q → q < n + k → f q = 0) → smF f (n + k) = smF f n
  | 0, _ => rfl
  | k + 1, h => by
    rw [← Nat.add_assoc, smF, smF_zero f n k fun q a b => h q a (by push_cast; omega), h _ (by push_cast; omega) (by push_cast; omega)]; omega
section
variable {c : Cf} {m : Mm} {s : VS} {a n : Int}
theorem sm_tl : ∀ {L : List Sp} {a b : Int}, 0 ≤ a → Tl m a L b → smF (frP m) b.toNat = smF (frP m) a.toNat + fS L
  | [], a, b, _, h => by have h : a = b := h; subst h; simp [fS]
  | x :: L, a, b, ha, ⟨h, hr⟩ => by
    have hl := h.l1
    rw [sm_tl (by omega) hr]
    have e : (a + x.l).toNat = (a.toNat + 1) + (x.l - 1).toNat := by omega
    rw [e, smF_zero (frP m) (a.toNat + 1) _ fun q g1 g2 => ?_, smF, fS]
    · have e2 : ((a.toNat : Nat) : Int) = a := by omega
      have e3 : frP m a = bif x.k == 1 then x.l else 0 := by
        have : ifM m a = ⟨x.k, x.l, x.c⟩ := h.inf
        unfold frP; rw [this]
      rw [e2, e3]; omega
    · have : ifM m q = ⟨0, 0, 0⟩ := by unfold ifM; rw [h.in0 q (by push_cast at g1; omega) (by push_cast at g2; omega), iGet_zero]
      unfold frP; rw [this]; rfl
def exG (m : Mm) (X : List Int) : Hq → Int → Bool := fun h q => gM m h q && !X.contains q
structure Hol (c : Cf) (m : Mm) (L1 : List Sp) (a n : Int) (L2 : List Sp) : Prop where
  t1 : Tl m 0 L1 a
  t2 : Tl m (a + n) L2 c.p
  n1 : 1 ≤ n
  i0 : ∀ q, a < q → q < a + n → m.info q = 0
  f0 : ∀ q, a ≤ q → q < a + n - 1 → m.foot q = 0
  p1 : apF false L1 = true
  p2 : apF false L2 = true
  bits : ∀ q : Int, 0 ≤ q → q < c.p → q ≠ a → ∀ b : Int, 0 ≤ b → b < 32 → badM m q b = false
  z : ∀ b : Int, 0 ≤ b → b < 32 → bitAt (m.taken a) b = false ∧ bitAt (m.slots a) b = false
  some : ∀ q : Int, 0 ≤ q → q < c.p → q ≠ a → ((ifM m q).k == 3 && m.taken q == 0) = false
  ls : ListsM c m (exG m [a])
theorem Hol.pos {L1 L2 : List Sp} (H : Hol c m L1 a n L2) : 0 ≤ a ∧ a + n ≤ c.p := ⟨H.t1.le, H.t2.le⟩
theorem gM_eq {m m' : Mm} {q : Int} (h : m'.info q = m.info q) (h2 : m'.taken q = m.taken q) (g : Hq) : gM m' g q = gM m g q := by
  cases g with
  | bin k => exact binM_eq h k
  | rack k => exact rackM_eq h h2 k
theorem gM_none {q : Int} (h : (ifM m q).k ≠ 1) (h2 : (ifM m q).k ≠ 3) (g : Hq) : gM m g q = false := by
  cases g with
  | bin k => simp [gM, binM, h]
  | rack k => simp [gM, rackM, h2]
theorem exG_eq {m m' : Mm} {X : List Int} {q : Int} (h : X.contains q = false → m'.info q = m.info q) (h2 : X.contains q = false → m'.taken q = m.taken q) (g : Hq) : exG m' X g q = exG m X g q := by
  unfold exG
  cases e : X.contains q with
  | true => simp
  | false => rw [gM_eq (h e) (h2 e)]
theorem notin {X : List Int} {q : Int} : X.contains q = false ↔ q ∉ X := by
  rw [← Bool.not_eq_true, List.contains_iff_mem]
theorem Tl.kind {b q : Int} : ∀ {L : List Sp} {a : Int}, Tl m a L b → a ≤ q → q < b → infoOk (m.info q) = true
  | [], a, h, h1, h2 => by have h : a = b := h; omega
  | x :: L, a, ⟨h, hr⟩, h1, h2 => by
    by_cases e : q = a
    · subst e; exact h.iok
    · by_cases e2 : q < a + x.l
      · rw [h.in0 q (by omega) e2]; rfl
      · exact Tl.kind hr (by omega) h2
theorem ShapeM.apF {L : List Sp} (S : ShapeM c m L) : apF false L = true := apF_iff.2 S.ap
theorem ap_split {L1 L2 : List Sp} {x : Sp} (h : apF false (L1 ++ x :: L2) = true) : apF false L1 = true ∧ apF false L2 = true ∧ apF (x.k == 1) L2 = true ∧ (x.k = 1 → apE false L1 = false) := by
  rw [apF_app] at h
  simp only [apF, Bool.and_eq_true, Bool.not_eq_true', Bool.and_eq_false_iff] at h
  refine ⟨h.1, apF_weak h.2.2, h.2.2, fun e => ?_⟩
  rcases h.2.1 with h1 | h1
  · exact h1
  · rw [e] at h1; cases h1
theorem ap_join {L1 L2 : List Sp} {x : Sp} (h1 : apF false L1 = true) (h2 : apF (x.k == 1) L2 = true) (h3 : x.k = 1 → apE false L1 = false) : apF false (L1 ++ x :: L2) = true := by
  rw [apF_app]
  simp only [apF, Bool.and_eq_true, Bool.not_eq_true', Bool.and_eq_false_iff]
  refine ⟨h1, ?_, h2⟩
  by_cases e : x.k = 1
  · exact .inl (h3 e)
  · right; simpa using e
theorem bad_zero {q b : Int} (h : badM m q b = false) (hk : (ifM m q).k ≠ 3) : bitAt (m.taken q) b = false ∧ bitAt (m.slots q) b = false := by
  have e : ((ifM m q).k != 3) = true := by simpa using hk
  unfold badM at h
  rw [e] at h
  cases h1 : bitAt (m.taken q) b <;> cases h2 : bitAt (m.slots q) b <;> rw [h1, h2] at h <;> first | exact ⟨rfl, rfl⟩ | cases h
theorem zero_bad {q b : Int} (h : bitAt (m.taken q) b = false ∧ bitAt (m.slots q) b = false) : badM m q b = false := by
  unfold badM; rw [h.1, h.2]; rfl
theorem used_hol {L1 L2 : List Sp} {x : Sp} (S : SndM c m (L1 ++ x :: L2)) (h1 : Tl m 0 L1 a) (h2 : Spn m a x) (h3 : Tl m (a + x.l) L2 c.p) (hk : x.k = 2) : Hol c m L1 a x.l L2 := by
  obtain ⟨S1, S2⟩ := snd_iff.1 S
  have hap := ap_split S1.apF
  have hka : (ifM m a).k = 2 := by unfold ifM; rw [h2.inf]; exact hk
  have hl := h2.l1
  have := h1.le
  have := h3.le
  refine ⟨h1, h3, h2.l1, h2.in0, h2.ft0, hap.1, hap.2.1, fun q a1 a2 _ => S1.bits q a1 a2, fun b b1 b2 => bad_zero (S1.bits a (by omega) (by omega) b b1 b2) (by omega), fun q a1 a2 _ => S1.some q a1 a2, ?_⟩
  refine S2.of_eq (fun _ => rfl) rfl rfl fun h hh q a1 a2 => ?_
  unfold exG
  by_cases e : q = a
  · subst e; rw [gM_none (by omega) (by omega)]; rfl
  · have : [a].contains q = false := notin.2 (by simpa using e)
    rw [this]; simp
theorem gDel_ex {h : Hq} {X : List Int} (hh : h.ok) (ha : 0 ≤ a ∧ a < c.p) (hX : a ∉ X) (S : ListsM c m (exG m X)) (hg : gM m h a = true) (h' : Hq) (hh' : h'.ok) (q : Int) : gDel (exG m X) h a h' q = exG m (a :: X) h' q := by
  have hxa : exG m X h a = true := by unfold exG; rw [hg, notin.2 hX]; rfl
  by_cases e : q = a
  · subst e
    have e2 : exG m (q :: X) h' q = false := by unfold exG; simp
    rw [e2]
    unfold gDel
    by_cases e3 : h' = h
    · subst e3; simp
    · cases e4 : exG m X h' q with
      | false => rfl
      | true => exact (S.one h' h hh' hh e3 q ha.1 ha.2 e4 hxa).elim
  · unfold gDel exG
    have e2 : decide (q = a) = false := by simpa using e
    have e3 : (a :: X).contains q = X.contains q := by
      rw [List.contains_cons]
      have : (q == a) = false := by simpa using e
      rw [this, Bool.false_or]
    rw [e2, e3]; simp
theorem pull_ex {h : Hq} {X : List Int} (hh : h.ok) (ha : 0 ≤ a ∧ a < c.p) (hX : a ∉ X) (S : ListsM c m (exG m X)) (hg : gM m h a = true) : ListsM c (mPull m h a) (exG (mPull m h a) (a :: X)) := by
  have hxa : exG m X h a = true := by unfold exG; rw [hg, notin.2 hX]; rfl
  have ep := pull_same (m := m) (a := a) h
  refine (S.pull hh ha hxa).of_eq (fun _ => rfl) rfl rfl fun h' hh' q a1 a2 => ?_
  rw [gDel_ex hh ha hX S hg h' hh' q]
  exact exG_eq (fun _ => by rw [ep.1]) (fun _ => by rw [ep.2.2.2.1]) h'
theorem push_ex {h : Hq} {X : List Int} (hh : h.ok) (ha : 0 ≤ a ∧ a < c.p) (hX : a ∉ X) (S : ListsM c m (exG m (a :: X))) (hg : gM m h a = true) (ho : ∀ h' : Hq, h'.ok → h' ≠ h → gM m h' a = false) : ListsM c (mPush m h a) (exG (mPush m h a) X) := by
  have hno : ∀ h' : Hq, h'.ok → exG m (a :: X) h' a = false := fun h' _ => by unfold exG; simp
  have ep := push_same (m := m) (a := a) h
  refine (S.push hh ha hno).of_eq (fun _ => rfl) rfl rfl fun h' hh' q a1 a2 => ?_
  rw [exG_eq (m := m) (fun _ => by rw [ep.1]) (fun _ => by rw [ep.2.2.2.1]) h']
  unfold gAdd
  by_cases e : q = a
  · subst e
    rw [hno h' hh']
    unfold exG
    rw [notin.2 hX]
    by_cases e2 : h' = h
    · subst e2; rw [hg]; simp
    · rw [ho h' hh' e2]; simp [e2]
  · have e2 : decide (q = a) = false := by simpa using e
    have e3 : (a :: X).contains q = X.contains q := by
      rw [List.contains_cons]
      have : (q == a) = false := by simpa using e
      rw [this, Bool.false_or]
    unfold exG
    rw [e2, e3]; simp
theorem ex_none {X : List Int} (S : ListsM c m (exG m (a :: X))) (hn : ∀ h : Hq, gM m h a = false) : ListsM c m (exG m X) := by
  refine S.of_eq (fun _ => rfl) rfl rfl fun h hh q a1 a2 => ?_
  unfold exG
  by_cases e : q = a
  · subst e; rw [hn h]; rfl
  · rw [List.contains_cons]
    have : (q == a) = false := by simpa using e
    rw [this, Bool.false_or]
theorem ex_more {X : List Int} (S : ListsM c m (exG m X)) (hn : ∀ h : Hq, gM m h a = false) : ListsM c m (exG m (a :: X)) := by
  refine S.of_eq (fun _ => rfl) rfl rfl fun h hh q a1 a2 => ?_
  unfold exG
  by_cases e : q = a
  · subst e; rw [hn h]; rfl
  · rw [List.contains_cons]
    have : (q == a) = false := by simpa using e
    rw [this, Bool.false_or]
theorem ex_set {X : List Int} {m' : Mm} (S : ListsM c m (exG m X)) (e0 : ∀ h : Hq, m'.hd h = m.hd h) (e1 : m'.next = m.next) (e2 : m'.prev = m.prev) (e3 : ∀ q, q ∉ X → m'.info q = m.info q) (e4 : ∀ q, q ∉ X → m'.taken q = m.taken q) : ListsM c m' (exG m' X) :=
  S.of_eq e0 e1 e2 fun h _ q _ _ => exG_eq (fun e => e3 q (notin.1 e)) (fun e => e4 q (notin.1 e)) h
end
end Go.Proofs.Ytajcpopikdpcmaa
namespace Go.Sl
abbrev wI (x : Int) : Int := IntKind.wrap IntKind.i64 x
section
variable (c : Cf)
def qUsed (p n : Int) : Pg Unit := .put (c.info p) (iVal 2 n 0) <| .put (c.foot (wI (wI (p + n) - 1))) (nv (p + 1)) (.ret ())
def qJoin (p b : Int) : Pg Int := (pDrop c p).bind fun l => .put (c.info b) 0 <| .put (c.foot (wI (b - 1))) 0 (.ret l)
def qTake (n : Int) : Pg (Int × Bool) :=
  (pFind c n).bind fun r => bif r.2 then
    (pDrop c r.1).bind fun l => (qUsed c r.1 n).bind fun _ =>
      (bif decide (n < l) then pAdd c (wI (r.1 + n)) (wI (l - n)) else .ret ()).bind fun _ => (pCount (-n)).bind fun _ => .ret (r.1, true)
  else .ret (0, false)
def qAhead (p n : Int) : Pg (Int × Int) :=
  bif p == 0 then .ret (p, n) else .get (c.foot (wI (p - 1))) fun f =>
    (pFree c (f - 1)).bind fun l => bif decide (0 < l) then (qJoin c (f - 1) p).bind fun m => .ret (f - 1, wI (n + m)) else .ret (p, n)
def qNext (r : Int) (a : Int × Int) : Pg (Int × Int) :=
  bif decide (r < c.p) then (pFree c r).bind fun l => bif decide (0 < l) then (qJoin c r r).bind fun m => .ret (a.1, wI (a.2 + m)) else .ret a else .ret a
def qRelease (p n : Int) : Pg Unit :=
  (qAhead c p n).bind fun a => (qNext c (wI (p + n)) a).bind fun a => (pAdd c a.1 a.2).bind fun _ => pCount n
def qShrink (p n m : Int) : Pg Unit := (qUsed c p m).bind fun _ => qRelease c (wI (p + m)) (wI (n - m))
def qGrow (p n m : Int) : Pg Bool :=
  bif decide (c.p ≤ wI (p + n)) then .ret false else
    (pFree c (wI (p + n))).bind fun l => bif l == 0 || decide (l < wI (m - n)) then .ret false else
      (qJoin c (wI (p + n)) (wI (p + n))).bind fun _ => (qUsed c p m).bind fun _ =>
        (bif decide (wI (m - n) < l) then pAdd c (wI (p + m)) (wI (l - wI (m - n))) else .ret ()).bind fun _ => (pCount (-wI (m - n))).bind fun _ => .ret true
def pLen (p : Int) : Pg Int := .get (c.info p) fun v => .ret (iGet v).l
def qLAlloc (n : Int) : Pg (Int × Bool) := (qTake c n).bind fun r => bif r.2 then .get 1 fun v => .put 1 (nv (v + 1)) (.ret (r.1, true)) else .ret (0, false)
def qLFree (p : Int) : Pg Unit := (pLen c p).bind fun n => (qRelease c p n).bind fun _ => .get 1 fun v => .put 1 (nv (v - 1)) (.ret ())
def qLResize (p m : Int) : Pg Bool := (pLen c p).bind fun n =>
  bif decide (m < 1) || decide (c.p < m) then .ret false else bif decide (n < m) then qGrow c p n m else bif decide (m < n) then (qShrink c p n m).bind fun _ => .ret true else .ret true
theorem qTake_no (n : Int) (s : VS) (h : ((qTake c n).run s).2.2 = false) : ((qTake c n).run s).2.1 = 0 := by
  unfold qTake at h ⊢
  rw [Pg.run_bind] at h ⊢
  cases hb : ((pFind c n).run s).2.2 with
  | false => simp only [hb, cond_false, Pg.run_ret]
  | true =>
    simp only [hb, cond_true, Pg.run_bind, Pg.run_ret] at h
    cases h
end
theorem get_out1 (s : VS) {i : Int} (h : i < 0) : s.get i = 0 ∧ s.read i = s := by
  have : s.there i = false := by
    simp only [VS.there, Bool.and_eq_false_iff, decide_eq_false_iff_not]
    omega
  unfold VS.get VS.read
  rw [this]
  exact ⟨rfl, rfl⟩
end Go.Sl

/-
  DERIVED. Part 4 of the texts of this claim: Plain arithmetic of the fields of words: what half's functions come to.
-/
import Derived.Test.YtnddjnnakkiidaaGreatJSlabGives3
set_option linter.unusedSimpArgs false
set_option linter.unusedVariables false
namespace Go.Proofs.YtnddjnnakkiidaaGreat
open Go Go.Sl
theorem wrap_u64_nat {n : Nat} (h : n < 18446744073709551616) : IntKind.wrap IntKind.u64 (n : Int) = (n : Int) := by rw [IntKind.wrap_u64]; omega
theorem wrap_u32_nat {n : Nat} (h : n < 4294967296) : IntKind.wrap IntKind.u32 (n : Int) = (n : Int) := by rw [IntKind.wrap_u32]; omega
theorem wrap_i64_id {n : Int} (h : -9223372036854775808 ≤ n ∧ n < 9223372036854775808) : IntKind.wrap IntKind.i64 n = n := by rw [IntKind.wrap_i64]; omega
theorem half_mask_eq {y : Nat} (h : y ≤ 64) : half_mask (y : Int) = ((2 ^ y - 1 : Nat) : Int) := by
  have key : ∀ y : Fin 65, half_mask ((y.val : Nat) : Int) = ((2 ^ y.val - 1 : Nat) : Int) := by decide +kernel
  exact key ⟨y, by omega⟩
theorem ofInt_nat (n : Nat) : BitVec.ofInt 64 (n : Int) = BitVec.ofNat 64 n := by
  apply BitVec.eq_of_toNat_eq
  simp
theorem half_field_true {x y : Nat} (h1 : 1 ≤ y) (h : x + y ≤ 64) : half_field (x : Int) (y : Int) = true := half_field_iff.2 (by omega)
theorem min_toNat {x : Nat} (h : x ≤ 64) : min (Int.toNat (x : Int)) 64 = x := by simp; omega
theorem half_Get_eq {W x y : Nat} (hW : W < 18446744073709551616) (h1 : 1 ≤ y) (h : x + y ≤ 64) : half_Get (W : Int) (x : Int) (y : Int) = ((W / 2 ^ x % 2 ^ y : Nat) : Int) := by
  have hf := half_field_true h1 h
  unfold half_Get
  rw [hf]
  simp only [Bool.not_true, cond_false]
  rw [min_toNat (by omega), half_mask_eq (by omega)]
  have e1 : Int.fdiv (W : Int) (2 ^ x) = ((W / 2 ^ x : Nat) : Int) := by
    rw [Int.fdiv_eq_ediv_of_nonneg _ (by exact Int.le_of_lt (Int.pow_pos (by omega)))]
    push_cast; rfl
  rw [e1, ofInt_nat, ofInt_nat, BitVec.toNat_and, BitVec.toNat_ofNat, BitVec.toNat_ofNat]
  have h2 : 2 ^ y ≤ 2 ^ 64 := Nat.pow_le_pow_right (by omega) (by omega)
  have h3 : W / 2 ^ x < 2 ^ 64 := Nat.lt_of_le_of_lt (Nat.div_le_self _ _) (by omega)
  have h4 : 0 < 2 ^ y := Nat.pow_pos (by omega)
  rw [Nat.mod_eq_of_lt h3, Nat.mod_eq_of_lt (by omega : 2 ^ y - 1 < 2 ^ 64), Nat.and_two_pow_sub_one_eq_mod]
  refine wrap_u64_nat ?_
  have := Nat.mod_lt (W / 2 ^ x) h4
  omega
def putW (W x y V : Nat) : Nat := ((BitVec.ofNat 64 W &&& ~~~BitVec.ofNat 64 ((2 ^ y - 1) * 2 ^ x)) ||| BitVec.ofNat 64 (V * 2 ^ x)).toNat
theorem putW_lt (W x y V : Nat) : putW W x y V < 18446744073709551616 := BitVec.isLt _
theorem putW_bit {W x y V : Nat} (hW : W < 18446744073709551616) (h : x + y ≤ 64) (hV : V < 2 ^ y) (i : Nat) : (putW W x y V).testBit i = if x ≤ i ∧ i < x + y then V.testBit (i - x) else W.testBit i := by
  unfold putW
  rw [BitVec.testBit_toNat]
  simp only [BitVec.getLsbD_or, BitVec.getLsbD_and, BitVec.getLsbD_not, BitVec.getLsbD_ofNat, Nat.testBit_mul_two_pow, Nat.testBit_two_pow_sub_one]
  by_cases hi : i < 64
  · by_cases hx : x ≤ i
    · by_cases hy : i - x < y
      · have : x ≤ i ∧ i < x + y := by omega
        simp [hi, hx, hy, this]
      · have : ¬ (x ≤ i ∧ i < x + y) := by omega
        have hv : V.testBit (i - x) = false := Nat.testBit_lt_two_pow (Nat.lt_of_lt_of_le hV (Nat.pow_le_pow_right (by omega) (by omega)))
        rw [if_neg this]; simp [hi, hx, hy, hv]
    · have : ¬ (x ≤ i ∧ i < x + y) := by omega
      rw [if_neg this]; simp [hi, hx]
  · have h2 : W.testBit i = false := Nat.testBit_lt_two_pow (Nat.lt_of_lt_of_le hW (by
      have : 2 ^ 64 ≤ 2 ^ i := Nat.pow_le_pow_right (by omega) (by omega)
      omega))
    have : ¬ (x ≤ i ∧ i < x + y) := by omega
    rw [if_neg this]; simp [hi, h2]
theorem half_Put_eq {W x y V : Nat} (h1 : 1 ≤ y) (h : x + y ≤ 64) (hV : V < 2 ^ y) : half_Put (W : Int) (x : Int) (y : Int) (V : Int) = (((putW W x y V : Nat) : Int), true) := by
  have hf := half_field_true h1 h
  have hp : 2 ^ y ≤ 2 ^ 64 := Nat.pow_le_pow_right (by omega) (by omega)
  have hpos : 0 < 2 ^ y := Nat.pow_pos (by omega)
  unfold half_Put
  rw [hf, half_mask_eq (by omega)]
  have hd : decide ((V : Int) > ((2 ^ y - 1 : Nat) : Int)) = false := by simp; omega
  rw [hd]
  simp only [Bool.not_true, Bool.or_false, cond_false, Prod.mk.injEq, and_true]
  rw [min_toNat (by omega)]
  have e : ∀ n : Nat, n * 2 ^ x < 18446744073709551616 → IntKind.wrap IntKind.u64 ((n : Int) * 2 ^ x) = ((n * 2 ^ x : Nat) : Int) := fun n hn => by
    rw [show ((n : Int) * 2 ^ x) = ((n * 2 ^ x : Nat) : Int) by push_cast; rfl]
    exact wrap_u64_nat hn
  have b : ∀ n, n < 2 ^ y → n * 2 ^ x < 18446744073709551616 := fun n hn => by
    have h2 : n * 2 ^ x < 2 ^ y * 2 ^ x := Nat.mul_lt_mul_of_pos_right hn (Nat.pow_pos (by omega))
    rw [← Nat.pow_add] at h2
    have h3 : 2 ^ (y + x) ≤ 2 ^ 64 := Nat.pow_le_pow_right (by omega) (by omega)
    omega
  rw [e _ (b _ (by omega)), e _ (b _ hV), ofInt_nat, ofInt_nat, ofInt_nat]
  have hand : (BitVec.ofNat 64 W &&& ~~~BitVec.ofNat 64 ((2 ^ y - 1) * 2 ^ x)).toNat < 18446744073709551616 := BitVec.isLt _
  rw [wrap_u64_nat hand, ofInt_nat, BitVec.ofNat_toNat, BitVec.setWidth_eq]
  exact wrap_u64_nat (putW_lt W x y V)
theorem putW_add {W x y V : Nat} (hW : W < 2 ^ x) (h : x + y ≤ 64) (hV : V < 2 ^ y) : putW W x y V = V * 2 ^ x + W := by
  have hW' : W < 18446744073709551616 := by
    have : 2 ^ x ≤ 2 ^ 64 := Nat.pow_le_pow_right (by omega) (by omega)
    omega
  apply Nat.eq_of_testBit_eq
  intro i
  rw [putW_bit hW' h hV, Nat.mul_comm, Nat.testBit_two_pow_mul_add _ hW]
  by_cases hi : i < x
  · rw [if_neg (by omega), if_pos hi]
  · rw [if_neg hi]
    by_cases hy : i < x + y
    · rw [if_pos (by omega)]
    · rw [if_neg (by omega)]
      rw [Nat.testBit_lt_two_pow (Nat.lt_of_lt_of_le hW (Nat.pow_le_pow_right (by omega) (by omega))),
        Nat.testBit_lt_two_pow (Nat.lt_of_lt_of_le hV (Nat.pow_le_pow_right (by omega) (by omega)))]
theorem info_right_iff {k l c : Int} : info_right k l c = true ↔ (k = 0 ∧ l = 0 ∧ c = 0) ∨ ((k = 1 ∨ k = 2) ∧ 1 ≤ l ∧ l ≤ 1024 ∧ c = 0) ∨ (k = 3 ∧ l = 1 ∧ 0 ≤ c ∧ c ≤ 8) := by
  unfold info_right
  by_cases h0 : k = 0
  · subst h0; simp
  · by_cases h3 : k = 3
    · subst h3
      by_cases hc : c < 0 ∨ 9 ≤ c
      · rcases hc with hc | hc <;> simp [hc] <;> omega
      · simp [show ¬ c < 0 by omega, show ¬ c ≥ 9 by omega]; omega
    · by_cases h1 : k = 1
      · subst h1; simp; omega
      · by_cases h2 : k = 2
        · subst h2; simp; omega
        · simp [h0, h1, h2, h3]
theorem r09_Right_iff {k l c : Int} : r09_Right k l c = true ↔ (k = 0 ∧ l = 0 ∧ c = 0) ∨ ((k = 1 ∨ k = 2) ∧ 1 ≤ l ∧ l ≤ 1024 ∧ c = 0) ∨ (k = 3 ∧ l = 1 ∧ 0 ≤ c ∧ c ≤ 8) := by
  unfold r09_Right
  by_cases h0 : k = 0
  · subst h0; simp
  · by_cases h1 : k = 1
    · subst h1; simp; omega
    · by_cases h2 : k = 2
      · subst h2; simp; omega
      · by_cases h3 : k = 3
        · subst h3; simp; omega
        · simp [h0, h1, h2, h3]
theorem right_same (k l c : Int) : info_right k l c = r09_Right k l c := by
  rw [Bool.eq_iff_iff, info_right_iff, r09_Right_iff]
theorem info_Put_eq {k l c : Int} (h : info_right k l c = true) : info_Put k l c = (k + 16 * l + 65536 * c, true) := by
  have hr := info_right_iff.1 h
  unfold info_Put
  rw [h]
  obtain ⟨K, rfl⟩ : ∃ K : Nat, k = K := ⟨k.toNat, by omega⟩
  obtain ⟨L, rfl⟩ : ∃ L : Nat, l = L := ⟨l.toNat, by omega⟩
  obtain ⟨C, rfl⟩ : ∃ C : Nat, c = C := ⟨c.toNat, by omega⟩
  rw [wrap_u64_nat (by omega), wrap_u64_nat (by omega), wrap_u64_nat (by omega)]
  have e1 : half_Put (K : Int) 4 12 (L : Int) = (((putW K 4 12 L : Nat) : Int), true) := half_Put_eq (W := K) (x := 4) (y := 12) (V := L) (by omega) (by omega) (by omega)
  have e2 : putW K 4 12 L = L * 16 + K := putW_add (W := K) (x := 4) (y := 12) (V := L) (by omega) (by omega) (by omega)
  have e3 : half_Put ((L * 16 + K : Nat) : Int) 16 4 (C : Int) = (((putW (L * 16 + K) 16 4 C : Nat) : Int), true) := half_Put_eq (W := L * 16 + K) (x := 16) (y := 4) (V := C) (by omega) (by omega) (by omega)
  have e4 : putW (L * 16 + K) 16 4 C = C * 65536 + (L * 16 + K) := putW_add (W := L * 16 + K) (x := 16) (y := 4) (V := C) (by omega) (by omega) (by omega)
  rw [e1, e2]
  show (bif !true then _ else (half_Lo (half_Put ((L * 16 + K : Nat) : Int) 16 4 (C : Int)).1, true)) = _
  rw [e3, e4]
  refine Prod.ext ?_ rfl
  show IntKind.wrap IntKind.u32 _ = _
  rw [wrap_u32_nat (by omega)]
  show _ = (K : Int) + 16 * L + 65536 * C
  omega
theorem info_Put_no {k l c : Int} (h : info_right k l c = false) : info_Put k l c = (0, false) := by unfold info_Put; rw [h]; rfl
theorem r09_Put_eq {k l c : Int} (h : info_right k l c = true) : r09_Put k l c = (k + 16 * l + 65536 * c, true) := by
  have hr := info_right_iff.1 h
  unfold r09_Put
  rw [← right_same, h]
  simp only [Bool.not_true, cond_false, Prod.mk.injEq, and_true]
  rw [wrap_i64_id (n := 16 * l) (by omega), wrap_i64_id (n := 65536 * c) (by omega), wrap_i64_id (n := k + 16 * l) (by omega), wrap_i64_id (by omega), IntKind.wrap_u32]
  omega
theorem r09_Put_no {k l c : Int} (h : info_right k l c = false) : r09_Put k l c = (0, false) := by unfold r09_Put; rw [← right_same, h]; rfl
theorem info_Get_eq {v : Int} (h0 : 0 ≤ v) (hv : v < 4294967296) : info_Get v = bif info_right (v % 16) (v / 16 % 4096) (v / 65536) then (v % 16, v / 16 % 4096, v / 65536, true) else (0, 0, 0, false) := by
  obtain ⟨n, rfl⟩ : ∃ n : Nat, v = n := ⟨v.toNat, by omega⟩
  have g1 : half_Get (n : Int) 20 44 = ((n / 2 ^ 20 % 2 ^ 44 : Nat) : Int) := half_Get_eq (W := n) (x := 20) (y := 44) (by omega) (by omega) (by omega)
  have g2 : half_Get (n : Int) 0 4 = ((n / 2 ^ 0 % 2 ^ 4 : Nat) : Int) := half_Get_eq (W := n) (x := 0) (y := 4) (by omega) (by omega) (by omega)
  have g3 : half_Get (n : Int) 4 12 = ((n / 2 ^ 4 % 2 ^ 12 : Nat) : Int) := half_Get_eq (W := n) (x := 4) (y := 12) (by omega) (by omega) (by omega)
  have g4 : half_Get (n : Int) 16 4 = ((n / 2 ^ 16 % 2 ^ 4 : Nat) : Int) := half_Get_eq (W := n) (x := 16) (y := 4) (by omega) (by omega) (by omega)
  have e1 : ((n / 2 ^ 20 % 2 ^ 44 : Nat) : Int) = (n : Int) / 1048576 := by omega
  have e2 : ((n / 2 ^ 0 % 2 ^ 4 : Nat) : Int) = (n : Int) % 16 := by omega
  have e3 : ((n / 2 ^ 4 % 2 ^ 12 : Nat) : Int) = (n : Int) / 16 % 4096 := by omega
  have e4 : ((n / 2 ^ 16 % 2 ^ 4 : Nat) : Int) = (n : Int) / 65536 % 16 := by omega
  rw [e1] at g1; rw [e2] at g2; rw [e3] at g3; rw [e4] at g4
  unfold info_Get
  rw [wrap_u64_nat (by omega), g1, g2, g3, g4, wrap_i64_id (n := (n : Int) % 16) (by omega), wrap_i64_id (n := (n : Int) / 16 % 4096) (by omega), wrap_i64_id (n := (n : Int) / 65536 % 16) (by omega)]
  by_cases hz : (n : Int) / 1048576 = 0
  · have : (n : Int) / 65536 % 16 = n / 65536 := by omega
    rw [this, hz]
    cases info_right ((n : Int) % 16) ((n : Int) / 16 % 4096) ((n : Int) / 65536) <;> rfl
  · have hr : info_right ((n : Int) % 16) ((n : Int) / 16 % 4096) ((n : Int) / 65536) = false := by
      rw [Bool.eq_false_iff, Ne, info_right_iff]; omega
    have hb : (((n : Int) / 1048576) != 0) = true := bne_iff_ne.2 hz
    rw [hr, hb]
    rfl
theorem r09_Get_eq {v : Int} (h0 : 0 ≤ v) (hv : v < 4294967296) : r09_Get v = bif info_right (v % 16) (v / 16 % 4096) (v / 65536) then (v % 16, v / 16 % 4096, v / 65536, true) else (0, 0, 0, false) := by
  unfold r09_Get
  have t1 : Int.tmod v 16 = v % 16 := Int.tmod_eq_emod_of_nonneg h0
  have t2 : Int.tdiv v 16 = v / 16 := Int.tdiv_eq_ediv_of_nonneg h0
  have t3 : Int.tdiv v 65536 = v / 65536 := Int.tdiv_eq_ediv_of_nonneg h0
  have t4 : Int.tmod (v / 16) 4096 = v / 16 % 4096 := Int.tmod_eq_emod_of_nonneg (by omega)
  have w1 : IntKind.wrap IntKind.u32 (v / 16) = v / 16 := by rw [IntKind.wrap_u32]; omega
  have w2 : IntKind.wrap IntKind.u32 (v / 65536) = v / 65536 := by rw [IntKind.wrap_u32]; omega
  rw [t1, t2, t3, w1, w2, t4, wrap_i64_id (n := v % 16) (by omega), wrap_i64_id (n := v / 16 % 4096) (by omega), wrap_i64_id (n := v / 65536) (by omega), ← right_same]
  cases info_right (v % 16) (v / 16 % 4096) (v / 65536) <;> rfl
theorem r04_Right_eq (t p s : Int) : r04_Right t p s = Cf.ok ⟨t, p, s⟩ := by
  apply Bool.eq_iff_iff.2
  rw [Cf.ok_iff]
  simp only [r04_Right, Bool.and_eq_true, decide_eq_true_eq]
  omega
theorem lay_ok (t p s : Int) : (place_lay t p s).2.2.2.2 = Cf.ok ⟨t, p, s⟩ ∧ (Cf.ok ⟨t, p, s⟩ = true → (place_lay t p s).1 = t ∧ (place_lay t p s).2.1 = p) := by
  unfold place_lay
  rw [conf_Check_eq, r04_Right_eq]
  cases h : Cf.ok ⟨t, p, s⟩ with
  | true => exact ⟨rfl, fun _ => ⟨rfl, rfl⟩⟩
  | false => exact ⟨rfl, fun h => by cases h⟩
theorem place_of_eq {t p s g k : Int} (hk : 0 ≤ k ∧ k ≤ 5) : place_of t p s g k = Cf.pc ⟨t, p, s⟩ g k := by
  obtain ⟨h1, h2⟩ := lay_ok t p s
  unfold place_of Cf.pc Cf.page
  rw [h1]
  cases h : Cf.ok ⟨t, p, s⟩ with
  | false => simp
  | true =>
    obtain ⟨e1, e2⟩ := h2 h
    rw [e1, e2]
    have := Cf.ok_iff.1 h
    simp only at this
    by_cases hg : 0 ≤ g ∧ g < p
    · have a1 : decide (g < 0) = false := by simp; omega
      have a2 : decide (g ≥ p) = false := by simp; omega
      have a3 : decide (0 ≤ g) = true := by simp; omega
      have a4 : decide (g < p) = true := by simp; omega
      simp only [a1, a2, a3, a4, Bool.not_true, Bool.or_self, cond_false, Bool.and_self, cond_true]
      rw [w64 (n := 4 * t) (by omega), w64 (n := 30 + 4 * t) (by omega), w64 (n := 6 * g) (by omega), w64 (n := 30 + 4 * t + 6 * g) (by omega), w64 (by omega)]
    · have a3 : (decide (0 ≤ g) && decide (g < p)) = false := by simp; omega
      have a1 : (!true || decide (g < 0) || decide (g ≥ p)) = true := by simp; omega
      rw [a3, a1]; simp
theorem r07_Page_eq {t p s g k : Int} (hk : 0 ≤ k ∧ k ≤ 5) : r07_Page t p s g k = Cf.pc ⟨t, p, s⟩ g k := by
  unfold r07_Page Cf.pc Cf.page
  rw [r04_Right_eq]
  cases h : Cf.ok ⟨t, p, s⟩ with
  | false => simp
  | true =>
    have := Cf.ok_iff.1 h
    simp only at this
    by_cases hg : 0 ≤ g ∧ g < p
    · have a1 : decide (g < 0) = false := by simp; omega
      have a2 : decide (g ≥ p) = false := by simp; omega
      have a3 : decide (0 ≤ g) = true := by simp; omega
      have a4 : decide (g < p) = true := by simp; omega
      simp only [a1, a2, a3, a4, Bool.not_true, Bool.or_self, cond_false, Bool.and_self, cond_true]
      rw [w64 (n := 4 * t) (by omega), w64 (n := 30 + 4 * t) (by omega), w64 (n := 6 * g) (by omega), w64 (n := 30 + 4 * t + 6 * g) (by omega), w64 (by omega)]
    · have a3 : (decide (0 ≤ g) && decide (g < p)) = false := by simp; omega
      have a1 : (!true || decide (g < 0) || decide (g ≥ p)) = true := by simp; omega
      rw [a3, a1]; simp
theorem place_Info_eq (t p s g : Int) : place_Info t p s g = Cf.info ⟨t, p, s⟩ g := place_of_eq (by omega)
theorem place_Foot_eq (t p s g : Int) : place_Foot t p s g = Cf.foot ⟨t, p, s⟩ g := place_of_eq (by omega)
theorem place_Next_eq (t p s g : Int) : place_Next t p s g = Cf.next ⟨t, p, s⟩ g := place_of_eq (by omega)
theorem place_Prev_eq (t p s g : Int) : place_Prev t p s g = Cf.prev ⟨t, p, s⟩ g := place_of_eq (by omega)
theorem r07_Info_eq (t p s g : Int) : r07_Info t p s g = Cf.info ⟨t, p, s⟩ g := r07_Page_eq (by omega)
theorem r07_Foot_eq (t p s g : Int) : r07_Foot t p s g = Cf.foot ⟨t, p, s⟩ g := r07_Page_eq (by omega)
theorem r07_Next_eq (t p s g : Int) : r07_Next t p s g = Cf.next ⟨t, p, s⟩ g := r07_Page_eq (by omega)
theorem r07_Prev_eq (t p s g : Int) : r07_Prev t p s g = Cf.prev ⟨t, p, s⟩ g := r07_Page_eq (by omega)
theorem place_Bin_eq (k : Int) : place_Bin k = cBin k := by
  unfold place_Bin place_within cBin
  by_cases hg : 0 ≤ k ∧ k < 11
  · have a1 : (decide (k < 0) || decide (k ≥ 11)) = false := by simp; omega
    have a2 : (decide (0 ≤ k) && decide (k < 11)) = true := by simp; omega
    rw [a1, a2, w64 (by omega)]; rfl
  · have a1 : (decide (k < 0) || decide (k ≥ 11)) = true := by simp; omega
    have a2 : (decide (0 ≤ k) && decide (k < 11)) = false := by simp; omega
    rw [a1, a2]; rfl
theorem r07_Bin_eq (k : Int) : r07_Bin k = cBin k := by
  unfold r07_Bin cBin
  by_cases hg : 0 ≤ k ∧ k < 11
  · have a1 : (decide (k < 0) || decide (k > 10)) = false := by simp; omega
    have a2 : (decide (0 ≤ k) && decide (k < 11)) = true := by simp; omega
    rw [a1, a2, w64 (by omega)]; rfl
  · have a1 : (decide (k < 0) || decide (k > 10)) = true := by simp; omega
    have a2 : (decide (0 ≤ k) && decide (k < 11)) = false := by simp; omega
    rw [a1, a2]; rfl
theorem r07_Root_eq (k : Int) : r07_Root k = cRoot k := by
  unfold r07_Root cRoot
  by_cases hg : 0 ≤ k ∧ k < 8
  · have a1 : (decide (k < 0) || decide (k > 7)) = false := by simp; omega
    have a2 : (decide (0 ≤ k) && decide (k < 8)) = true := by simp; omega
    rw [a1, a2, w64 (by omega)]; rfl
  · have a1 : (decide (k < 0) || decide (k > 7)) = true := by simp; omega
    have a2 : (decide (0 ≤ k) && decide (k < 8)) = false := by simp; omega
    rw [a1, a2]; rfl
theorem iRight_eq (k l c : Int) : info_right k l c = iRight k l c := by
  apply Bool.eq_iff_iff.2
  rw [info_right_iff]
  unfold iRight
  by_cases h0 : k = 0
  · subst h0; simp
  · by_cases h1 : k = 1
    · subst h1; simp [and_assoc]
    · by_cases h2 : k = 2
      · subst h2; simp [and_assoc]
      · by_cases h3 : k = 3
        · subst h3; simp
        · simp [h0, h1, h2, h3]
theorem info_Put_val (k l c : Int) : (info_Put k l c).1 = iVal k l c := by
  unfold iVal
  rw [← iRight_eq]
  cases h : info_right k l c with
  | true => rw [info_Put_eq h]; rfl
  | false => rw [info_Put_no h]; rfl
theorem r09_Value_eq (k l c : Int) : r09_Value k l c = iVal k l c := by
  unfold r09_Value iVal
  rw [← iRight_eq]
  cases h : info_right k l c with
  | true => rw [r09_Put_eq h]; rfl
  | false => rw [r09_Put_no h]; rfl
theorem iVal_bd (k l c : Int) : bd32 (iVal k l c) := by
  unfold iVal
  cases h : iRight k l c with
  | false => exact (⟨by decide, by decide⟩ : (0 : Int) ≤ 0 ∧ (0 : Int) < 4294967296)
  | true =>
    rw [← iRight_eq, info_right_iff] at h
    simp only [cond_true]
    unfold bd32
    omega
theorem info_Get_i {v : Int} (h : bd32 v) : (info_Get v).1 = (iGet v).k ∧ (info_Get v).2.1 = (iGet v).l ∧ (info_Get v).2.2.1 = (iGet v).c := by
  rw [info_Get_eq h.1 h.2]
  unfold iGet
  rw [← iRight_eq]
  cases info_right (v % 16) (v / 16 % 4096) (v / 65536) <;> exact ⟨rfl, rfl, rfl⟩
theorem r09_Get_i {v : Int} (h : bd32 v) : (r09_Get v).1 = (iGet v).k ∧ (r09_Get v).2.1 = (iGet v).l ∧ (r09_Get v).2.2.1 = (iGet v).c := by
  rw [r09_Get_eq h.1 h.2]
  unfold iGet
  rw [← iRight_eq]
  cases info_right (v % 16) (v / 16 % 4096) (v / 65536) <;> exact ⟨rfl, rfl, rfl⟩
theorem iGet_right (v : Int) : iRight (iGet v).k (iGet v).l (iGet v).c = true := by
  unfold iGet
  cases h : iRight (v % 16) (v / 16 % 4096) (v / 65536) with
  | true => exact h
  | false => rfl
theorem iGet_cases (v : Int) : ((iGet v).k = 0 ∧ (iGet v).l = 0 ∧ (iGet v).c = 0) ∨ (((iGet v).k = 1 ∨ (iGet v).k = 2) ∧ 1 ≤ (iGet v).l ∧ (iGet v).l ≤ 1024 ∧ (iGet v).c = 0) ∨ ((iGet v).k = 3 ∧ (iGet v).l = 1 ∧ 0 ≤ (iGet v).c ∧ (iGet v).c ≤ 8) := by
  have := iGet_right v
  rw [← iRight_eq, info_right_iff] at this
  exact this
def lenN (n : Nat) : Int := if n = 0 then 0 else (Nat.log2 n : Int) + 1
theorem lenN_tab : ∀ i : Fin 256, sAt SlLow_bytes0 (i.val : Int) = lenN i.val := by decide +kernel
theorem lenN_div {n k : Nat} (h : 2 ^ k ≤ n) : lenN n = lenN (n / 2 ^ k) + k := by
  induction k generalizing n with
  | zero => simp
  | succ k ih =>
    have hp : 0 < 2 ^ k := Nat.pow_pos (by decide)
    rw [Nat.pow_succ] at h
    have h1 : 2 ^ k ≤ n / 2 := by omega
    have h2 := ih h1
    have e : n / 2 ^ (k + 1) = n / 2 / 2 ^ k := by rw [Nat.pow_succ, Nat.mul_comm, Nat.div_div_eq_div_mul]
    rw [e]
    have h3 : lenN n = lenN (n / 2) + 1 := by
      unfold lenN
      rw [if_neg (by omega), if_neg (by omega), Nat.log2_def, if_pos (by omega)]
      push_cast; rfl
    rw [h3, h2]; push_cast; omega
theorem tab_eq {z : Int} (h0 : 0 ≤ z) (h1 : z < 256) : sAt SlLow_bytes0 (IntKind.wrap IntKind.u8 z) = lenN z.toNat := by
  have e : IntKind.wrap IntKind.u8 z = z := by rw [IntKind.wrap_u8]; omega
  rw [e]
  obtain ⟨m, rfl⟩ : ∃ m : Nat, z = m := ⟨z.toNat, by omega⟩
  rw [Int.toNat_natCast]
  exact lenN_tab ⟨m, by omega⟩
theorem fdiv_nat (z : Int) (k : Nat) (h0 : 0 ≤ z) (hk : 0 < k) : Int.fdiv z (k : Int) = ((z.toNat / k : Nat) : Int) := by
  rw [Int.fdiv_eq_ediv_of_nonneg _ (by omega)]
  obtain ⟨m, rfl⟩ : ∃ m : Nat, z = m := ⟨z.toNat, by omega⟩
  simp
theorem lenN_le {n : Nat} : lenN n ≤ n ∧ 0 ≤ lenN n := by
  unfold lenN
  split
  · omega
  · have := @Nat.log2_lt n n (by omega)
    have h := this.2 Nat.lt_two_pow_self
    omega
theorem lenN_b {n k : Nat} (h : n < 2 ^ k) : lenN n ≤ k := by
  unfold lenN
  split
  · omega
  · have := (@Nat.log2_lt n k (by omega)).2 h
    omega
theorem len64_tail {c x : Int} {n : Nat} (hx : x = (n : Int)) (hn : n < 65536) (hc : 0 ≤ c ∧ c ≤ 48) :
    (bif decide (x ≥ 256) then IntKind.wrap IntKind.i64 ((c + 8) + IntKind.wrap IntKind.i64 (sAt SlLow_bytes0 (IntKind.wrap IntKind.u8 (Int.fdiv x 256)))) else IntKind.wrap IntKind.i64 (c + IntKind.wrap IntKind.i64 (sAt SlLow_bytes0 (IntKind.wrap IntKind.u8 x)))) = c + lenN n := by
  subst hx
  have hb := lenN_b (n := n) (k := 16) (by omega)
  have hb0 := (lenN_le (n := n)).2
  by_cases h : 256 ≤ n
  · have e : decide ((n : Int) ≥ 256) = true := by simp; omega
    rw [e, cond_true]
    have e2 : Int.fdiv (n : Int) 256 = ((n / 256 : Nat) : Int) := fdiv_nat (n : Int) 256 (by omega) (by decide)
    rw [e2, tab_eq (by omega) (by omega)]
    have e3 : ((n / 256 : Nat) : Int).toNat = n / 256 := by omega
    rw [e3]
    have h8 := lenN_div (n := n) (k := 8) (by omega)
    have hb2 := (lenN_le (n := n / 256)).2
    have : (2 : Nat) ^ 8 = 256 := rfl
    rw [this] at h8
    rw [w64 (n := lenN (n / 256)) (by omega), w64 (by omega)]
    omega
  · have e : decide ((n : Int) ≥ 256) = false := by simp; omega
    rw [e, cond_false, tab_eq (by omega) (by omega), Int.toNat_natCast, w64 (n := lenN n) (by omega), w64 (by omega)]
theorem bits_Len64_eq {x : Int} (h0 : 0 ≤ x) (h1 : x < 18446744073709551616) : bits_Len64 x = lenN x.toNat := by
  obtain ⟨n, rfl⟩ : ∃ n : Nat, x = n := ⟨x.toNat, by omega⟩
  rw [Int.toNat_natCast]
  unfold bits_Len64
  have f32 : ∀ m : Nat, Int.fdiv (m : Int) 4294967296 = ((m / 4294967296 : Nat) : Int) := fun m => fdiv_nat (m : Int) 4294967296 (by omega) (by decide)
  have f16 : ∀ m : Nat, Int.fdiv (m : Int) 65536 = ((m / 65536 : Nat) : Int) := fun m => fdiv_nat (m : Int) 65536 (by omega) (by decide)
  by_cases hA : 4294967296 ≤ n
  · have e : decide ((n : Int) ≥ 4294967296) = true := by simp; omega
    rw [e, cond_true, f32]
    have h32 := lenN_div (n := n) (k := 32) (by omega)
    have : (2 : Nat) ^ 32 = 4294967296 := rfl
    rw [this] at h32
    generalize hm : n / 4294967296 = m at *
    have hmb : m < 4294967296 := by omega
    by_cases hB : 65536 ≤ m
    · have e : decide ((m : Int) ≥ 65536) = true := by simp; omega
      rw [e, cond_true, f16]
      have h16 := lenN_div (n := m) (k := 16) (by omega)
      have : (2 : Nat) ^ 16 = 65536 := rfl
      rw [this] at h16
      have := len64_tail (c := 48) (x := ((m / 65536 : Nat) : Int)) rfl (by omega) (by omega)
      rw [h32, h16]
      exact this.trans (by push_cast; omega)
    · have e : decide ((m : Int) ≥ 65536) = false := by simp; omega
      rw [e, cond_false]
      have := len64_tail (c := 32) (x := (m : Int)) rfl (by omega) (by omega)
      rw [h32]
      exact this.trans (by push_cast; omega)
  · have e : decide ((n : Int) ≥ 4294967296) = false := by simp; omega
    rw [e, cond_false]
    by_cases hB : 65536 ≤ n
    · have e : decide ((n : Int) ≥ 65536) = true := by simp; omega
      rw [e, cond_true, f16]
      have h16 := lenN_div (n := n) (k := 16) (by omega)
      have : (2 : Nat) ^ 16 = 65536 := rfl
      rw [this] at h16
      have := len64_tail (c := 16) (x := ((n / 65536 : Nat) : Int)) rfl (by omega) (by omega)
      rw [h16]
      exact this.trans (by push_cast; omega)
    · have e : decide ((n : Int) ≥ 65536) = false := by simp; omega
      rw [e, cond_false]
      have := len64_tail (c := 0) (x := (n : Int)) rfl (by omega) (by omega)
      have h2 := this.trans (Int.zero_add _)
      rw [← h2]
      by_cases h8 : 256 ≤ n
      · have e : decide ((n : Int) ≥ 256) = true := by simp; omega
        rw [e]; rfl
      · have e : decide ((n : Int) ≥ 256) = false := by simp; omega
        rw [e]; simp
theorem half_Log_eq {n : Int} (h : n ≤ 9223372036854775807) : half_Log n = logI n := by
  unfold half_Log
  by_cases h1 : n < 1
  · rw [logI_lt h1]; simp [h1]
  · have e : decide (n < 1) = false := by simp; omega
    rw [e, cond_false, wu64 (by omega), bits_Len64_eq (by omega) (by omega)]
    unfold lenN logI
    rw [if_neg (by omega), if_neg (by omega), w64]
    · omega
    · have := (@Nat.log2_lt n.toNat 63 (by omega)).2 (by omega)
      omega
end Go.Proofs.YtnddjnnakkiidaaGreat
namespace Go.Proofs.YtnddjnnakkiidaaGreat
open Go.Sl
def link_page (s : VS) (t : Int) (p : Int) (h : Int) (hd : Int) (g : Int) : Bool := decide (g ≥ (0 : Int)) && decide (g < p)
def link_page_out (r_ : Bool) : List Value → Value := fun ss => .bool (r_)
def link_page_nw (p_0 : Addr) (s : VS) (r_ : Bool) : List (Chunk Sg) := [.obj p_0 (.view s)]
def link_page_rows (r_ : Bool) : List (Mk Sg) := []
section
variable (s : VS) (t : Int) (p : Int) (h : Int) (hd : Int) (g : Int) (p_0 : Addr)
theorem link_page_calls {E_ : World} {G_ : Hp} {w_ : World} (hS : Sat E_ G_ w_ [Dg p_0 ((.view s))]) : Calls Tryz.prog 132 #[(.agg #[.pointer (some p_0), .int .i64 t, .int .i64 p, .int .i64 h, .int .i64 hd]), (.int .i64 g)] w_ (Post Dg E_ G_ (link_page_out (link_page s t p h hd g)) (link_page_nw p_0 s (link_page s t p h hd g)) (link_page_rows (link_page s t p h hd g))) :=
  calls_post Dg T_r01_Log_ok (I := []) Tryz.func132 mix (B := bodyOf Tryz.f132) (by kernel_rfl) [(.agg #[.pointer (some p_0), .int .i64 t, .int .i64 p, .int .i64 h, .int .i64 hd]), (.int .i64 g)] [.many [.pt 0 .obj, .no, .no, .no, .no], .no] (by kernel_rfl) (objs := [.obj p_0 (.view s)]) (ros := []) (psOk_cons (by simp [pOk, psOk, cOk]) (psOk_cons pOk_no (psOk_nil))) (by kernel_rfl) (trivial) hS 400
    (t := Tree.fresh fun b => Tree.ret (Value.bool (decide (g ≥ (0 : Int)) && decide (g < p))) pn_ [Chunk.obj p_0 (Sg.view s), kc_ b 159 [(Value.pointer (some p_0), po_ 0), (vi_ t, pn_), (vi_ p, pn_), (vi_ h, pn_), (vi_ hd, pn_)]])
    (by kernel_rfl)
    (fun b0_0 => RetOk.at (outf := link_page_out) (nwf := link_page_nw p_0 _) (rowsf := link_page_rows) (r := decide (g ≥ (0 : Int)) && decide (g < p)) (by first | exact Eq.symm rfl | (simp only [link_page, cond_true, cond_false]; done) | (exfalso; simp_all; done) | decide) ⟨[], [0], (by decide), rfl, rfl, ⟨.inl rfl, trivial⟩⟩)
end
def link_page_e : Entry Sg := fun
  | [(.agg ⟨[.pointer (some p_0), .int .i64 t, .int .i64 p, .int .i64 h, .int .i64 hd]⟩, .many [.obj (.view s), .none, .none, .none, .none]), (.int .i64 g, _)] => some ⟨(link_page s t p h hd g), fun (r_ : Bool) => ⟨[], none, [], fun ss => .bool (r_), fun k_ => .no⟩⟩
  | _ => none
theorem link_page_ok : EntryOk Dg Tryz.prog 132 link_page_e := by
  intro args c r h hr_
  unfold link_page_e at h
  split at h
  · injection h with h; subst h; subst hr_
    refine ⟨fun K acs _ => pOk_no, fun hpre E G w hi hS => ?_⟩
    exact entry_post Dg (by exact rfl) (link_page_calls _ _ _ _ _ _ _  hS)
  · cases h
def T_link_page : List (Nat × Entry Sg) := (132, link_page_e) :: T_r01_Log
theorem T_link_page_ok : TableOk Dg Tryz.prog T_link_page := TableOk.cons Dg link_page_ok T_r01_Log_ok
def link_next (s : VS) (t : Int) (p : Int) (h : Int) (hd : Int) (g : Int) : Int := place_Next t p h g
def link_next_out (r_ : Int) : List Value → Value := fun ss => .int .i64 (r_)
def link_next_nw (p_0 : Addr) (s : VS) (r_ : Int) : List (Chunk Sg) := [.obj p_0 (.view s)]
def link_next_rows (r_ : Int) : List (Mk Sg) := []
section
variable (s : VS) (t : Int) (p : Int) (h : Int) (hd : Int) (g : Int) (p_0 : Addr)
theorem link_next_calls {E_ : World} {G_ : Hp} {w_ : World} (hS : Sat E_ G_ w_ [Dg p_0 ((.view s))]) : Calls Tryz.prog 133 #[(.agg #[.pointer (some p_0), .int .i64 t, .int .i64 p, .int .i64 h, .int .i64 hd]), (.int .i64 g)] w_ (Post Dg E_ G_ (link_next_out (link_next s t p h hd g)) (link_next_nw p_0 s (link_next s t p h hd g)) (link_next_rows (link_next s t p h hd g))) :=
  calls_post Dg T_link_page_ok (I := []) Tryz.func133 mix (B := bodyOf Tryz.f133) (by kernel_rfl) [(.agg #[.pointer (some p_0), .int .i64 t, .int .i64 p, .int .i64 h, .int .i64 hd]), (.int .i64 g)] [.many [.pt 0 .obj, .no, .no, .no, .no], .no] (by kernel_rfl) (objs := [.obj p_0 (.view s)]) (ros := []) (psOk_cons (by simp [pOk, psOk, cOk]) (psOk_cons pOk_no (psOk_nil))) (by kernel_rfl) (trivial) hS 400
    (t := Tree.fresh fun b => Tree.ret (vi_ (place_Next t p h g)) pn_ [Chunk.obj p_0 (Sg.view s), kc_ b 159 [(Value.pointer (some p_0), po_ 0), (vi_ t, pn_), (vi_ p, pn_), (vi_ h, pn_), (vi_ hd, pn_)]])
    (by kernel_rfl)
    (fun b0_0 => RetOk.at (outf := link_next_out) (nwf := link_next_nw p_0 _) (rowsf := link_next_rows) (r := place_Next t p h g) (by first | exact Eq.symm rfl | (simp only [link_next, cond_true, cond_false]; done) | (exfalso; simp_all; done) | decide) ⟨[], [0], (by decide), rfl, rfl, ⟨.inl rfl, trivial⟩⟩)
end
def link_next_e : Entry Sg := fun
  | [(.agg ⟨[.pointer (some p_0), .int .i64 t, .int .i64 p, .int .i64 h, .int .i64 hd]⟩, .many [.obj (.view s), .none, .none, .none, .none]), (.int .i64 g, _)] => some ⟨(link_next s t p h hd g), fun (r_ : Int) => ⟨[], none, [], fun ss => .int .i64 (r_), fun k_ => .no⟩⟩
  | _ => none
theorem link_next_ok : EntryOk Dg Tryz.prog 133 link_next_e := by
  intro args c r h hr_
  unfold link_next_e at h
  split at h
  · injection h with h; subst h; subst hr_
    refine ⟨fun K acs _ => pOk_no, fun hpre E G w hi hS => ?_⟩
    exact entry_post Dg (by exact rfl) (link_next_calls _ _ _ _ _ _ _  hS)
  · cases h
def T_link_next : List (Nat × Entry Sg) := (133, link_next_e) :: T_link_page
theorem T_link_next_ok : TableOk Dg Tryz.prog T_link_next := TableOk.cons Dg link_next_ok T_link_page_ok
def link_prev (s : VS) (t : Int) (p : Int) (h : Int) (hd : Int) (g : Int) : Int := place_Prev t p h g
def link_prev_out (r_ : Int) : List Value → Value := fun ss => .int .i64 (r_)
def link_prev_nw (p_0 : Addr) (s : VS) (r_ : Int) : List (Chunk Sg) := [.obj p_0 (.view s)]
def link_prev_rows (r_ : Int) : List (Mk Sg) := []
section
variable (s : VS) (t : Int) (p : Int) (h : Int) (hd : Int) (g : Int) (p_0 : Addr)
theorem link_prev_calls {E_ : World} {G_ : Hp} {w_ : World} (hS : Sat E_ G_ w_ [Dg p_0 ((.view s))]) : Calls Tryz.prog 134 #[(.agg #[.pointer (some p_0), .int .i64 t, .int .i64 p, .int .i64 h, .int .i64 hd]), (.int .i64 g)] w_ (Post Dg E_ G_ (link_prev_out (link_prev s t p h hd g)) (link_prev_nw p_0 s (link_prev s t p h hd g)) (link_prev_rows (link_prev s t p h hd g))) :=
  calls_post Dg T_link_next_ok (I := []) Tryz.func134 mix (B := bodyOf Tryz.f134) (by kernel_rfl) [(.agg #[.pointer (some p_0), .int .i64 t, .int .i64 p, .int .i64 h, .int .i64 hd]), (.int .i64 g)] [.many [.pt 0 .obj, .no, .no, .no, .no], .no] (by kernel_rfl) (objs := [.obj p_0 (.view s)]) (ros := []) (psOk_cons (by simp [pOk, psOk, cOk]) (psOk_cons pOk_no (psOk_nil))) (by kernel_rfl) (trivial) hS 400
    (t := Tree.fresh fun b => Tree.ret (vi_ (place_Prev t p h g)) pn_ [Chunk.obj p_0 (Sg.view s), kc_ b 159 [(Value.pointer (some p_0), po_ 0), (vi_ t, pn_), (vi_ p, pn_), (vi_ h, pn_), (vi_ hd, pn_)]])
    (by kernel_rfl)
    (fun b0_0 => RetOk.at (outf := link_prev_out) (nwf := link_prev_nw p_0 _) (rowsf := link_prev_rows) (r := place_Prev t p h g) (by first | exact Eq.symm rfl | (simp only [link_prev, cond_true, cond_false]; done) | (exfalso; simp_all; done) | decide) ⟨[], [0], (by decide), rfl, rfl, ⟨.inl rfl, trivial⟩⟩)
end
def link_prev_e : Entry Sg := fun
  | [(.agg ⟨[.pointer (some p_0), .int .i64 t, .int .i64 p, .int .i64 h, .int .i64 hd]⟩, .many [.obj (.view s), .none, .none, .none, .none]), (.int .i64 g, _)] => some ⟨(link_prev s t p h hd g), fun (r_ : Int) => ⟨[], none, [], fun ss => .int .i64 (r_), fun k_ => .no⟩⟩
  | _ => none
theorem link_prev_ok : EntryOk Dg Tryz.prog 134 link_prev_e := by
  intro args c r h hr_
  unfold link_prev_e at h
  split at h
  · injection h with h; subst h; subst hr_
    refine ⟨fun K acs _ => pOk_no, fun hpre E G w hi hS => ?_⟩
    exact entry_post Dg (by exact rfl) (link_prev_calls _ _ _ _ _ _ _  hS)
  · cases h
def T_link_prev : List (Nat × Entry Sg) := (134, link_prev_e) :: T_link_next
theorem T_link_prev_ok : TableOk Dg Tryz.prog T_link_prev := TableOk.cons Dg link_prev_ok T_link_next_ok
def link_to (q : Int) : Int := IntKind.wrap IntKind.i64 (IntKind.wrap IntKind.i64 q - (1 : Int))
def link_to_out (r_ : Int) : List Value → Value := fun ss => .int .i64 (r_)
def link_to_nw (r_ : Int) : List (Chunk Sg) := []
def link_to_rows (r_ : Int) : List (Mk Sg) := []
section
variable (q : Int)
theorem link_to_calls {E_ : World} {G_ : Hp} {w_ : World} (hS : Sat E_ G_ w_ []) : Calls Tryz.prog 135 #[(.int .u32 q)] w_ (Post Dg E_ G_ (link_to_out (link_to q)) (link_to_nw (link_to q)) (link_to_rows (link_to q))) :=
  calls_post Dg T_link_prev_ok (I := []) Tryz.func135 mix (B := bodyOf Tryz.f135) (by kernel_rfl) [(.int .u32 q)] [.no] (by kernel_rfl) (objs := []) (ros := []) (psOk_cons pOk_no (psOk_nil)) (by kernel_rfl) (trivial) hS 400
    (t := Tree.ret (vi_ (IntKind.wrap IntKind.i64 (IntKind.wrap IntKind.i64 q - (1 : Int)))) pn_ [])
    (by kernel_rfl)
    (RetOk.at (outf := link_to_out) (nwf := link_to_nw) (rowsf := link_to_rows) (r := IntKind.wrap IntKind.i64 (IntKind.wrap IntKind.i64 q - (1 : Int))) (by first | exact Eq.symm rfl | (simp only [link_to, cond_true, cond_false]; done) | (exfalso; simp_all; done) | decide) ⟨[], [], (by decide), rfl, rfl, trivial⟩)
end
def link_to_e : Entry Sg := fun
  | [(.int .u32 q, _)] => some ⟨(link_to q), fun (r_ : Int) => ⟨[], none, [], fun ss => .int .i64 (r_), fun k_ => .no⟩⟩
  | _ => none
theorem link_to_ok : EntryOk Dg Tryz.prog 135 link_to_e := by
  intro args c r h hr_
  unfold link_to_e at h
  split at h
  · injection h with h; subst h; subst hr_
    refine ⟨fun K acs _ => pOk_no, fun hpre E G w hi hS => ?_⟩
    exact entry_post Dg (by exact rfl) (link_to_calls _  hS)
  · cases h
def T_link_to : List (Nat × Entry Sg) := (135, link_to_e) :: T_link_prev
theorem T_link_to_ok : TableOk Dg Tryz.prog T_link_to := TableOk.cons Dg link_to_ok T_link_prev_ok
end Go.Proofs.YtnddjnnakkiidaaGreat
namespace Go.Proofs.YtnddjnnakkiidaaGreat
open Go.Sl
theorem wu32_bd (x : Int) : bd32 (IntKind.wrap IntKind.u32 x) := by
  rw [IntKind.wrap_u32]
  exact ⟨by omega, by omega⟩
theorem zero_bd : bd32 0 := ⟨by decide, by decide⟩
theorem wrapu_nv (x : Int) : IntKind.wrap IntKind.u32 x = nv x := by rw [IntKind.wrap_u32]; rfl
theorem w64g (s : VS) (i : Int) : IntKind.wrap IntKind.i64 (s.get i) = s.get i := by
  have := s.get_bd i
  exact w64 (by omega)
theorem w64g1 (s : VS) (i : Int) : IntKind.wrap IntKind.i64 (s.get i - 1) = s.get i - 1 := by
  have := s.get_bd i
  exact w64 (by omega)
theorem nvw (g : Int) : nv (IntKind.wrap IntKind.i64 (g + 1)) = nv (g + 1) := by rw [IntKind.wrap_i64]; unfold nv; omega
theorem nvw2 (g : Int) : nv (nv g + 1) = nv (g + 1) := by unfold nv; omega
theorem page_ne (t p h g : Int) : (decide (g < 0) || decide (g ≥ p)) = !Cf.page ⟨t, p, h⟩ g := by
  apply Bool.eq_iff_iff.2
  simp only [Cf.page, Bool.or_eq_true, decide_eq_true_eq, Bool.not_eq_true', Bool.and_eq_false_iff, decide_eq_false_iff_not]
  omega
theorem page_in (t p h g n : Int) (hp : p ≤ 9223372036854775807) : (!Cf.page ⟨t, p, h⟩ g || decide (n < 1) || decide (n > IntKind.wrap IntKind.i64 (p - g))) = !(Cf.page ⟨t, p, h⟩ g && (decide (1 ≤ n) && decide (n ≤ p - g))) := by
  cases hc : Cf.page ⟨t, p, h⟩ g with
  | false => rfl
  | true =>
    simp only [Cf.page, Bool.and_eq_true, decide_eq_true_eq] at hc
    rw [w64 (n := p - g) (by omega)]
    apply Bool.eq_iff_iff.2
    simp only [Bool.not_true, Bool.false_or, Bool.true_and, Bool.or_eq_true, decide_eq_true_eq, Bool.not_eq_true', Bool.and_eq_false_iff, decide_eq_false_iff_not]
    omega
theorem infoG (s : VS) (i : Int) : (info_Get (s.get i)).1 = (iGet (s.get i)).k ∧ (info_Get (s.get i)).2.1 = (iGet (s.get i)).l ∧ (info_Get (s.get i)).2.2.1 = (iGet (s.get i)).c := info_Get_i (VS.get_bd s i)
theorem infoG1 (s : VS) (i : Int) : (info_Get (s.get i)).1 = (iGet (s.get i)).k := (infoG s i).1
theorem infoG2 (s : VS) (i : Int) : (info_Get (s.get i)).2.1 = (iGet (s.get i)).l := (infoG s i).2.1
theorem infoG3 (s : VS) (i : Int) : (info_Get (s.get i)).2.2.1 = (iGet (s.get i)).c := (infoG s i).2.2
theorem rinfoG (s : VS) (i : Int) : (r09_Get (s.get i)).1 = (iGet (s.get i)).k ∧ (r09_Get (s.get i)).2.1 = (iGet (s.get i)).l ∧ (r09_Get (s.get i)).2.2.1 = (iGet (s.get i)).c := r09_Get_i (VS.get_bd s i)
theorem rinfoG1 (s : VS) (i : Int) : (r09_Get (s.get i)).1 = (iGet (s.get i)).k := (rinfoG s i).1
theorem rinfoG2 (s : VS) (i : Int) : (r09_Get (s.get i)).2.1 = (iGet (s.get i)).l := (rinfoG s i).2.1
theorem rinfoG3 (s : VS) (i : Int) : (r09_Get (s.get i)).2.2.1 = (iGet (s.get i)).c := (rinfoG s i).2.2
theorem link_page_eq (s : VS) (t p h hd g : Int) : link_page s t p h hd g = Cf.page ⟨t, p, h⟩ g := rfl
def link_Push (s : VS) (t : Int) (p : Int) (h : Int) (hd : Int) (g : Int) : VS := ((pPush ⟨t, p, h⟩ hd g).run s).1
abbrev c_link_Push : Ct Sg := ⟨some wView, false, [.agg [.i .i64, .i .i64, .i .i64], .i .i64, .i .i64], .skip⟩
def e_link_Push : Entry Sg := entC c_link_Push link_Push (fun _ _ _ _ _ _ => [])
def link_Push_w (s : VS) (t : Int) (p : Int) (h : Int) (hd : Int) (g : Int) (R_ : VS → Prop) : Prop := (∀ r2 : Bool, r2 = (link_page s t p h hd g) → (((!r2) = true → (R_ (s))) ∧ ((!r2) = false → (∀ r4 : VS × Int, r4 = ((VS.read s hd, VS.get s hd)) → (∀ r5 : VS, r5 = (VS.set (Prod.fst r4) (link_next (Prod.fst r4) t p h hd g) (Prod.snd r4)) → ((bd32 (Prod.snd r4)) ∧ ((bd32 (Prod.snd r4)) → (∀ r7 : VS, r7 = (VS.set r5 (link_prev r5 t p h hd g) (0 : Int)) → ((bd32 (0 : Int)) ∧ ((bd32 (0 : Int)) → (((Prod.snd r4 != (0 : Int)) = true → (∀ r10 : VS, r10 = (VS.set r7 (link_prev r7 t p h hd (link_to (Prod.snd r4))) (IntKind.wrap IntKind.u32 (IntKind.wrap IntKind.i64 (g + (1 : Int))))) → ((bd32 (IntKind.wrap IntKind.u32 (IntKind.wrap IntKind.i64 (g + (1 : Int))))) ∧ ((bd32 (IntKind.wrap IntKind.u32 (IntKind.wrap IntKind.i64 (g + (1 : Int))))) → (∀ r12 : VS, r12 = (VS.set r10 hd (IntKind.wrap IntKind.u32 (IntKind.wrap IntKind.i64 (g + (1 : Int))))) → ((bd32 (IntKind.wrap IntKind.u32 (IntKind.wrap IntKind.i64 (g + (1 : Int))))) ∧ ((bd32 (IntKind.wrap IntKind.u32 (IntKind.wrap IntKind.i64 (g + (1 : Int))))) → (R_ (r12))))))))) ∧ ((Prod.snd r4 != (0 : Int)) = false → (∀ r10 : VS, r10 = (VS.set r7 hd (IntKind.wrap IntKind.u32 (IntKind.wrap IntKind.i64 (g + (1 : Int))))) → ((bd32 (IntKind.wrap IntKind.u32 (IntKind.wrap IntKind.i64 (g + (1 : Int))))) ∧ ((bd32 (IntKind.wrap IntKind.u32 (IntKind.wrap IntKind.i64 (g + (1 : Int))))) → (R_ (r10)))))))))))))))))
theorem link_Push_begin (s : VS) (t : Int) (p : Int) (h : Int) (hd : Int) (g : Int) : link_Push_w s t p h hd g  (fun r__ => r__ = (link_Push s t p h hd g)) := by
  unfold link_Push_w
  repeat' first
    | (refine fun r hr => ?_; subst hr)
    | refine ⟨(by first | exact wu32_bd _ | exact VS.get_bd _ _ | exact zero_bd | exact iVal_bd _ _ _ | exact nv_bd _ | (rw [info_Put_val]; exact iVal_bd _ _ _) | (rw [r09_Value_eq]; exact iVal_bd _ _ _) | assumption | omega), fun _ => ?_⟩
    | refine ⟨fun hc => ?_, fun hc => ?_⟩
    | (refine fun hr => ?_; subst hr)
    | fail
  all_goals
    simp only [link_page_eq, page_ne t p h, link_next, link_prev, place_Next_eq, place_Prev_eq, r07_Next_eq, r07_Prev_eq, link_to, w64g, w64g1, wrapu_nv, nvw, nvw2, bne, Bool.not_eq_true', Bool.not_eq_false', reduceCtorEq] at *
  all_goals
    skip
  all_goals
    simp only [link_Push, pPush, Pg.run_get, Pg.run_put, Pg.run_ret, Pg.run_bind, Pg.run_cond, gt_iff_lt, cond_true, cond_false, *]
  all_goals
    try rfl
theorem link_Push_ok : EntryOk Dg Tryz.prog 88 e_link_Push :=
  ent_wp Dg T_link_to_ok (I := [2999998]) Tryz.func88 mix (B := bodyOf Tryz.f88) (by kernel_rfl) rfl (by kernel_rfl) 400
    fun p0 s t p h hd g hb hp => ⟨[], fun j => List.getD [] j (fun _ => False), fun j => List.getD [] j (fun _ => (0, 0, 0)), by kernel_rfl, ⟨link_Push_w s t p h hd g  (fun r__ => r__ = (link_Push s t p h hd g)), fun _ _ _ => by kernel_rfl, link_Push_begin s t p h hd g ⟩, trivial⟩
def T_link_Push : List (Nat × Entry Sg) := (88, e_link_Push) :: T_link_to
theorem T_link_Push_ok : TableOk Dg Tryz.prog T_link_Push := TableOk.cons Dg link_Push_ok T_link_to_ok
def link_Pull (s : VS) (t : Int) (p : Int) (h : Int) (hd : Int) (g : Int) : VS := ((pPull ⟨t, p, h⟩ hd g).run s).1
abbrev c_link_Pull : Ct Sg := ⟨some wView, false, [.agg [.i .i64, .i .i64, .i .i64], .i .i64, .i .i64], .skip⟩
def e_link_Pull : Entry Sg := entC c_link_Pull link_Pull (fun _ _ _ _ _ _ => [])
def link_Pull_w (s : VS) (t : Int) (p : Int) (h : Int) (hd : Int) (g : Int) (R_ : VS → Prop) : Prop := (∀ r2 : Bool, r2 = (link_page s t p h hd g) → (((!r2) = true → (R_ (s))) ∧ ((!r2) = false → (∀ r4 : VS × Int, r4 = ((VS.read s (link_next s t p h hd g), VS.get s (link_next s t p h hd g))) → (∀ r5 : VS × Int, r5 = ((VS.read (Prod.fst r4) (link_prev (Prod.fst r4) t p h hd g), VS.get (Prod.fst r4) (link_prev (Prod.fst r4) t p h hd g))) → (((Prod.snd r5 == (0 : Int)) = true → (∀ r7 : VS, r7 = (VS.set (Prod.fst r5) hd (Prod.snd r4)) → ((bd32 (Prod.snd r4)) ∧ ((bd32 (Prod.snd r4)) → (((Prod.snd r4 != (0 : Int)) = true → (∀ r10 : VS, r10 = (VS.set r7 (link_prev r7 t p h hd (link_to (Prod.snd r4))) (Prod.snd r5)) → ((bd32 (Prod.snd r5)) ∧ ((bd32 (Prod.snd r5)) → (∀ r12 : VS, r12 = (VS.set r10 (link_next r10 t p h hd g) (0 : Int)) → ((bd32 (0 : Int)) ∧ ((bd32 (0 : Int)) → (∀ r14 : VS, r14 = (VS.set r12 (link_prev r12 t p h hd g) (0 : Int)) → ((bd32 (0 : Int)) ∧ ((bd32 (0 : Int)) → (R_ (r14)))))))))))) ∧ ((Prod.snd r4 != (0 : Int)) = false → (∀ r10 : VS, r10 = (VS.set r7 (link_next r7 t p h hd g) (0 : Int)) → ((bd32 (0 : Int)) ∧ ((bd32 (0 : Int)) → (∀ r12 : VS, r12 = (VS.set r10 (link_prev r10 t p h hd g) (0 : Int)) → ((bd32 (0 : Int)) ∧ ((bd32 (0 : Int)) → (R_ (r12)))))))))))))) ∧ ((Prod.snd r5 == (0 : Int)) = false → (∀ r7 : VS, r7 = (VS.set (Prod.fst r5) (link_next (Prod.fst r5) t p h hd (link_to (Prod.snd r5))) (Prod.snd r4)) → ((bd32 (Prod.snd r4)) ∧ ((bd32 (Prod.snd r4)) → (((Prod.snd r4 != (0 : Int)) = true → (∀ r10 : VS, r10 = (VS.set r7 (link_prev r7 t p h hd (link_to (Prod.snd r4))) (Prod.snd r5)) → ((bd32 (Prod.snd r5)) ∧ ((bd32 (Prod.snd r5)) → (∀ r12 : VS, r12 = (VS.set r10 (link_next r10 t p h hd g) (0 : Int)) → ((bd32 (0 : Int)) ∧ ((bd32 (0 : Int)) → (∀ r14 : VS, r14 = (VS.set r12 (link_prev r12 t p h hd g) (0 : Int)) → ((bd32 (0 : Int)) ∧ ((bd32 (0 : Int)) → (R_ (r14)))))))))))) ∧ ((Prod.snd r4 != (0 : Int)) = false → (∀ r10 : VS, r10 = (VS.set r7 (link_next r7 t p h hd g) (0 : Int)) → ((bd32 (0 : Int)) ∧ ((bd32 (0 : Int)) → (∀ r12 : VS, r12 = (VS.set r10 (link_prev r10 t p h hd g) (0 : Int)) → ((bd32 (0 : Int)) ∧ ((bd32 (0 : Int)) → (R_ (r12))))))))))))))))))))
theorem link_Pull_begin (s : VS) (t : Int) (p : Int) (h : Int) (hd : Int) (g : Int) : link_Pull_w s t p h hd g  (fun r__ => r__ = (link_Pull s t p h hd g)) := by
  unfold link_Pull_w
  repeat' first
    | (refine fun r hr => ?_; subst hr)
    | refine ⟨(by first | exact wu32_bd _ | exact VS.get_bd _ _ | exact zero_bd | exact iVal_bd _ _ _ | exact nv_bd _ | (rw [info_Put_val]; exact iVal_bd _ _ _) | (rw [r09_Value_eq]; exact iVal_bd _ _ _) | assumption | omega), fun _ => ?_⟩
    | refine ⟨fun hc => ?_, fun hc => ?_⟩
    | (refine fun hr => ?_; subst hr)
    | fail
  all_goals
    simp only [link_page_eq, page_ne t p h, link_next, link_prev, place_Next_eq, place_Prev_eq, r07_Next_eq, r07_Prev_eq, link_to, w64g, w64g1, wrapu_nv, nvw, nvw2, bne, Bool.not_eq_true', Bool.not_eq_false', reduceCtorEq] at *
  all_goals
    skip
  all_goals
    simp only [link_Pull, pPull, Pg.run_get, Pg.run_put, Pg.run_ret, Pg.run_bind, Pg.run_cond, gt_iff_lt, cond_true, cond_false, *]
  all_goals
    try rfl
theorem link_Pull_ok : EntryOk Dg Tryz.prog 62 e_link_Pull :=
  ent_wp Dg T_link_Push_ok (I := [2999998]) Tryz.func62 mix (B := bodyOf Tryz.f62) (by kernel_rfl) rfl (by kernel_rfl) 400
    fun p0 s t p h hd g hb hp => ⟨[], fun j => List.getD [] j (fun _ => False), fun j => List.getD [] j (fun _ => (0, 0, 0)), by kernel_rfl, ⟨link_Pull_w s t p h hd g  (fun r__ => r__ = (link_Pull s t p h hd g)), fun _ _ _ => by kernel_rfl, link_Pull_begin s t p h hd g ⟩, trivial⟩
def T_link_Pull : List (Nat × Entry Sg) := (62, e_link_Pull) :: T_link_Push
theorem T_link_Pull_ok : TableOk Dg Tryz.prog T_link_Pull := TableOk.cons Dg link_Pull_ok T_link_Push_ok
def r13_Push (s : VS) (t : Int) (p : Int) (h : Int) (hd : Int) (g : Int) : VS := ((pPush ⟨t, p, h⟩ hd g).run s).1
abbrev c_r13_Push : Ct Sg := ⟨some wRef, false, [.agg [.i .i64, .i .i64, .i .i64], .i .i64, .i .i64], .skip⟩
def e_r13_Push : Entry Sg := entC c_r13_Push r13_Push (fun _ _ _ _ _ _ => [])
def r13_Push_w (s : VS) (t : Int) (p : Int) (h : Int) (hd : Int) (g : Int) (R_ : VS → Prop) : Prop := (((decide (g < (0 : Int)) || decide (g ≥ p)) = true → (R_ (s))) ∧ ((decide (g < (0 : Int)) || decide (g ≥ p)) = false → (∀ r2 : VS × Int, r2 = ((VS.read s hd, VS.get s hd)) → (∀ r3 : Int, r3 = (r07_Next t p h g) → (∀ r4 : VS, r4 = (VS.set (Prod.fst r2) r3 (Prod.snd r2)) → ((bd32 (Prod.snd r2)) ∧ ((bd32 (Prod.snd r2)) → (∀ r6 : Int, r6 = (r07_Prev t p h g) → (∀ r7 : VS, r7 = (VS.set r4 r6 (0 : Int)) → ((bd32 (0 : Int)) ∧ ((bd32 (0 : Int)) → (((Prod.snd r2 != (0 : Int)) = true → (∀ r10 : Int, r10 = (r07_Prev t p h (IntKind.wrap IntKind.i64 (IntKind.wrap IntKind.i64 (Prod.snd r2) - (1 : Int)))) → (∀ r11 : VS, r11 = (VS.set r7 r10 (IntKind.wrap IntKind.u32 (IntKind.wrap IntKind.u32 g + (1 : Int)))) → ((bd32 (IntKind.wrap IntKind.u32 (IntKind.wrap IntKind.u32 g + (1 : Int)))) ∧ ((bd32 (IntKind.wrap IntKind.u32 (IntKind.wrap IntKind.u32 g + (1 : Int)))) → (∀ r13 : VS, r13 = (VS.set r11 hd (IntKind.wrap IntKind.u32 (IntKind.wrap IntKind.u32 g + (1 : Int)))) → ((bd32 (IntKind.wrap IntKind.u32 (IntKind.wrap IntKind.u32 g + (1 : Int)))) ∧ ((bd32 (IntKind.wrap IntKind.u32 (IntKind.wrap IntKind.u32 g + (1 : Int)))) → (R_ (r13)))))))))) ∧ ((Prod.snd r2 != (0 : Int)) = false → (∀ r10 : VS, r10 = (VS.set r7 hd (IntKind.wrap IntKind.u32 (IntKind.wrap IntKind.u32 g + (1 : Int)))) → ((bd32 (IntKind.wrap IntKind.u32 (IntKind.wrap IntKind.u32 g + (1 : Int)))) ∧ ((bd32 (IntKind.wrap IntKind.u32 (IntKind.wrap IntKind.u32 g + (1 : Int)))) → (R_ (r10))))))))))))))))))
theorem r13_Push_begin (s : VS) (t : Int) (p : Int) (h : Int) (hd : Int) (g : Int) : r13_Push_w s t p h hd g  (fun r__ => r__ = (r13_Push s t p h hd g)) := by
  unfold r13_Push_w
  repeat' first
    | (refine fun r hr => ?_; subst hr)
    | refine ⟨(by first | exact wu32_bd _ | exact VS.get_bd _ _ | exact zero_bd | exact iVal_bd _ _ _ | exact nv_bd _ | (rw [info_Put_val]; exact iVal_bd _ _ _) | (rw [r09_Value_eq]; exact iVal_bd _ _ _) | assumption | omega), fun _ => ?_⟩
    | refine ⟨fun hc => ?_, fun hc => ?_⟩
    | (refine fun hr => ?_; subst hr)
    | fail
  all_goals
    simp only [link_page_eq, page_ne t p h, link_next, link_prev, place_Next_eq, place_Prev_eq, r07_Next_eq, r07_Prev_eq, link_to, w64g, w64g1, wrapu_nv, nvw, nvw2, bne, Bool.not_eq_true', Bool.not_eq_false', reduceCtorEq] at *
  all_goals
    skip
  all_goals
    simp only [r13_Push, pPush, Pg.run_get, Pg.run_put, Pg.run_ret, Pg.run_bind, Pg.run_cond, gt_iff_lt, cond_true, cond_false, *]
  all_goals
    try rfl
theorem r13_Push_ok : EntryOk Dg Tryz.prog 70 e_r13_Push :=
  ent_wp Dg T_link_Pull_ok (I := [2999998]) Tryz.func70 mix (B := bodyOf Tryz.f70) (by kernel_rfl) rfl (by kernel_rfl) 400
    fun p0 s t p h hd g hb hp => ⟨[], fun j => List.getD [] j (fun _ => False), fun j => List.getD [] j (fun _ => (0, 0, 0)), by kernel_rfl, ⟨r13_Push_w s t p h hd g  (fun r__ => r__ = (r13_Push s t p h hd g)), fun _ _ _ => by kernel_rfl, r13_Push_begin s t p h hd g ⟩, trivial⟩
def T_r13_Push : List (Nat × Entry Sg) := (70, e_r13_Push) :: T_link_Pull
theorem T_r13_Push_ok : TableOk Dg Tryz.prog T_r13_Push := TableOk.cons Dg r13_Push_ok T_link_Pull_ok
def r13_Pull (s : VS) (t : Int) (p : Int) (h : Int) (hd : Int) (g : Int) : VS := ((pPull ⟨t, p, h⟩ hd g).run s).1
abbrev c_r13_Pull : Ct Sg := ⟨some wRef, false, [.agg [.i .i64, .i .i64, .i .i64], .i .i64, .i .i64], .skip⟩
def e_r13_Pull : Entry Sg := entC c_r13_Pull r13_Pull (fun _ _ _ _ _ _ => [])
def r13_Pull_w (s : VS) (t : Int) (p : Int) (h : Int) (hd : Int) (g : Int) (R_ : VS → Prop) : Prop := (((decide (g < (0 : Int)) || decide (g ≥ p)) = true → (R_ (s))) ∧ ((decide (g < (0 : Int)) || decide (g ≥ p)) = false → (∀ r2 : Int, r2 = (r07_Next t p h g) → (∀ r3 : VS × Int, r3 = ((VS.read s r2, VS.get s r2)) → (∀ r4 : Int, r4 = (r07_Prev t p h g) → (∀ r5 : VS × Int, r5 = ((VS.read (Prod.fst r3) r4, VS.get (Prod.fst r3) r4)) → (((Prod.snd r5 == (0 : Int)) = true → (∀ r7 : VS, r7 = (VS.set (Prod.fst r5) hd (Prod.snd r3)) → ((bd32 (Prod.snd r3)) ∧ ((bd32 (Prod.snd r3)) → (((Prod.snd r3 != (0 : Int)) = true → (∀ r10 : Int, r10 = (r07_Prev t p h (IntKind.wrap IntKind.i64 (IntKind.wrap IntKind.i64 (Prod.snd r3) - (1 : Int)))) → (∀ r11 : VS, r11 = (VS.set r7 r10 (Prod.snd r5)) → ((bd32 (Prod.snd r5)) ∧ ((bd32 (Prod.snd r5)) → (∀ r13 : Int, r13 = (r07_Next t p h g) → (∀ r14 : VS, r14 = (VS.set r11 r13 (0 : Int)) → ((bd32 (0 : Int)) ∧ ((bd32 (0 : Int)) → (∀ r16 : Int, r16 = (r07_Prev t p h g) → (∀ r17 : VS, r17 = (VS.set r14 r16 (0 : Int)) → ((bd32 (0 : Int)) ∧ ((bd32 (0 : Int)) → (R_ (r17))))))))))))))) ∧ ((Prod.snd r3 != (0 : Int)) = false → (∀ r10 : Int, r10 = (r07_Next t p h g) → (∀ r11 : VS, r11 = (VS.set r7 r10 (0 : Int)) → ((bd32 (0 : Int)) ∧ ((bd32 (0 : Int)) → (∀ r13 : Int, r13 = (r07_Prev t p h g) → (∀ r14 : VS, r14 = (VS.set r11 r13 (0 : Int)) → ((bd32 (0 : Int)) ∧ ((bd32 (0 : Int)) → (R_ (r14)))))))))))))))) ∧ ((Prod.snd r5 == (0 : Int)) = false → (∀ r7 : Int, r7 = (r07_Next t p h (IntKind.wrap IntKind.i64 (IntKind.wrap IntKind.i64 (Prod.snd r5) - (1 : Int)))) → (∀ r8 : VS, r8 = (VS.set (Prod.fst r5) r7 (Prod.snd r3)) → ((bd32 (Prod.snd r3)) ∧ ((bd32 (Prod.snd r3)) → (((Prod.snd r3 != (0 : Int)) = true → (∀ r11 : Int, r11 = (r07_Prev t p h (IntKind.wrap IntKind.i64 (IntKind.wrap IntKind.i64 (Prod.snd r3) - (1 : Int)))) → (∀ r12 : VS, r12 = (VS.set r8 r11 (Prod.snd r5)) → ((bd32 (Prod.snd r5)) ∧ ((bd32 (Prod.snd r5)) → (∀ r14 : Int, r14 = (r07_Next t p h g) → (∀ r15 : VS, r15 = (VS.set r12 r14 (0 : Int)) → ((bd32 (0 : Int)) ∧ ((bd32 (0 : Int)) → (∀ r17 : Int, r17 = (r07_Prev t p h g) → (∀ r18 : VS, r18 = (VS.set r15 r17 (0 : Int)) → ((bd32 (0 : Int)) ∧ ((bd32 (0 : Int)) → (R_ (r18))))))))))))))) ∧ ((Prod.snd r3 != (0 : Int)) = false → (∀ r11 : Int, r11 = (r07_Next t p h g) → (∀ r12 : VS, r12 = (VS.set r8 r11 (0 : Int)) → ((bd32 (0 : Int)) ∧ ((bd32 (0 : Int)) → (∀ r14 : Int, r14 = (r07_Prev t p h g) → (∀ r15 : VS, r15 = (VS.set r12 r14 (0 : Int)) → ((bd32 (0 : Int)) ∧ ((bd32 (0 : Int)) → (R_ (r15))))))))))))))))))))))))
theorem r13_Pull_begin (s : VS) (t : Int) (p : Int) (h : Int) (hd : Int) (g : Int) : r13_Pull_w s t p h hd g  (fun r__ => r__ = (r13_Pull s t p h hd g)) := by
  unfold r13_Pull_w
  repeat' first
    | (refine fun r hr => ?_; subst hr)
    | refine ⟨(by first | exact wu32_bd _ | exact VS.get_bd _ _ | exact zero_bd | exact iVal_bd _ _ _ | exact nv_bd _ | (rw [info_Put_val]; exact iVal_bd _ _ _) | (rw [r09_Value_eq]; exact iVal_bd _ _ _) | assumption | omega), fun _ => ?_⟩
    | refine ⟨fun hc => ?_, fun hc => ?_⟩
    | (refine fun hr => ?_; subst hr)
    | fail
  all_goals
    simp only [link_page_eq, page_ne t p h, link_next, link_prev, place_Next_eq, place_Prev_eq, r07_Next_eq, r07_Prev_eq, link_to, w64g, w64g1, wrapu_nv, nvw, nvw2, bne, Bool.not_eq_true', Bool.not_eq_false', reduceCtorEq] at *
  all_goals
    skip
  all_goals
    simp only [r13_Pull, pPull, Pg.run_get, Pg.run_put, Pg.run_ret, Pg.run_bind, Pg.run_cond, gt_iff_lt, cond_true, cond_false, *]
  all_goals
    try rfl
theorem r13_Pull_ok : EntryOk Dg Tryz.prog 75 e_r13_Pull :=
  ent_wp Dg T_r13_Push_ok (I := [2999998]) Tryz.func75 mix (B := bodyOf Tryz.f75) (by kernel_rfl) rfl (by kernel_rfl) 400
    fun p0 s t p h hd g hb hp => ⟨[], fun j => List.getD [] j (fun _ => False), fun j => List.getD [] j (fun _ => (0, 0, 0)), by kernel_rfl, ⟨r13_Pull_w s t p h hd g  (fun r__ => r__ = (r13_Pull s t p h hd g)), fun _ _ _ => by kernel_rfl, r13_Pull_begin s t p h hd g ⟩, trivial⟩
def T_r13_Pull : List (Nat × Entry Sg) := (75, e_r13_Pull) :: T_r13_Push
theorem T_r13_Pull_ok : TableOk Dg Tryz.prog T_r13_Pull := TableOk.cons Dg r13_Pull_ok T_r13_Push_ok
def bin_Of (n : Int) : Int := binOf n
def bin_Of_v (n : Int) : Int := (bif decide (n > (1024 : Int)) then (-1 : Int) else half_Log n)
abbrev c_bin_Of : Ct Sg := ⟨none, false, [.i .i64], .i .i64⟩
def e_bin_Of : Entry Sg := entC c_bin_Of bin_Of (fun _ => [])
theorem bin_Of_eq (n : Int) : bin_Of_v n = (bin_Of n) := by
  unfold bin_Of_v bin_Of binOf
  by_cases hn : n > 1024
  · simp [hn]
  · have e : decide (n > 1024) = false := by simpa using hn
    rw [e]; exact half_Log_eq (by omega)
theorem bin_Of_ok : EntryOk Dg Tryz.prog 192 e_bin_Of :=
  ent_ok Dg T_r13_Pull_ok (I := []) Tryz.func192 mix (B := bodyOf Tryz.f192) (by kernel_rfl) rfl (by kernel_rfl) 400
    fun _ n hb hp => ⟨(bin_Of_v n), .t, fun _ _ _ => by kernel_rfl, trivial, bin_Of_eq n ⟩
def T_bin_Of : List (Nat × Entry Sg) := (192, e_bin_Of) :: T_r13_Pull
theorem T_bin_Of_ok : TableOk Dg Tryz.prog T_bin_Of := TableOk.cons Dg bin_Of_ok T_r13_Pull_ok
def r14_Of (n : Int) : Int := binOf n
abbrev c_r14_Of : Ct Sg := ⟨none, false, [.i .i64], .i .i64⟩
def e_r14_Of : Entry Sg := entC c_r14_Of r14_Of (fun _ => [])
def r14_Of_w (n : Int) (R_ : Int → Prop) : Prop := (((decide (n < (1 : Int)) || decide (n > (1024 : Int))) = true → (R_ ((-1 : Int)))) ∧ ((decide (n < (1 : Int)) || decide (n > (1024 : Int))) = false → (∀ r1 : Int, r1 = (r01_Log n) → ((n ≤ (9223372036854775807 : Int)) ∧ ((n ≤ (9223372036854775807 : Int)) → (R_ (r1)))))))
theorem r14_Of_begin (n : Int) : r14_Of_w n  (fun r__ => r__ = (r14_Of n)) := by
  unfold r14_Of_w
  refine ⟨fun hc => ?_, fun hc r hr => ?_⟩
  · show (-1 : Int) = binOf n
    unfold binOf
    simp only [Bool.or_eq_true, decide_eq_true_eq] at hc
    by_cases hn : n > 1024
    · simp [hn]
    · have e : decide (n > 1024) = false := by simpa using hn
      rw [e, cond_false, logI_lt (by omega)]
  · subst hr
    simp only [Bool.or_eq_false_iff, decide_eq_false_iff_not] at hc
    refine ⟨by omega, fun _ => ?_⟩
    show r01_Log n = binOf n
    unfold binOf r01_Log
    have e : decide (n > 1024) = false := by simpa using hc.2
    rw [e]; rfl
theorem r14_Of_ok : EntryOk Dg Tryz.prog 185 e_r14_Of :=
  ent_wp Dg T_bin_Of_ok (I := [2999998]) Tryz.func185 mix (B := bodyOf Tryz.f185) (by kernel_rfl) rfl (by kernel_rfl) 400
    fun p0 n hb hp => ⟨[], fun j => List.getD [] j (fun _ => False), fun j => List.getD [] j (fun _ => (0, 0, 0)), by kernel_rfl, ⟨r14_Of_w n  (fun r__ => r__ = (r14_Of n)), fun _ _ _ => by kernel_rfl, r14_Of_begin n ⟩, trivial⟩
def T_r14_Of : List (Nat × Entry Sg) := (185, e_r14_Of) :: T_bin_Of
theorem T_r14_Of_ok : TableOk Dg Tryz.prog T_r14_Of := TableOk.cons Dg r14_Of_ok T_bin_Of_ok
def bin_page (t : Int) (p : Int) (h : Int) (g : Int) : Bool := Cf.page ⟨t, p, h⟩ g
def bin_page_v (t : Int) (p : Int) (h : Int) (g : Int) : Bool := decide (g ≥ (0 : Int)) && decide (g < p)
abbrev c_bin_page : Ct Sg := ⟨none, false, [.agg [.i .i64, .i .i64, .i .i64], .i .i64], .b⟩
def e_bin_page : Entry Sg := entC c_bin_page bin_page (fun _ _ _ _ => [])
theorem bin_page_eq (t : Int) (p : Int) (h : Int) (g : Int) : bin_page_v t p h g = (bin_page t p h g) := by
  rfl
theorem bin_page_ok : EntryOk Dg Tryz.prog 190 e_bin_page :=
  ent_ok Dg T_r14_Of_ok (I := []) Tryz.func190 mix (B := bodyOf Tryz.f190) (by kernel_rfl) rfl (by kernel_rfl) 400
    fun _ t p h g hb hp => ⟨(bin_page_v t p h g), .t, fun _ _ _ => by kernel_rfl, trivial, bin_page_eq t p h g ⟩
def T_bin_page : List (Nat × Entry Sg) := (190, e_bin_page) :: T_r14_Of
theorem T_bin_page_ok : TableOk Dg Tryz.prog T_bin_page := TableOk.cons Dg bin_page_ok T_r14_Of_ok
def bin_Add (s : VS) (t : Int) (p : Int) (h : Int) (g : Int) (n : Int) : VS := ((pAdd ⟨t, p, h⟩ g n).run s).1
abbrev c_bin_Add : Ct Sg := ⟨some wView, false, [.agg [.i .i64, .i .i64, .i .i64], .i .i64, .i .i64], .skip⟩
def e_bin_Add : Entry Sg := entC c_bin_Add bin_Add (fun s t p h g n => [p ≤ 1024])
def bin_Add_w (s : VS) (t : Int) (p : Int) (h : Int) (g : Int) (n : Int) (R_ : VS → Prop) : Prop := (∀ r1 : Bool, r1 = (bin_page t p h g) → (((!r1 || decide (n < (1 : Int)) || decide (n > IntKind.wrap IntKind.i64 (p - g))) = true → (R_ (s))) ∧ ((!r1 || decide (n < (1 : Int)) || decide (n > IntKind.wrap IntKind.i64 (p - g))) = false → (∀ r3 : Int × Bool, r3 = (info_Put (1 : Int) n (0 : Int)) → (∀ r4 : Int, r4 = (place_Info t p h g) → (∀ r5 : VS, r5 = (VS.set s r4 (Prod.fst r3)) → ((bd32 (Prod.fst r3)) ∧ ((bd32 (Prod.fst r3)) → (∀ r7 : Int, r7 = (place_Foot t p h (IntKind.wrap IntKind.i64 (IntKind.wrap IntKind.i64 (g + n) - (1 : Int)))) → (∀ r8 : VS, r8 = (VS.set r5 r7 (IntKind.wrap IntKind.u32 (IntKind.wrap IntKind.i64 (g + (1 : Int))))) → ((bd32 (IntKind.wrap IntKind.u32 (IntKind.wrap IntKind.i64 (g + (1 : Int))))) ∧ ((bd32 (IntKind.wrap IntKind.u32 (IntKind.wrap IntKind.i64 (g + (1 : Int))))) → (∀ r10 : VS, r10 = (link_Push r8 t p h (place_Bin (bin_Of n)) g) → (R_ (r10)))))))))))))))
theorem bin_Add_begin (s : VS) (t : Int) (p : Int) (h : Int) (g : Int) (n : Int) (hp0 : p ≤ 1024) : bin_Add_w s t p h g n  (fun r__ => r__ = (bin_Add s t p h g n)) := by
  unfold bin_Add_w
  repeat' first
    | (refine fun r hr => ?_; subst hr)
    | refine ⟨(by first | exact wu32_bd _ | exact VS.get_bd _ _ | exact zero_bd | exact iVal_bd _ _ _ | exact nv_bd _ | (rw [info_Put_val]; exact iVal_bd _ _ _) | (rw [r09_Value_eq]; exact iVal_bd _ _ _) | assumption | omega), fun _ => ?_⟩
    | refine ⟨fun hc => ?_, fun hc => ?_⟩
    | (refine fun hr => ?_; subst hr)
    | fail
  all_goals
    simp only [link_page_eq, page_ne t p h, link_next, link_prev, place_Next_eq, place_Prev_eq, r07_Next_eq, r07_Prev_eq, link_to, w64g, w64g1, wrapu_nv, nvw, nvw2, bin_page, place_Info_eq, place_Foot_eq, r07_Info_eq, r07_Foot_eq, place_Bin_eq, r07_Bin_eq, info_Put_val, r09_Value_eq, bin_Of, r14_Of, infoG1, infoG2, infoG3, rinfoG1, rinfoG2, rinfoG3, gt_iff_lt, page_in t p h g n (by omega), link_Push, bne, Bool.not_eq_true', Bool.not_eq_false', reduceCtorEq] at *
  all_goals
    skip
    try (have hx := hc; simp only [Bool.and_eq_true, decide_eq_true_eq, Cf.page] at hx; rw [w64 (n := g + n) (by omega), w64 (n := g + n - 1) (by omega)]; clear hx)
  all_goals
    simp only [bin_Add, pAdd, Pg.run_get, Pg.run_put, Pg.run_ret, Pg.run_bind, Pg.run_cond, gt_iff_lt, cond_true, cond_false, *]
  all_goals
    try rfl
theorem bin_Add_ok : EntryOk Dg Tryz.prog 154 e_bin_Add :=
  ent_wp Dg T_bin_page_ok (I := [2999998]) Tryz.func154 mix (B := bodyOf Tryz.f154) (by kernel_rfl) rfl (by kernel_rfl) 400
    fun p0 s t p h g n hb hp => have hp0 : p ≤ 1024 := hp _ (.head _); ⟨[], fun j => List.getD [] j (fun _ => False), fun j => List.getD [] j (fun _ => (0, 0, 0)), by kernel_rfl, ⟨bin_Add_w s t p h g n  (fun r__ => r__ = (bin_Add s t p h g n)), fun _ _ _ => by kernel_rfl, bin_Add_begin s t p h g n hp0 ⟩, trivial⟩
def T_bin_Add : List (Nat × Entry Sg) := (154, e_bin_Add) :: T_bin_page
theorem T_bin_Add_ok : TableOk Dg Tryz.prog T_bin_Add := TableOk.cons Dg bin_Add_ok T_bin_page_ok
def bin_free (s : VS) (t : Int) (p : Int) (h : Int) (g : Int) : VS × Int := (pFree ⟨t, p, h⟩ g).run s
abbrev c_bin_free : Ct Sg := ⟨some wView, false, [.agg [.i .i64, .i .i64, .i .i64], .i .i64], .i .i64⟩
def e_bin_free : Entry Sg := entC c_bin_free bin_free (fun _ _ _ _ _ => [])
def bin_free_w (s : VS) (t : Int) (p : Int) (h : Int) (g : Int) (R_ : VS × Int → Prop) : Prop := (∀ r1 : Int, r1 = (place_Info t p h g) → (∀ r2 : VS × Int, r2 = ((VS.read s r1, VS.get s r1)) → (∀ r3 : Int × Int × Int × Bool, r3 = (info_Get (Prod.snd r2)) → (((Prod.fst r3 != (1 : Int)) = true → (R_ ((Prod.fst r2, (0 : Int))))) ∧ ((Prod.fst r3 != (1 : Int)) = false → (R_ ((Prod.fst r2, Prod.fst (Prod.snd r3)))))))))
theorem bin_free_begin (s : VS) (t : Int) (p : Int) (h : Int) (g : Int) : bin_free_w s t p h g  (fun r__ => r__ = (bin_free s t p h g)) := by
  unfold bin_free_w
  repeat' first
    | (refine fun r hr => ?_; subst hr)
    | refine ⟨(by first | exact wu32_bd _ | exact VS.get_bd _ _ | exact zero_bd | exact iVal_bd _ _ _ | exact nv_bd _ | (rw [info_Put_val]; exact iVal_bd _ _ _) | (rw [r09_Value_eq]; exact iVal_bd _ _ _) | assumption | omega), fun _ => ?_⟩
    | refine ⟨fun hc => ?_, fun hc => ?_⟩
    | (refine fun hr => ?_; subst hr)
    | fail
  all_goals
    simp only [link_page_eq, page_ne t p h, link_next, link_prev, place_Next_eq, place_Prev_eq, r07_Next_eq, r07_Prev_eq, link_to, w64g, w64g1, wrapu_nv, nvw, nvw2, bin_page, place_Info_eq, place_Foot_eq, r07_Info_eq, r07_Foot_eq, place_Bin_eq, r07_Bin_eq, info_Put_val, r09_Value_eq, bin_Of, r14_Of, infoG1, infoG2, infoG3, rinfoG1, rinfoG2, rinfoG3, gt_iff_lt, bne, Bool.not_eq_true', Bool.not_eq_false', reduceCtorEq] at *
  all_goals
    skip
  all_goals
    simp only [bin_free, pFree, Pg.run_get, Pg.run_put, Pg.run_ret, Pg.run_bind, Pg.run_cond, gt_iff_lt, cond_true, cond_false, *]
  all_goals
    try rfl
theorem bin_free_ok : EntryOk Dg Tryz.prog 201 e_bin_free :=
  ent_wp Dg T_bin_Add_ok (I := [2999998]) Tryz.func201 mix (B := bodyOf Tryz.f201) (by kernel_rfl) rfl (by kernel_rfl) 400
    fun p0 s t p h g hb hp => ⟨[], fun j => List.getD [] j (fun _ => False), fun j => List.getD [] j (fun _ => (0, 0, 0)), by kernel_rfl, ⟨bin_free_w s t p h g  (fun r__ => r__ = (bin_free s t p h g)), fun _ _ _ => by kernel_rfl, bin_free_begin s t p h g ⟩, trivial⟩
def T_bin_free : List (Nat × Entry Sg) := (201, e_bin_free) :: T_bin_Add
theorem T_bin_free_ok : TableOk Dg Tryz.prog T_bin_free := TableOk.cons Dg bin_free_ok T_bin_Add_ok
def bin_Drop (s : VS) (t : Int) (p : Int) (h : Int) (g : Int) : VS × Int := (pDrop ⟨t, p, h⟩ g).run s
abbrev c_bin_Drop : Ct Sg := ⟨some wView, false, [.agg [.i .i64, .i .i64, .i .i64], .i .i64], .i .i64⟩
def e_bin_Drop : Entry Sg := entC c_bin_Drop bin_Drop (fun _ _ _ _ _ => [])
def bin_Drop_w (s : VS) (t : Int) (p : Int) (h : Int) (g : Int) (R_ : VS × Int → Prop) : Prop := (∀ r1 : Bool, r1 = (bin_page t p h g) → (((!r1) = true → (R_ ((s, (0 : Int))))) ∧ ((!r1) = false → (∀ r3 : VS × Int, r3 = (bin_free s t p h g) → (((decide (Prod.snd r3 > (0 : Int))) = true → (∀ r5 : VS, r5 = (link_Pull (Prod.fst r3) t p h (place_Bin (bin_Of (Prod.snd r3))) g) → (R_ ((r5, Prod.snd r3))))) ∧ ((decide (Prod.snd r3 > (0 : Int))) = false → (R_ ((Prod.fst r3, Prod.snd r3)))))))))
theorem bin_Drop_begin (s : VS) (t : Int) (p : Int) (h : Int) (g : Int) : bin_Drop_w s t p h g  (fun r__ => r__ = (bin_Drop s t p h g)) := by
  unfold bin_Drop_w
  repeat' first
    | (refine fun r hr => ?_; subst hr)
    | refine ⟨(by first | exact wu32_bd _ | exact VS.get_bd _ _ | exact zero_bd | exact iVal_bd _ _ _ | exact nv_bd _ | (rw [info_Put_val]; exact iVal_bd _ _ _) | (rw [r09_Value_eq]; exact iVal_bd _ _ _) | assumption | omega), fun _ => ?_⟩
    | refine ⟨fun hc => ?_, fun hc => ?_⟩
    | (refine fun hr => ?_; subst hr)
    | fail
  all_goals
    simp only [link_page_eq, page_ne t p h, link_next, link_prev, place_Next_eq, place_Prev_eq, r07_Next_eq, r07_Prev_eq, link_to, w64g, w64g1, wrapu_nv, nvw, nvw2, bin_page, place_Info_eq, place_Foot_eq, r07_Info_eq, r07_Foot_eq, place_Bin_eq, r07_Bin_eq, info_Put_val, r09_Value_eq, bin_Of, r14_Of, infoG1, infoG2, infoG3, rinfoG1, rinfoG2, rinfoG3, gt_iff_lt, link_Pull, bin_free, bne, Bool.not_eq_true', Bool.not_eq_false', reduceCtorEq] at *
  all_goals
    skip
  all_goals
    simp only [bin_Drop, pDrop, Pg.run_get, Pg.run_put, Pg.run_ret, Pg.run_bind, Pg.run_cond, gt_iff_lt, cond_true, cond_false, *]
  all_goals
    try rfl
theorem bin_Drop_ok : EntryOk Dg Tryz.prog 177 e_bin_Drop :=
  ent_wp Dg T_bin_free_ok (I := [2999998]) Tryz.func177 mix (B := bodyOf Tryz.f177) (by kernel_rfl) rfl (by kernel_rfl) 400
    fun p0 s t p h g hb hp => ⟨[], fun j => List.getD [] j (fun _ => False), fun j => List.getD [] j (fun _ => (0, 0, 0)), by kernel_rfl, ⟨bin_Drop_w s t p h g  (fun r__ => r__ = (bin_Drop s t p h g)), fun _ _ _ => by kernel_rfl, bin_Drop_begin s t p h g ⟩, trivial⟩
def T_bin_Drop : List (Nat × Entry Sg) := (177, e_bin_Drop) :: T_bin_free
theorem T_bin_Drop_ok : TableOk Dg Tryz.prog T_bin_Drop := TableOk.cons Dg bin_Drop_ok T_bin_free_ok
def r14_Info (s : VS) (t : Int) (p : Int) (h : Int) (g : Int) : VS × Int × Int × Int := (pInfo ⟨t, p, h⟩ g).run s
abbrev c_r14_Info : Ct Sg := ⟨some wRef, false, [.agg [.i .i64, .i .i64, .i .i64], .i .i64], .agg [.i .i64, .i .i64, .i .i64]⟩
def e_r14_Info : Entry Sg := entC c_r14_Info r14_Info (fun _ _ _ _ _ => [])
def r14_Info_w (s : VS) (t : Int) (p : Int) (h : Int) (g : Int) (R_ : VS × Int × Int × Int → Prop) : Prop := (∀ r2 : Int, r2 = (r07_Info t p h g) → (∀ r3 : VS × Int, r3 = ((VS.read s r2, VS.get s r2)) → (∀ r4 : Int × Int × Int × Bool, r4 = (r09_Get (Prod.snd r3)) → (R_ ((Prod.fst r3, Prod.fst r4, Prod.fst (Prod.snd r4), Prod.fst (Prod.snd (Prod.snd r4))))))))
theorem r14_Info_begin (s : VS) (t : Int) (p : Int) (h : Int) (g : Int) : r14_Info_w s t p h g  (fun r__ => r__ = (r14_Info s t p h g)) := by
  unfold r14_Info_w
  repeat' first
    | (refine fun r hr => ?_; subst hr)
    | refine ⟨(by first | exact wu32_bd _ | exact VS.get_bd _ _ | exact zero_bd | exact iVal_bd _ _ _ | exact nv_bd _ | (rw [info_Put_val]; exact iVal_bd _ _ _) | (rw [r09_Value_eq]; exact iVal_bd _ _ _) | assumption | omega), fun _ => ?_⟩
    | refine ⟨fun hc => ?_, fun hc => ?_⟩
    | (refine fun hr => ?_; subst hr)
    | fail
  all_goals
    simp only [link_page_eq, page_ne t p h, link_next, link_prev, place_Next_eq, place_Prev_eq, r07_Next_eq, r07_Prev_eq, link_to, w64g, w64g1, wrapu_nv, nvw, nvw2, bin_page, place_Info_eq, place_Foot_eq, r07_Info_eq, r07_Foot_eq, place_Bin_eq, r07_Bin_eq, info_Put_val, r09_Value_eq, bin_Of, r14_Of, infoG1, infoG2, infoG3, rinfoG1, rinfoG2, rinfoG3, gt_iff_lt, bne, Bool.not_eq_true', Bool.not_eq_false', reduceCtorEq] at *
  all_goals
    skip
  all_goals
    simp only [r14_Info, pInfo, Pg.run_get, Pg.run_put, Pg.run_ret, Pg.run_bind, Pg.run_cond, gt_iff_lt, cond_true, cond_false, *]
  all_goals
    try rfl
theorem r14_Info_ok : EntryOk Dg Tryz.prog 90 e_r14_Info :=
  ent_wp Dg T_bin_Drop_ok (I := [2999998]) Tryz.func90 mix (B := bodyOf Tryz.f90) (by kernel_rfl) rfl (by kernel_rfl) 400
    fun p0 s t p h g hb hp => ⟨[], fun j => List.getD [] j (fun _ => False), fun j => List.getD [] j (fun _ => (0, 0, 0)), by kernel_rfl, ⟨r14_Info_w s t p h g  (fun r__ => r__ = (r14_Info s t p h g)), fun _ _ _ => by kernel_rfl, r14_Info_begin s t p h g ⟩, trivial⟩
def T_r14_Info : List (Nat × Entry Sg) := (90, e_r14_Info) :: T_bin_Drop
theorem T_r14_Info_ok : TableOk Dg Tryz.prog T_r14_Info := TableOk.cons Dg r14_Info_ok T_bin_Drop_ok
def r14_Add (s : VS) (t : Int) (p : Int) (h : Int) (g : Int) (n : Int) : VS := ((pAdd ⟨t, p, h⟩ g n).run s).1
abbrev c_r14_Add : Ct Sg := ⟨some wRef, false, [.agg [.i .i64, .i .i64, .i .i64], .i .i64, .i .i64], .skip⟩
def e_r14_Add : Entry Sg := entC c_r14_Add r14_Add (fun s t p h g n => [p ≤ 1024])
def r14_Add_w (s : VS) (t : Int) (p : Int) (h : Int) (g : Int) (n : Int) (R_ : VS → Prop) : Prop := (((decide (g < (0 : Int)) || decide (g ≥ p) || decide (n < (1 : Int)) || decide (n > IntKind.wrap IntKind.i64 (p - g))) = true → (R_ (s))) ∧ ((decide (g < (0 : Int)) || decide (g ≥ p) || decide (n < (1 : Int)) || decide (n > IntKind.wrap IntKind.i64 (p - g))) = false → (∀ r2 : Int, r2 = (r07_Info t p h g) → (∀ r3 : Int, r3 = (r09_Value (1 : Int) n (0 : Int)) → (∀ r4 : VS, r4 = (VS.set s r2 r3) → ((bd32 r3) ∧ ((bd32 r3) → (∀ r6 : Int, r6 = (r07_Foot t p h (IntKind.wrap IntKind.i64 (IntKind.wrap IntKind.i64 (g + n) - (1 : Int)))) → (∀ r7 : VS, r7 = (VS.set r4 r6 (IntKind.wrap IntKind.u32 (IntKind.wrap IntKind.u32 g + (1 : Int)))) → ((bd32 (IntKind.wrap IntKind.u32 (IntKind.wrap IntKind.u32 g + (1 : Int)))) ∧ ((bd32 (IntKind.wrap IntKind.u32 (IntKind.wrap IntKind.u32 g + (1 : Int)))) → (∀ r9 : VS, r9 = (r13_Push r7 t p h (r07_Bin (r14_Of n)) g) → (R_ (r9))))))))))))))
theorem r14_Add_begin (s : VS) (t : Int) (p : Int) (h : Int) (g : Int) (n : Int) (hp0 : p ≤ 1024) : r14_Add_w s t p h g n  (fun r__ => r__ = (r14_Add s t p h g n)) := by
  unfold r14_Add_w
  repeat' first
    | (refine fun r hr => ?_; subst hr)
    | refine ⟨(by first | exact wu32_bd _ | exact VS.get_bd _ _ | exact zero_bd | exact iVal_bd _ _ _ | exact nv_bd _ | (rw [info_Put_val]; exact iVal_bd _ _ _) | (rw [r09_Value_eq]; exact iVal_bd _ _ _) | assumption | omega), fun _ => ?_⟩
    | refine ⟨fun hc => ?_, fun hc => ?_⟩
    | (refine fun hr => ?_; subst hr)
    | fail
  all_goals
    simp only [link_page_eq, page_ne t p h, link_next, link_prev, place_Next_eq, place_Prev_eq, r07_Next_eq, r07_Prev_eq, link_to, w64g, w64g1, wrapu_nv, nvw, nvw2, bin_page, place_Info_eq, place_Foot_eq, r07_Info_eq, r07_Foot_eq, place_Bin_eq, r07_Bin_eq, info_Put_val, r09_Value_eq, bin_Of, r14_Of, infoG1, infoG2, infoG3, rinfoG1, rinfoG2, rinfoG3, gt_iff_lt, page_in t p h g n (by omega), r13_Push, bne, Bool.not_eq_true', Bool.not_eq_false', reduceCtorEq] at *
  all_goals
    skip
    try (have hx := hc; simp only [Bool.and_eq_true, decide_eq_true_eq, Cf.page] at hx; rw [w64 (n := g + n) (by omega), w64 (n := g + n - 1) (by omega)]; clear hx)
  all_goals
    simp only [r14_Add, pAdd, Pg.run_get, Pg.run_put, Pg.run_ret, Pg.run_bind, Pg.run_cond, gt_iff_lt, cond_true, cond_false, *]
  all_goals
    try rfl
theorem r14_Add_ok : EntryOk Dg Tryz.prog 141 e_r14_Add :=
  ent_wp Dg T_r14_Info_ok (I := [2999998]) Tryz.func141 mix (B := bodyOf Tryz.f141) (by kernel_rfl) rfl (by kernel_rfl) 400
    fun p0 s t p h g n hb hp => have hp0 : p ≤ 1024 := hp _ (.head _); ⟨[], fun j => List.getD [] j (fun _ => False), fun j => List.getD [] j (fun _ => (0, 0, 0)), by kernel_rfl, ⟨r14_Add_w s t p h g n  (fun r__ => r__ = (r14_Add s t p h g n)), fun _ _ _ => by kernel_rfl, r14_Add_begin s t p h g n hp0 ⟩, trivial⟩
def T_r14_Add : List (Nat × Entry Sg) := (141, e_r14_Add) :: T_r14_Info
theorem T_r14_Add_ok : TableOk Dg Tryz.prog T_r14_Add := TableOk.cons Dg r14_Add_ok T_r14_Info_ok
def r14_Drop (s : VS) (t : Int) (p : Int) (h : Int) (g : Int) : VS × Int := (pDrop ⟨t, p, h⟩ g).run s
abbrev c_r14_Drop : Ct Sg := ⟨some wRef, false, [.agg [.i .i64, .i .i64, .i .i64], .i .i64], .i .i64⟩
def e_r14_Drop : Entry Sg := entC c_r14_Drop r14_Drop (fun _ _ _ _ _ => [])
def r14_Drop_w (s : VS) (t : Int) (p : Int) (h : Int) (g : Int) (R_ : VS × Int → Prop) : Prop := (((decide (g < (0 : Int)) || decide (g ≥ p)) = true → (R_ ((s, (0 : Int))))) ∧ ((decide (g < (0 : Int)) || decide (g ≥ p)) = false → (∀ r2 : VS × Int × Int × Int, r2 = (r14_Info s t p h g) → (((Prod.fst (Prod.snd r2) != (1 : Int)) = true → (R_ ((Prod.fst r2, (0 : Int))))) ∧ ((Prod.fst (Prod.snd r2) != (1 : Int)) = false → (∀ r5 : VS, r5 = (r13_Pull (Prod.fst r2) t p h (r07_Bin (r14_Of (Prod.fst (Prod.snd (Prod.snd r2))))) g) → (R_ ((r5, Prod.fst (Prod.snd (Prod.snd r2)))))))))))
theorem r14_Drop_begin (s : VS) (t : Int) (p : Int) (h : Int) (g : Int) : r14_Drop_w s t p h g  (fun r__ => r__ = (r14_Drop s t p h g)) := by
  unfold r14_Drop_w
  repeat' first
    | (refine fun r hr => ?_; subst hr)
    | refine ⟨(by first | exact wu32_bd _ | exact VS.get_bd _ _ | exact zero_bd | exact iVal_bd _ _ _ | exact nv_bd _ | (rw [info_Put_val]; exact iVal_bd _ _ _) | (rw [r09_Value_eq]; exact iVal_bd _ _ _) | assumption | omega), fun _ => ?_⟩
    | refine ⟨fun hc => ?_, fun hc => ?_⟩
    | (refine fun hr => ?_; subst hr)
    | fail
  all_goals
    simp only [link_page_eq, page_ne t p h, link_next, link_prev, place_Next_eq, place_Prev_eq, r07_Next_eq, r07_Prev_eq, link_to, w64g, w64g1, wrapu_nv, nvw, nvw2, bin_page, place_Info_eq, place_Foot_eq, r07_Info_eq, r07_Foot_eq, place_Bin_eq, r07_Bin_eq, info_Put_val, r09_Value_eq, bin_Of, r14_Of, infoG1, infoG2, infoG3, rinfoG1, rinfoG2, rinfoG3, gt_iff_lt, r13_Pull, r14_Info, pInfo, Pg.run_get, Pg.run_ret, bne, Bool.not_eq_true', Bool.not_eq_false', reduceCtorEq] at *
  all_goals
    skip
  all_goals
    simp only [r14_Drop, pDrop, pFree, pInfo, Pg.run_get, Pg.run_put, Pg.run_ret, Pg.run_bind, Pg.run_cond, gt_iff_lt, cond_true, cond_false, *]
  all_goals
    try rfl
    try (
      have hi := iGet_cases (s.get (Cf.info ⟨t, p, h⟩ g))
      have e : decide (0 < (iGet (s.get (Cf.info ⟨t, p, h⟩ g))).l) = true := by
        simp only [beq_iff_eq] at hc
        simp only [decide_eq_true_eq]; omega
      simp only [e, cond_true])
    try rfl
theorem r14_Drop_ok : EntryOk Dg Tryz.prog 139 e_r14_Drop :=
  ent_wp Dg T_r14_Add_ok (I := [2999998]) Tryz.func139 mix (B := bodyOf Tryz.f139) (by kernel_rfl) rfl (by kernel_rfl) 400
    fun p0 s t p h g hb hp => ⟨[], fun j => List.getD [] j (fun _ => False), fun j => List.getD [] j (fun _ => (0, 0, 0)), by kernel_rfl, ⟨r14_Drop_w s t p h g  (fun r__ => r__ = (r14_Drop s t p h g)), fun _ _ _ => by kernel_rfl, r14_Drop_begin s t p h g ⟩, trivial⟩
def T_r14_Drop : List (Nat × Entry Sg) := (139, e_r14_Drop) :: T_r14_Add
theorem T_r14_Drop_ok : TableOk Dg Tryz.prog T_r14_Drop := TableOk.cons Dg r14_Drop_ok T_r14_Add_ok
end Go.Proofs.YtnddjnnakkiidaaGreat
namespace Go.Proofs.YtnddjnnakkiidaaGreat
open Go.Sl
theorem binOf_e (n : Int) : bin_Of n = binOf n := rfl
theorem r14Of_e (n : Int) : r14_Of n = binOf n := rfl
theorem free_e (s : VS) (t p h g : Int) : bin_free s t p h g = (pFree ⟨t, p, h⟩ g).run s := rfl
theorem rInfo_e (s : VS) (t p h g : Int) : r14_Info s t p h g = (s.read (Cf.info ⟨t, p, h⟩ g), (iGet (s.get (Cf.info ⟨t, p, h⟩ g))).k, (iGet (s.get (Cf.info ⟨t, p, h⟩ g))).l, (iGet (s.get (Cf.info ⟨t, p, h⟩ g))).c) := rfl
theorem n_in (n p : Int) : (decide (1 ≤ n) && decide (n ≤ p)) = !(decide (n < 1) || decide (n > p)) := by
  apply Bool.eq_iff_iff.2
  simp only [Bool.and_eq_true, decide_eq_true_eq, Bool.not_eq_true', Bool.or_eq_false_iff, decide_eq_false_iff_not]
  omega
theorem binOf_ge (n : Int) : -1 ≤ binOf n := by
  unfold binOf
  cases decide (n > 1024) with
  | true => exact Int.le_refl _
  | false => exact logI_ge n
theorem binOf_le (n : Int) : binOf n ≤ 10 := by
  unfold binOf
  cases h : decide (n > 1024) with
  | true => exact (by decide : (-1 : Int) ≤ 10)
  | false =>
    have : n < 2 ^ 11 := by
      have h' : ¬ n > 1024 := by simpa using h
      have : (2 : Int) ^ 11 = 2048 := by decide
      omega
    exact logI_le 11 n this
def bin_first (s : VS) (t : Int) (p : Int) (sh : Int) (n : Int) : VS × Int × Bool := (Pg.get (cBin (binOf n)) fun q => pFirst ⟨t, p, sh⟩ n p.toNat (q - 1)).run s
abbrev c_bin_first : Ct Sg := ⟨some wView, false, [.agg [.i .i64, .i .i64, .i .i64], .i .i64], .tup [.i .i64, .b]⟩
def e_bin_first : Entry Sg := entC c_bin_first bin_first (fun s t p sh n => [p ≤ 9223372036854775807])
def bin_first_w (s : VS) (t : Int) (p : Int) (sh : Int) (n : Int) (Q0 : VS → Int → Int → Prop) (R_ : VS × Int × Bool → Prop) : Prop := (∀ r1 : VS × Int, r1 = ((VS.read s (place_Bin (bin_Of n)), VS.get s (place_Bin (bin_Of n)))) → (Q0 (Prod.fst r1) ((0 : Int)) (IntKind.wrap IntKind.i64 (IntKind.wrap IntKind.i64 (Prod.snd r1) - (1 : Int)))))
def bin_first_w0 (s : VS) (t : Int) (p : Int) (sh : Int) (n : Int) (sv : VS) (i : Int) (g : Int) (Q0 : VS → Int → Int → Prop) (R_ : VS × Int × Bool → Prop) : Prop := (((decide (i < p)) = true → (((!bin_page t p sh g) = true → (R_ ((sv, (0 : Int), false)))) ∧ ((!bin_page t p sh g) = false → (∀ r2 : VS × Int, r2 = (bin_free sv t p sh g) → (((decide (Prod.snd r2 ≥ n)) = true → (R_ ((Prod.fst r2, g, true)))) ∧ ((decide (Prod.snd r2 ≥ n)) = false → (∀ r4 : VS × Int, r4 = ((VS.read (Prod.fst r2) (place_Next t p sh g), VS.get (Prod.fst r2) (place_Next t p sh g))) → (Q0 (Prod.fst r4) (IntKind.wrap IntKind.i64 (i + (1 : Int))) (IntKind.wrap IntKind.i64 (IntKind.wrap IntKind.i64 (Prod.snd r4) - (1 : Int))))))))))) ∧ ((decide (i < p)) = false → (R_ ((sv, (0 : Int), false)))))
def bin_first_I0 (s : VS) (t : Int) (p : Int) (sh : Int) (n : Int) (sv : VS) (i : Int) (g : Int) (r_ : VS × Int × Bool) : Prop := 0 ≤ i ∧ (i ≤ p ∨ i = 0) ∧ (pFirst ⟨t, p, sh⟩ n (p - i).toNat g).run sv = r_
theorem bin_first_begin (s : VS) (t : Int) (p : Int) (sh : Int) (n : Int) (hp0 : p ≤ 9223372036854775807) : bin_first_w s t p sh n (fun sv' i' g' => bin_first_I0 s t p sh n sv' i' g' (bin_first s t p sh n)) (fun r__ => r__ = (bin_first s t p sh n)) := by
  unfold bin_first_w
  try unfold bin_first_I0
  intro r1 e1
  subst e1
  rw [place_Bin_eq, binOf_e, w64g, w64g1]
  refine ⟨by omega, by omega, ?_⟩
  rw [show (p - 0).toNat = p.toNat by omega]
  rfl
theorem bin_first_step0 (s : VS) (t : Int) (p : Int) (sh : Int) (n : Int) (hp0 : p ≤ 9223372036854775807) (sv : VS) (i : Int) (g : Int) {r_ : VS × Int × Bool} (hI : bin_first_I0 s t p sh n sv i g r_) : bin_first_w0 s t p sh n sv i g (fun sv' i' g' => bin_first_I0 s t p sh n sv' i' g' r_ ∧ lx ((p - i').toNat, 0, 0) ((p - i).toNat, 0, 0)) (fun r__ => r__ = r_) := by
  unfold bin_first_I0 at hI
  unfold bin_first_w0
  try unfold bin_first_I0
  obtain ⟨h0, h1, h2⟩ := hI
  refine ⟨fun h => ?_, fun h => ?_⟩
  · simp only [decide_eq_true_eq] at h
    have hf : (p - i).toNat = (p - (i + 1)).toNat + 1 := by omega
    rw [hf] at h2
    simp only [pFirst] at h2
    refine ⟨fun hp => ?_, fun hp r2 e2 => ?_⟩
    · have hpg : Cf.page ⟨t, p, sh⟩ g = false := by
        have : bin_page t p sh g = false := by simpa using hp
        exact this
      rw [hpg] at h2
      exact h2
    · have hpg : Cf.page ⟨t, p, sh⟩ g = true := by
        have : bin_page t p sh g = true := by simpa using hp
        exact this
      rw [hpg, cond_true, Pg.run_bind, ← free_e, ← e2] at h2
      refine ⟨fun hc => ?_, fun hc r4 e4 => ?_⟩
      · rw [show decide (n ≤ r2.2) = true from hc] at h2
        exact h2
      · rw [show decide (n ≤ r2.2) = false from hc] at h2
        subst e4
        simp only [cond_false, Pg.run_get] at h2
        rw [place_Next_eq, w64 (n := i + 1) (by omega), w64g, w64g1]
        exact ⟨⟨by omega, by omega, h2⟩, lxo_⟩
  · simp only [decide_eq_false_iff_not] at h
    rw [show (p - i).toNat = 0 by omega] at h2
    exact h2
theorem bin_first_ok : EntryOk Dg Tryz.prog 200 e_bin_first :=
  ent_wp Dg T_r14_Drop_ok (I := [6567000000000, 6567000000018, 6567000000017, 6567000000008, 6567000000004, 6567000000002]) Tryz.func200 mix (B := bodyOf Tryz.f200) (by kernel_rfl) rfl (by kernel_rfl) 400
    fun p0 s t p sh n hb hp => have hp0 : p ≤ 9223372036854775807 := hp _ (.head _); ⟨[⟨none, [0,1,0,1,1,0,1], [.blk 0, .code [1,1,1,0,1], .scp [1]], [0, 18, 17, 8, 4, 2], [.objc wView p0, .i .i64, .ic .i64 (p), .i .i64, .box 23 [.ic .i64 (t), .ic .i64 (p), .ic .i64 (sh)], .ic .i64 (n)]⟩], fun j => List.getD [appC (Hd.kd (⟨none, [0,1,0,1,1,0,1], [.blk 0, .code [1,1,1,0,1], .scp [1]], [0, 18, 17, 8, 4, 2], [.objc wView p0, .i .i64, .ic .i64 (p), .i .i64, .box 23 [.ic .i64 (t), .ic .i64 (p), .ic .i64 (sh)], .ic .i64 (n)]⟩ : Hd Sg)) (fun sv' i' g' => bin_first_I0 s t p sh n sv' i' g' (bin_first s t p sh n))] j (fun _ => False), fun j => List.getD [appC (Hd.kd (⟨none, [0,1,0,1,1,0,1], [.blk 0, .code [1,1,1,0,1], .scp [1]], [0, 18, 17, 8, 4, 2], [.objc wView p0, .i .i64, .ic .i64 (p), .i .i64, .box 23 [.ic .i64 (t), .ic .i64 (p), .ic .i64 (sh)], .ic .i64 (n)]⟩ : Hd Sg)) (fun sv' i' g' => ((p - i').toNat, 0, 0))] j (fun _ => (0, 0, 0)), by kernel_rfl, ⟨bin_first_w s t p sh n (fun sv' i' g' => bin_first_I0 s t p sh n sv' i' g' (bin_first s t p sh n)) (fun r__ => r__ = (bin_first s t p sh n)), fun _ _ _ => by kernel_rfl, bin_first_begin s t p sh n hp0 ⟩, ⟨fun sv i g hI => ⟨bin_first_w0 s t p sh n sv i g (fun sv' i' g' => bin_first_I0 s t p sh n sv' i' g' (bin_first s t p sh n) ∧ lx ((p - i').toNat, 0, 0) ((p - i).toNat, 0, 0)) (fun r__ => r__ = (bin_first s t p sh n)), fun _ _ _ => by kernel_rfl, bin_first_step0 s t p sh n hp0 sv i g hI⟩, trivial⟩⟩
def T_bin_first : List (Nat × Entry Sg) := (200, e_bin_first) :: T_r14_Drop
theorem T_bin_first_ok : TableOk Dg Tryz.prog T_bin_first := TableOk.cons Dg bin_first_ok T_r14_Drop_ok
def bin_Find (s : VS) (t : Int) (p : Int) (sh : Int) (n : Int) : VS × Int × Bool := (pFind ⟨t, p, sh⟩ n).run s
abbrev c_bin_Find : Ct Sg := ⟨some wView, false, [.agg [.i .i64, .i .i64, .i .i64], .i .i64], .tup [.i .i64, .b]⟩
def e_bin_Find : Entry Sg := entC c_bin_Find bin_Find (fun s t p sh n => [p ≤ 9223372036854775807])
def bin_Find_w (s : VS) (t : Int) (p : Int) (sh : Int) (n : Int) (Q0 : VS → Int → Prop) (R_ : VS × Int × Bool → Prop) : Prop := (((decide (n < (1 : Int)) || decide (n > p)) = true → (R_ ((s, (0 : Int), false)))) ∧ ((decide (n < (1 : Int)) || decide (n > p)) = false → (∀ r2 : VS × Int × Bool, r2 = (bin_first s t p sh n) → ((p ≤ (9223372036854775807 : Int)) ∧ ((p ≤ (9223372036854775807 : Int)) → (((Prod.snd (Prod.snd r2)) = true → (R_ ((Prod.fst r2, Prod.fst (Prod.snd r2), true)))) ∧ ((Prod.snd (Prod.snd r2)) = false → (Q0 (Prod.fst r2) (IntKind.wrap IntKind.i64 (bin_Of n + (1 : Int)))))))))))
def bin_Find_w0 (s : VS) (t : Int) (p : Int) (sh : Int) (n : Int) (sv : VS) (k : Int) (Q0 : VS → Int → Prop) (R_ : VS × Int × Bool → Prop) : Prop := (((decide (k < (11 : Int))) = true → (∀ r1 : VS × Int, r1 = ((VS.read sv (place_Bin k), VS.get sv (place_Bin k))) → (((bin_page t p sh (IntKind.wrap IntKind.i64 (IntKind.wrap IntKind.i64 (Prod.snd r1) - (1 : Int)))) = true → (R_ ((Prod.fst r1, IntKind.wrap IntKind.i64 (IntKind.wrap IntKind.i64 (Prod.snd r1) - (1 : Int)), true)))) ∧ ((bin_page t p sh (IntKind.wrap IntKind.i64 (IntKind.wrap IntKind.i64 (Prod.snd r1) - (1 : Int)))) = false → (Q0 (Prod.fst r1) (IntKind.wrap IntKind.i64 (k + (1 : Int)))))))) ∧ ((decide (k < (11 : Int))) = false → (R_ ((sv, (0 : Int), false)))))
def bin_Find_I0 (s : VS) (t : Int) (p : Int) (sh : Int) (n : Int) (sv : VS) (k : Int) (r_ : VS × Int × Bool) : Prop := 0 ≤ k ∧ ∃ f : Nat, 11 - k < f ∧ (pBins ⟨t, p, sh⟩ f k).run sv = r_
theorem bin_Find_begin (s : VS) (t : Int) (p : Int) (sh : Int) (n : Int) (hp0 : p ≤ 9223372036854775807) : bin_Find_w s t p sh n (fun sv' k' => bin_Find_I0 s t p sh n sv' k' (bin_Find s t p sh n)) (fun r__ => r__ = (bin_Find s t p sh n)) := by
  unfold bin_Find_w
  try unfold bin_Find_I0
  have hb := binOf_ge n
  have hb2 := binOf_le n
  refine ⟨fun hc => ?_, fun hc r2 e2 => ⟨hp0, fun _ => ⟨fun h3 => ?_, fun h3 => ?_⟩⟩⟩
  · show (s, 0, false) = bin_Find s t p sh n
    unfold bin_Find pFind
    rw [n_in, show (decide (n < 1) || decide (n > p)) = true from hc]
    rfl
  · show _ = bin_Find s t p sh n
    unfold bin_Find pFind
    have e2' := e2.symm
    unfold bin_first at e2'
    rw [n_in, hc, Bool.not_false, cond_true, Pg.run_bind]
    dsimp only
    rw [e2', h3, cond_true, Pg.run_ret]
    exact Prod.ext rfl (Prod.ext rfl h3.symm)
  · rw [binOf_e, w64 (by omega)]
    refine ⟨by omega, 12, by omega, ?_⟩
    show _ = bin_Find s t p sh n
    unfold bin_Find pFind
    have e2' := e2.symm
    unfold bin_first at e2'
    rw [n_in, hc, Bool.not_false, cond_true, Pg.run_bind]
    dsimp only
    rw [e2', h3]
    rfl
theorem bin_Find_step0 (s : VS) (t : Int) (p : Int) (sh : Int) (n : Int) (hp0 : p ≤ 9223372036854775807) (sv : VS) (k : Int) {r_ : VS × Int × Bool} (hI : bin_Find_I0 s t p sh n sv k r_) : bin_Find_w0 s t p sh n sv k (fun sv' k' => bin_Find_I0 s t p sh n sv' k' r_ ∧ lx ((11 - k').toNat, 0, 0) ((11 - k).toNat, 0, 0)) (fun r__ => r__ = r_) := by
  unfold bin_Find_I0 at hI
  unfold bin_Find_w0
  try unfold bin_Find_I0
  obtain ⟨h0, f, hf, h2⟩ := hI
  refine ⟨fun h => ?_, fun h => ?_⟩
  · simp only [decide_eq_true_eq] at h
    obtain ⟨f', rfl⟩ : ∃ f', f = f' + 1 := ⟨f - 1, by omega⟩
    have hk : decide (k < 11) = true := by simpa using h
    simp only [pBins, hk, cond_true, Pg.run_get] at h2
    intro r1 e1
    subst e1
    rw [place_Bin_eq, w64g, w64g1]
    refine ⟨fun hp => ?_, fun hp => ?_⟩
    · rw [show Cf.page ⟨t, p, sh⟩ (sv.get (cBin k) - 1) = true from hp] at h2
      exact h2
    · rw [show Cf.page ⟨t, p, sh⟩ (sv.get (cBin k) - 1) = false from hp] at h2
      rw [w64 (n := k + 1) (by omega)]
      exact ⟨⟨by omega, f', by omega, h2⟩, lxo_⟩
  · simp only [decide_eq_false_iff_not] at h
    have hk : decide (k < 11) = false := by simpa using h
    cases f with
    | zero => exact h2
    | succ f =>
      simp only [pBins, hk] at h2
      exact h2
theorem bin_Find_ok : EntryOk Dg Tryz.prog 176 e_bin_Find :=
  ent_wp Dg T_bin_first_ok (I := [1643000000000, 1643000000010, 1643000000004]) Tryz.func176 mix (B := bodyOf Tryz.f176) (by kernel_rfl) rfl (by kernel_rfl) 400
    fun p0 s t p sh n hb hp => have hp0 : p ≤ 9223372036854775807 := hp _ (.head _); ⟨[⟨none, [0,1,0,1,1,1], [.blk 0, .code [1,1,1,1]], [0, 10, 4], [.objc wView p0, .i .i64, .box 23 [.ic .i64 (t), .ic .i64 (p), .ic .i64 (sh)]]⟩], fun j => List.getD [appC (Hd.kd (⟨none, [0,1,0,1,1,1], [.blk 0, .code [1,1,1,1]], [0, 10, 4], [.objc wView p0, .i .i64, .box 23 [.ic .i64 (t), .ic .i64 (p), .ic .i64 (sh)]]⟩ : Hd Sg)) (fun sv' k' => bin_Find_I0 s t p sh n sv' k' (bin_Find s t p sh n))] j (fun _ => False), fun j => List.getD [appC (Hd.kd (⟨none, [0,1,0,1,1,1], [.blk 0, .code [1,1,1,1]], [0, 10, 4], [.objc wView p0, .i .i64, .box 23 [.ic .i64 (t), .ic .i64 (p), .ic .i64 (sh)]]⟩ : Hd Sg)) (fun sv' k' => ((11 - k').toNat, 0, 0))] j (fun _ => (0, 0, 0)), by kernel_rfl, ⟨bin_Find_w s t p sh n (fun sv' k' => bin_Find_I0 s t p sh n sv' k' (bin_Find s t p sh n)) (fun r__ => r__ = (bin_Find s t p sh n)), fun _ _ _ => by kernel_rfl, bin_Find_begin s t p sh n hp0 ⟩, ⟨fun sv k hI => ⟨bin_Find_w0 s t p sh n sv k (fun sv' k' => bin_Find_I0 s t p sh n sv' k' (bin_Find s t p sh n) ∧ lx ((11 - k').toNat, 0, 0) ((11 - k).toNat, 0, 0)) (fun r__ => r__ = (bin_Find s t p sh n)), fun _ _ _ => by kernel_rfl, bin_Find_step0 s t p sh n hp0 sv k hI⟩, trivial⟩⟩
def T_bin_Find : List (Nat × Entry Sg) := (176, e_bin_Find) :: T_bin_first
theorem T_bin_Find_ok : TableOk Dg Tryz.prog T_bin_Find := TableOk.cons Dg bin_Find_ok T_bin_first_ok
def r14_Find (s : VS) (t : Int) (p : Int) (sh : Int) (n : Int) : VS × Int × Bool := (pFind ⟨t, p, sh⟩ n).run s
abbrev c_r14_Find : Ct Sg := ⟨some wRef, false, [.agg [.i .i64, .i .i64, .i .i64], .i .i64], .tup [.i .i64, .b]⟩
def e_r14_Find : Entry Sg := entC c_r14_Find r14_Find (fun s t p sh n => [p ≤ 9223372036854775807])
def r14_Find_w (s : VS) (t : Int) (p : Int) (sh : Int) (n : Int) (Q0 : VS → Int → Int → Prop) (Q1 : VS → Int → Prop) (R_ : VS × Int × Bool → Prop) : Prop := (((decide (n < (1 : Int)) || decide (n > p)) = true → (R_ ((s, (0 : Int), false)))) ∧ ((decide (n < (1 : Int)) || decide (n > p)) = false → (∀ r2 : VS × Int, r2 = ((VS.read s (r07_Bin (r14_Of n)), VS.get s (r07_Bin (r14_Of n)))) → (Q0 (Prod.fst r2) ((0 : Int)) (IntKind.wrap IntKind.i64 (Prod.snd r2))))))
def r14_Find_w0 (s : VS) (t : Int) (p : Int) (sh : Int) (n : Int) (sv : VS) (m : Int) (q : Int) (Q0 : VS → Int → Int → Prop) (Q1 : VS → Int → Prop) (R_ : VS × Int × Bool → Prop) : Prop := (((decide (m < p) && decide (q ≥ (1 : Int)) && decide (q ≤ p)) = true → (∀ r1 : VS × Int × Int × Int, r1 = (r14_Info sv t p sh (IntKind.wrap IntKind.i64 (q - (1 : Int)))) → (((Prod.fst (Prod.snd r1) == (1 : Int) && decide (Prod.fst (Prod.snd (Prod.snd r1)) ≥ n)) = true → (R_ ((Prod.fst r1, IntKind.wrap IntKind.i64 (q - (1 : Int)), true)))) ∧ ((Prod.fst (Prod.snd r1) == (1 : Int) && decide (Prod.fst (Prod.snd (Prod.snd r1)) ≥ n)) = false → (∀ r4 : VS × Int, r4 = ((VS.read (Prod.fst r1) (r07_Next t p sh (IntKind.wrap IntKind.i64 (q - (1 : Int)))), VS.get (Prod.fst r1) (r07_Next t p sh (IntKind.wrap IntKind.i64 (q - (1 : Int)))))) → (Q0 (Prod.fst r4) (IntKind.wrap IntKind.i64 (m + (1 : Int))) (IntKind.wrap IntKind.i64 (Prod.snd r4)))))))) ∧ ((decide (m < p) && decide (q ≥ (1 : Int)) && decide (q ≤ p)) = false → (Q1 (sv) (IntKind.wrap IntKind.i64 (r14_Of n + (1 : Int))))))
def r14_Find_I0 (s : VS) (t : Int) (p : Int) (sh : Int) (n : Int) (sv : VS) (m : Int) (q : Int) (r_ : VS × Int × Bool) : Prop := 0 ≤ m ∧ 1 ≤ n ∧ 0 ≤ q ∧ q < 4294967296 ∧ ((pFirst ⟨t, p, sh⟩ n (p - m).toNat (q - 1)).bind fun r => bif r.2 then .ret r else pBins ⟨t, p, sh⟩ 12 (binOf n + 1)).run sv = r_
def r14_Find_w1 (s : VS) (t : Int) (p : Int) (sh : Int) (n : Int) (sv : VS) (k : Int) (Q0 : VS → Int → Int → Prop) (Q1 : VS → Int → Prop) (R_ : VS × Int × Bool → Prop) : Prop := (((decide (k < (11 : Int))) = true → (∀ r1 : VS × Int, r1 = ((VS.read sv (r07_Bin k), VS.get sv (r07_Bin k))) → (((decide (IntKind.wrap IntKind.i64 (Prod.snd r1) ≥ (1 : Int)) && decide (IntKind.wrap IntKind.i64 (Prod.snd r1) ≤ p)) = true → (R_ ((Prod.fst r1, IntKind.wrap IntKind.i64 (IntKind.wrap IntKind.i64 (Prod.snd r1) - (1 : Int)), true)))) ∧ ((decide (IntKind.wrap IntKind.i64 (Prod.snd r1) ≥ (1 : Int)) && decide (IntKind.wrap IntKind.i64 (Prod.snd r1) ≤ p)) = false → (Q1 (Prod.fst r1) (IntKind.wrap IntKind.i64 (k + (1 : Int)))))))) ∧ ((decide (k < (11 : Int))) = false → (R_ ((sv, (0 : Int), false)))))
def r14_Find_I1 (s : VS) (t : Int) (p : Int) (sh : Int) (n : Int) (sv : VS) (k : Int) (r_ : VS × Int × Bool) : Prop := 0 ≤ k ∧ ∃ f : Nat, 11 - k < f ∧ (pBins ⟨t, p, sh⟩ f k).run sv = r_
theorem r14_Find_begin (s : VS) (t : Int) (p : Int) (sh : Int) (n : Int) (hp0 : p ≤ 9223372036854775807) : r14_Find_w s t p sh n (fun sv' m' q' => r14_Find_I0 s t p sh n sv' m' q' (r14_Find s t p sh n)) (fun sv' k' => r14_Find_I1 s t p sh n sv' k' (r14_Find s t p sh n)) (fun r__ => r__ = (r14_Find s t p sh n)) := by
  unfold r14_Find_w
  try unfold r14_Find_I0
  try unfold r14_Find_I1
  refine ⟨fun hc => ?_, fun hc r2 e2 => ?_⟩
  · show (s, 0, false) = r14_Find s t p sh n
    unfold r14_Find pFind
    rw [n_in, show (decide (n < 1) || decide (n > p)) = true from hc]
    rfl
  · subst e2
    have := VS.get_bd s (r07_Bin (r14_Of n))
    simp only [Bool.or_eq_false_iff, decide_eq_false_iff_not] at hc
    rw [w64g]
    refine ⟨by omega, by omega, by omega, by omega, ?_⟩
    unfold r14_Find pFind
    have e : (decide (1 ≤ n) && decide (n ≤ p)) = true := by simp; omega
    rw [e, show (p - 0).toNat = p.toNat by omega, r07_Bin_eq, r14Of_e]
    rfl
theorem r14_Find_step0 (s : VS) (t : Int) (p : Int) (sh : Int) (n : Int) (hp0 : p ≤ 9223372036854775807) (sv : VS) (m : Int) (q : Int) {r_ : VS × Int × Bool} (hI : r14_Find_I0 s t p sh n sv m q r_) : r14_Find_w0 s t p sh n sv m q (fun sv' m' q' => r14_Find_I0 s t p sh n sv' m' q' r_ ∧ lx ((p - m').toNat + 12, 0, 0) ((p - m).toNat + 12, 0, 0)) (fun sv' k' => r14_Find_I1 s t p sh n sv' k' r_ ∧ lx ((11 - k').toNat, 0, 0) ((p - m).toNat + 12, 0, 0)) (fun r__ => r__ = r_) := by
  unfold r14_Find_I0 at hI
  unfold r14_Find_w0
  try unfold r14_Find_I0
  try unfold r14_Find_I1
  obtain ⟨h0, h1, hq0, hq1, h2⟩ := hI
  have hb := binOf_ge n
  have hb2 := binOf_le n
  refine ⟨fun h => ?_, fun h => ?_⟩
  · simp only [Bool.and_eq_true, decide_eq_true_eq] at h
    have hf : (p - m).toNat = (p - (m + 1)).toNat + 1 := by omega
    have hpg : Cf.page ⟨t, p, sh⟩ (q - 1) = true := by
      simp only [Cf.page, Bool.and_eq_true, decide_eq_true_eq]
      omega
    rw [hf] at h2
    simp only [pFirst, hpg, cond_true, pFree, Pg.bind, Pg.run_get] at h2
    intro r1 e1
    rw [w64 (n := q - 1) (by omega)] at e1
    have e1' := e1.trans (show _ = r14_Info sv t p sh (q - 1) from rfl)
    rw [rInfo_e] at e1'
    subst e1'
    simp only
    by_cases hk : (iGet (sv.get (Cf.info ⟨t, p, sh⟩ (q - 1)))).k = 1
    · have e2 : ((iGet (sv.get (Cf.info ⟨t, p, sh⟩ (q - 1)))).k == 1) = true := by simpa using hk
      simp only [e2, cond_true] at h2
      rw [e2, Bool.true_and]
      refine ⟨fun hc => ?_, fun hc r4 e4 => ?_⟩
      · rw [show decide (n ≤ (iGet (sv.get (Cf.info ⟨t, p, sh⟩ (q - 1)))).l) = true from hc] at h2
        rw [w64 (n := q - 1) (by omega)]
        exact h2
      · rw [show decide (n ≤ (iGet (sv.get (Cf.info ⟨t, p, sh⟩ (q - 1)))).l) = false from hc] at h2
        subst e4
        simp only [cond_false, Pg.bind, Pg.run_get] at h2
        have bd := VS.get_bd (sv.read (Cf.info ⟨t, p, sh⟩ (q - 1))) (Cf.next ⟨t, p, sh⟩ (q - 1))
        rw [r07_Next_eq, w64 (n := q - 1) (by omega), w64 (n := m + 1) (by omega), w64g]
        exact ⟨⟨by omega, h1, bd.1, bd.2, h2⟩, lxo_⟩
    · have e2 : ((iGet (sv.get (Cf.info ⟨t, p, sh⟩ (q - 1)))).k == 1) = false := by simpa using hk
      have e3 : decide (n ≤ 0) = false := by simp; omega
      simp only [e2, e3, cond_false, Pg.bind, Pg.run_get] at h2
      rw [e2, Bool.false_and]
      refine ⟨(fun h => by cases h), fun _ r4 e4 => ?_⟩
      subst e4
      have bd := VS.get_bd (sv.read (Cf.info ⟨t, p, sh⟩ (q - 1))) (Cf.next ⟨t, p, sh⟩ (q - 1))
      rw [r07_Next_eq, w64 (n := q - 1) (by omega), w64 (n := m + 1) (by omega), w64g]
      exact ⟨⟨by omega, h1, bd.1, bd.2, h2⟩, lxo_⟩
  · have hpf : pFirst ⟨t, p, sh⟩ n (p - m).toNat (q - 1) = .ret (0, false) := by
      cases hf : (p - m).toNat with
      | zero => rfl
      | succ f =>
        have hpg : Cf.page ⟨t, p, sh⟩ (q - 1) = false := by
          cases hx : Cf.page ⟨t, p, sh⟩ (q - 1) with
          | false => rfl
          | true =>
            simp only [Cf.page, Bool.and_eq_true, decide_eq_true_eq] at hx
            simp only [Bool.and_eq_false_iff, decide_eq_false_iff_not] at h
            omega
        simp only [pFirst, hpg, cond_false]
    rw [hpf] at h2
    rw [r14Of_e, w64 (by omega)]
    exact ⟨⟨by omega, 12, by omega, h2⟩, lxo_⟩
theorem r14_Find_step1 (s : VS) (t : Int) (p : Int) (sh : Int) (n : Int) (hp0 : p ≤ 9223372036854775807) (sv : VS) (k : Int) {r_ : VS × Int × Bool} (hI : r14_Find_I1 s t p sh n sv k r_) : r14_Find_w1 s t p sh n sv k (fun sv' m' q' => r14_Find_I0 s t p sh n sv' m' q' r_ ∧ lx ((p - m').toNat + 12, 0, 0) ((11 - k).toNat, 0, 0)) (fun sv' k' => r14_Find_I1 s t p sh n sv' k' r_ ∧ lx ((11 - k').toNat, 0, 0) ((11 - k).toNat, 0, 0)) (fun r__ => r__ = r_) := by
  unfold r14_Find_I1 at hI
  unfold r14_Find_w1
  try unfold r14_Find_I0
  try unfold r14_Find_I1
  obtain ⟨h0, f, hf, h2⟩ := hI
  refine ⟨fun h => ?_, fun h => ?_⟩
  · simp only [decide_eq_true_eq] at h
    obtain ⟨f', rfl⟩ : ∃ f', f = f' + 1 := ⟨f - 1, by omega⟩
    have hk : decide (k < 11) = true := by simpa using h
    simp only [pBins, hk, cond_true, Pg.run_get] at h2
    intro r1 e1
    subst e1
    rw [r07_Bin_eq, w64g, w64g1]
    have e : Cf.page ⟨t, p, sh⟩ (sv.get (cBin k) - 1) = (decide (sv.get (cBin k) ≥ 1) && decide (sv.get (cBin k) ≤ p)) := by
      apply Bool.eq_iff_iff.2
      simp only [Cf.page, Bool.and_eq_true, decide_eq_true_eq]
      omega
    refine ⟨fun hp => ?_, fun hp => ?_⟩
    · rw [e.trans hp] at h2
      exact h2
    · rw [e.trans hp] at h2
      rw [w64 (n := k + 1) (by omega)]
      exact ⟨⟨by omega, f', by omega, h2⟩, lxo_⟩
  · simp only [decide_eq_false_iff_not] at h
    have hk : decide (k < 11) = false := by simpa using h
    cases f with
    | zero => exact h2
    | succ f =>
      simp only [pBins, hk] at h2
      exact h2
theorem r14_Find_ok : EntryOk Dg Tryz.prog 138 e_r14_Find :=
  ent_wp Dg T_bin_Find_ok (I := [1643000000000, 1643000000009, 1643000000008, 1643000000004, 1643000000002, 6571000000000, 6571000000011, 6571000000004]) Tryz.func138 mix (B := bodyOf Tryz.f138) (by kernel_rfl) rfl (by kernel_rfl) 400
    fun p0 s t p sh n hb hp => have hp0 : p ≤ 9223372036854775807 := hp _ (.head _); ⟨[⟨none, [0,1,0,1,1,1], [.blk 0, .code [1,1,1,1]], [0, 9, 8, 4, 2], [.objc wRef p0, .i .i64, .i .i64, .box 23 [.ic .i64 (t), .ic .i64 (p), .ic .i64 (sh)], .ic .i64 (n)]⟩, ⟨none, [0,1,0,1,1,1,1], [.blk 2, .code [1,1,1,1,1]], [0, 11, 4], [.objc wRef p0, .i .i64, .box 23 [.ic .i64 (t), .ic .i64 (p), .ic .i64 (sh)]]⟩], fun j => List.getD [appC (Hd.kd (⟨none, [0,1,0,1,1,1], [.blk 0, .code [1,1,1,1]], [0, 9, 8, 4, 2], [.objc wRef p0, .i .i64, .i .i64, .box 23 [.ic .i64 (t), .ic .i64 (p), .ic .i64 (sh)], .ic .i64 (n)]⟩ : Hd Sg)) (fun sv' m' q' => r14_Find_I0 s t p sh n sv' m' q' (r14_Find s t p sh n)), appC (Hd.kd (⟨none, [0,1,0,1,1,1,1], [.blk 2, .code [1,1,1,1,1]], [0, 11, 4], [.objc wRef p0, .i .i64, .box 23 [.ic .i64 (t), .ic .i64 (p), .ic .i64 (sh)]]⟩ : Hd Sg)) (fun sv' k' => r14_Find_I1 s t p sh n sv' k' (r14_Find s t p sh n))] j (fun _ => False), fun j => List.getD [appC (Hd.kd (⟨none, [0,1,0,1,1,1], [.blk 0, .code [1,1,1,1]], [0, 9, 8, 4, 2], [.objc wRef p0, .i .i64, .i .i64, .box 23 [.ic .i64 (t), .ic .i64 (p), .ic .i64 (sh)], .ic .i64 (n)]⟩ : Hd Sg)) (fun sv' m' q' => ((p - m').toNat + 12, 0, 0)), appC (Hd.kd (⟨none, [0,1,0,1,1,1,1], [.blk 2, .code [1,1,1,1,1]], [0, 11, 4], [.objc wRef p0, .i .i64, .box 23 [.ic .i64 (t), .ic .i64 (p), .ic .i64 (sh)]]⟩ : Hd Sg)) (fun sv' k' => ((11 - k').toNat, 0, 0))] j (fun _ => (0, 0, 0)), by kernel_rfl, ⟨r14_Find_w s t p sh n (fun sv' m' q' => r14_Find_I0 s t p sh n sv' m' q' (r14_Find s t p sh n)) (fun sv' k' => r14_Find_I1 s t p sh n sv' k' (r14_Find s t p sh n)) (fun r__ => r__ = (r14_Find s t p sh n)), fun _ _ _ => by kernel_rfl, r14_Find_begin s t p sh n hp0 ⟩, ⟨fun sv m q hI => ⟨r14_Find_w0 s t p sh n sv m q (fun sv' m' q' => r14_Find_I0 s t p sh n sv' m' q' (r14_Find s t p sh n) ∧ lx ((p - m').toNat + 12, 0, 0) ((p - m).toNat + 12, 0, 0)) (fun sv' k' => r14_Find_I1 s t p sh n sv' k' (r14_Find s t p sh n) ∧ lx ((11 - k').toNat, 0, 0) ((p - m).toNat + 12, 0, 0)) (fun r__ => r__ = (r14_Find s t p sh n)), fun _ _ _ => by kernel_rfl, r14_Find_step0 s t p sh n hp0 sv m q hI⟩, ⟨fun sv k hI => ⟨r14_Find_w1 s t p sh n sv k (fun sv' m' q' => r14_Find_I0 s t p sh n sv' m' q' (r14_Find s t p sh n) ∧ lx ((p - m').toNat + 12, 0, 0) ((11 - k).toNat, 0, 0)) (fun sv' k' => r14_Find_I1 s t p sh n sv' k' (r14_Find s t p sh n) ∧ lx ((11 - k').toNat, 0, 0) ((11 - k).toNat, 0, 0)) (fun r__ => r__ = (r14_Find s t p sh n)), fun _ _ _ => by kernel_rfl, r14_Find_step1 s t p sh n hp0 sv k hI⟩, trivial⟩⟩⟩
def T_r14_Find : List (Nat × Entry Sg) := (138, e_r14_Find) :: T_bin_Find
theorem T_r14_Find_ok : TableOk Dg Tryz.prog T_r14_Find := TableOk.cons Dg r14_Find_ok T_bin_Find_ok
end Go.Proofs.YtnddjnnakkiidaaGreat
namespace Go.Sl
def cel (xs : List Int) (i : Int) : Int := xs.getD i.toNat 0
def infoOk (v : Int) : Bool := iRight (v % 16) (v / 16 % 4096) (v / 65536)
theorem iGet_len {v : Int} (h : infoOk v = true) (hk : ((iGet v).k == 0) = false) : 1 ≤ (iGet v).l := by
  unfold infoOk at h
  have e : iGet v = ⟨v % 16, v / 16 % 4096, v / 65536⟩ := by unfold iGet; rw [h]; rfl
  rw [e] at hk ⊢
  simp only at hk ⊢
  unfold iRight at h
  rw [hk, cond_false] at h
  cases h1 : (v % 16 == 1 || v % 16 == 2) with
  | true =>
    rw [h1] at h
    simp only [cond_true, Bool.and_eq_true, decide_eq_true_eq] at h
    omega
  | false =>
    rw [h1] at h
    simp only [cond_false] at h
    cases h3 : v % 16 == 3 with
    | false => rw [h3] at h; cases h
    | true =>
      rw [h3] at h
      simp only [cond_true, Bool.and_eq_true, decide_eq_true_eq, beq_iff_eq] at h
      omega
theorem iGet_bd (v : Int) : 0 ≤ (iGet v).k ∧ (iGet v).k ≤ 3 ∧ 0 ≤ (iGet v).l ∧ (iGet v).l ≤ 1024 ∧ 0 ≤ (iGet v).c ∧ (iGet v).c ≤ 8 := by
  unfold iGet
  cases h : iRight (v % 16) (v / 16 % 4096) (v / 65536) with
  | false => simp
  | true =>
    simp only [cond_true]
    unfold iRight at h
    cases h0 : v % 16 == 0 with
    | true =>
      rw [h0] at h
      simp only [cond_true, Bool.and_eq_true, beq_iff_eq] at h h0
      omega
    | false =>
      rw [h0] at h
      simp only [cond_false] at h
      cases h1 : (v % 16 == 1 || v % 16 == 2) with
      | true =>
        rw [h1] at h
        simp only [cond_true, Bool.and_eq_true, decide_eq_true_eq, beq_iff_eq, Bool.or_eq_true] at h h1
        omega
      | false =>
        rw [h1] at h
        simp only [cond_false] at h
        cases h3 : v % 16 == 3 with
        | false => rw [h3] at h; cases h
        | true =>
          rw [h3] at h
          simp only [cond_true, Bool.and_eq_true, decide_eq_true_eq, beq_iff_eq] at h h3
          omega
section
variable (c : Cf) (xs : List Int)
def aInfo (p : Int) : If := iGet (cel xs (c.info p))
def startsF : Nat → Int → List Int → List Int × Bool
  | 0, at_, out => (out, at_ == c.p)
  | f + 1, at_, out => bif decide (at_ < c.p) then
      (bif !infoOk (cel xs (c.info at_)) || (aInfo c xs at_).k == 0 then ([], false) else startsF f (at_ + (aInfo c xs at_).l) (out ++ [at_]))
    else (out, at_ == c.p)
def starts : List Int × Bool := startsF c xs (c.p.toNat + 1) 0 []
def tilesF (l : List Int) : Nat → Nat → Bool
  | 0, _ => true
  | k + 1, n => bif decide (n < l.length) && l.getD n 0 == c.p - (k + 1 : Nat) then tilesF l k (n + 1) else (bif cel xs (c.info (c.p - (k + 1 : Nat))) != 0 then false else tilesF l k n)
def tiles : Bool := bif (starts c xs).2 then tilesF c xs (starts c xs).1 c.p.toNat 0 else false
def feetF (l : List Int) : Nat → Nat → Bool
  | 0, _ => true
  | k + 1, n =>
    let p := c.p - (k + 1 : Nat)
    let n' := bif decide (n + 1 < l.length) && l.getD (n + 1) 0 == p then n + 1 else n
    let want := bif p == l.getD n' 0 + (aInfo c xs (l.getD n' 0)).l - 1 then nv (l.getD n' 0 + 1) else 0
    bif cel xs (c.foot p) != want then false else feetF l k n'
def feet : Bool := feetF c xs (starts c xs).1 c.p.toNat 0
def apartF (l : List Int) : Nat → Bool
  | 0 => true
  | k + 1 => bif (aInfo c xs (l.getD (l.length - (k + 1)) 0)).k == 1 && (aInfo c xs (l.getD (l.length - (k + 1) - 1) 0)).k == 1 then false else apartF l k
def apart : Bool := apartF c xs (starts c xs).1 ((starts c xs).1.length - 1)
def bitAt (v : Int) (i : Int) : Bool := decide (i ≥ 0) && decide (i < 32) && v / 2 ^ i.toNat % 2 == 1
def onesF (v : Int) : Nat → Int
  | 0 => 0
  | k + 1 => onesF v k + (bif bitAt v k then 1 else 0)
def ones (v : Int) : Int := onesF v 32
def kSlots (k : Int) : Int := bif decide (0 ≤ k) then [32, 21, 16, 10, 8, 5, 4, 3, 2].getD k.toNat 0 else 0
def slotsB (p : Int) (i : If) : Nat → Bool
  | 0 => true
  | k + 1 =>
    let b : Int := 32 - (k + 1 : Nat)
    let live := bitAt (cel xs (c.slots p)) b
    let taken := bitAt (cel xs (c.taken p)) b
    bif (live && !taken) || (taken && ((i.k != 3) || decide (b ≥ kSlots i.c))) then false else slotsB p i k
def slotsF : Nat → Bool
  | 0 => true
  | k + 1 =>
    let p := c.p - (k + 1 : Nat)
    bif slotsB c xs p (aInfo c xs p) 32 then (bif (aInfo c xs p).k == 3 && cel xs (c.taken p) == 0 then false else slotsF k) else false
def slotsOk : Bool := slotsF c xs c.p.toNat
def listF : Nat → Int → Int → List Int → List Int × Bool
  | 0, _, _, out => (out, false)
  | f + 1, q, ahead, out => bif q == 0 then (out, true) else
      bif decide (q > c.p) || decide ((out.length : Int) ≥ c.p) then (out, false) else
      bif cel xs (c.prev (q - 1)) != ahead then (out, false) else listF f (cel xs (c.next (q - 1))) q (out ++ [q - 1])
def listA (head : Int) : List Int × Bool := listF c xs (c.p.toNat + 2) (cel xs head) 0 []
def inA (l : List Int) (p : Int) : Int := (l.filter (· == p)).length
def full (taken k : Int) : Bool := ones taken == kSlots k
def binned (p k : Int) : Bool := (aInfo c xs p).k == 1 && logI (aInfo c xs p).l == k
def racked (p k : Int) : Bool := (aInfo c xs p).k == 3 && (aInfo c xs p).c == k && !full (cel xs (c.taken p)) k
def onceF (l : List Int) (g : Int → Bool) : Nat → Bool
  | 0 => true
  | k + 1 =>
    let p := c.p - (k + 1 : Nat)
    bif inA l p != (bif g p then 1 else 0) then false else onceF l g k
def binsF : Nat → Bool
  | 0 => true
  | k + 1 => bif (listA c xs (cBin (11 - (k + 1 : Nat)))).2 then (bif onceF c (listA c xs (cBin (11 - (k + 1 : Nat)))).1 (binned c xs · (11 - (k + 1 : Nat))) c.p.toNat then binsF k else false) else false
def bins : Bool := binsF c xs 11
def racksF : Nat → Bool
  | 0 => true
  | k + 1 => bif (listA c xs (cRack (9 - (k + 1 : Nat)))).2 then (bif onceF c (listA c xs (cRack (9 - (k + 1 : Nat)))).1 (racked c xs · (9 - (k + 1 : Nat))) c.p.toNat then racksF k else false) else false
def racks : Bool := racksF c xs 9
def looseF : Nat → Bool
  | 0 => true
  | k + 1 =>
    let p := c.p - (k + 1 : Nat)
    let i := aInfo c xs p
    bif i.k == 1 || (i.k == 3 && !full (cel xs (c.taken p)) i.c) then looseF k else
      bif cel xs (c.next p) != 0 || cel xs (c.prev p) != 0 then false else looseF k
def loose : Bool := looseF c xs c.p.toNat
def countsF : Nat → Int × Int
  | 0 => (0, 0)
  | k + 1 =>
    let i := aInfo c xs k
    ((countsF k).1 + (bif i.k == 1 then i.l else 0), (countsF k).2 + (bif i.k == 2 then 1 else 0) + ones (cel xs (c.slots k)))
def counts : Bool := cel xs 0 == nv (countsF c xs c.p.toNat).1 && cel xs 1 == nv (countsF c xs c.p.toNat).2
end
end Go.Sl
namespace Go.Proofs.YtnddjnnakkiidaaGreat
open Go.Sl
structure AGood (c : Cf) (xs : List Int) : Prop where
  ok : c.ok = true
  len : (xs.length : Int) = c.cells
  bd : ∀ v ∈ xs, bd32 v
theorem cel_bd {c : Cf} {xs : List Int} (h : AGood c xs) (i : Int) : bd32 (cel xs i) := by
  unfold cel
  rw [List.getD_eq_getElem?_getD]
  cases e : xs[i.toNat]? with
  | none => exact ⟨by decide, by decide⟩
  | some v => exact h.bd v (List.mem_of_getElem? e)
theorem pc_in {c : Cf} {xs : List Int} (h : AGood c xs) {g k : Int} (hg : 0 ≤ g ∧ g < c.p) (hk : 0 ≤ k ∧ k ≤ 5) : 0 ≤ c.pc g k ∧ c.pc g k < (xs.length : Int) := by
  have h1 := Cf.ok_iff.1 h.ok
  have h2 := h.len
  have hp : c.page g = true := by simp [Cf.page, hg.1, hg.2]
  unfold Cf.cells at h2
  rw [h.ok, cond_true] at h2
  unfold Cf.pc
  rw [h.ok, hp]
  simp only [Bool.and_self, cond_true]
  omega
theorem bin_in {c : Cf} {xs : List Int} (h : AGood c xs) {k : Int} (hk : 0 ≤ k ∧ k < 11) : 0 ≤ cBin k ∧ cBin k < (xs.length : Int) := by
  have h1 := Cf.ok_iff.1 h.ok
  have h2 := h.len
  unfold Cf.cells at h2
  rw [h.ok, cond_true] at h2
  have e : (decide (0 ≤ k) && decide (k < 11)) = true := by simp [hk.1, hk.2]
  unfold cBin
  rw [e, cond_true]
  omega
theorem rack_in {c : Cf} {xs : List Int} (h : AGood c xs) {k : Int} (hk : 0 ≤ k ∧ k < 9) : 0 ≤ cRack k ∧ cRack k < (xs.length : Int) := by
  have h1 := Cf.ok_iff.1 h.ok
  have h2 := h.len
  unfold Cf.cells at h2
  rw [h.ok, cond_true] at h2
  have e : (decide (0 ≤ k) && decide (k < 9)) = true := by simp [hk.1, hk.2]
  unfold cRack
  rw [e, cond_true]
  omega
def r01_Bit (w : Int) (i : Int) : Bool := decide (i ≥ (0 : Int)) && decide (i < (32 : Int)) && Int.tmod (Int.fdiv w ((2 : Int) ^ min (Int.toNat (IntKind.wrap IntKind.u64 i)) (32 : Nat))) (2 : Int) == (1 : Int)
abbrev c_r01_Bit : Ct Sg := ⟨none, false, [.i .u32, .i .i64], .b⟩
def e_r01_Bit : Entry Sg := entC c_r01_Bit r01_Bit (fun _ _ => [])
theorem r01_Bit_ok : EntryOk Dg Tryz.prog 72 e_r01_Bit :=
  ent_ok Dg T_r14_Find_ok (I := []) Tryz.func72 mix (B := bodyOf Tryz.f72) (by kernel_rfl) rfl (by kernel_rfl) 400
    fun _ w i hb hp => ⟨(r01_Bit w i), (.need ((decide (i ≥ (0 : Int)) && decide (i < (32 : Int))) = true → (0 : Int) ≤ IntKind.wrap IntKind.u64 i) .t), fun _ _ _ => by kernel_rfl, ⟨(by first | omega | (rw [IntKind.wrap_u64]; omega) | (intro _; rw [IntKind.wrap_u64]; omega)), fun z0 => trivial⟩, rfl⟩
def T_r01_Bit : List (Nat × Entry Sg) := (72, e_r01_Bit) :: T_r14_Find
theorem T_r01_Bit_ok : TableOk Dg Tryz.prog T_r01_Bit := TableOk.cons Dg r01_Bit_ok T_r14_Find_ok
def r07_Slots (t : Int) (p : Int) (sh : Int) (g : Int) : Int := r07_Page t p sh g (4 : Int)
abbrev c_r07_Slots : Ct Sg := ⟨none, false, [.agg [.i .i64, .i .i64, .i .i64], .i .i64], .i .i64⟩
def e_r07_Slots : Entry Sg := entC c_r07_Slots r07_Slots (fun _ _ _ _ => [])
theorem r07_Slots_ok : EntryOk Dg Tryz.prog 99 e_r07_Slots :=
  ent_ok Dg T_r01_Bit_ok (I := []) Tryz.func99 mix (B := bodyOf Tryz.f99) (by kernel_rfl) rfl (by kernel_rfl) 400
    fun _ t p sh g hb hp => ⟨(r07_Slots t p sh g), .t, fun _ _ _ => by kernel_rfl, trivial, rfl⟩
def T_r07_Slots : List (Nat × Entry Sg) := (99, e_r07_Slots) :: T_r01_Bit
theorem T_r07_Slots_ok : TableOk Dg Tryz.prog T_r07_Slots := TableOk.cons Dg r07_Slots_ok T_r01_Bit_ok
def r07_Taken (t : Int) (p : Int) (sh : Int) (g : Int) : Int := r07_Page t p sh g (5 : Int)
abbrev c_r07_Taken : Ct Sg := ⟨none, false, [.agg [.i .i64, .i .i64, .i .i64], .i .i64], .i .i64⟩
def e_r07_Taken : Entry Sg := entC c_r07_Taken r07_Taken (fun _ _ _ _ => [])
theorem r07_Taken_ok : EntryOk Dg Tryz.prog 71 e_r07_Taken :=
  ent_ok Dg T_r07_Slots_ok (I := []) Tryz.func71 mix (B := bodyOf Tryz.f71) (by kernel_rfl) rfl (by kernel_rfl) 400
    fun _ t p sh g hb hp => ⟨(r07_Taken t p sh g), .t, fun _ _ _ => by kernel_rfl, trivial, rfl⟩
def T_r07_Taken : List (Nat × Entry Sg) := (71, e_r07_Taken) :: T_r07_Slots
theorem T_r07_Taken_ok : TableOk Dg Tryz.prog T_r07_Taken := TableOk.cons Dg r07_Taken_ok T_r07_Slots_ok
def r07_Rack (k : Int) : Int := (bif decide (k < (0 : Int)) || decide (k > (8 : Int)) then (-1 : Int) else IntKind.wrap IntKind.i64 ((13 : Int) + k))
abbrev c_r07_Rack : Ct Sg := ⟨none, false, [.i .i64], .i .i64⟩
def e_r07_Rack : Entry Sg := entC c_r07_Rack r07_Rack (fun _ => [])
theorem r07_Rack_ok : EntryOk Dg Tryz.prog 65 e_r07_Rack :=
  ent_ok Dg T_r07_Taken_ok (I := []) Tryz.func65 mix (B := bodyOf Tryz.f65) (by kernel_rfl) rfl (by kernel_rfl) 400
    fun _ k hb hp => ⟨(r07_Rack k), .t, fun _ _ _ => by kernel_rfl, trivial, rfl⟩
def T_r07_Rack : List (Nat × Entry Sg) := (65, e_r07_Rack) :: T_r07_Taken
theorem T_r07_Rack_ok : TableOk Dg Tryz.prog T_r07_Rack := TableOk.cons Dg r07_Rack_ok T_r07_Taken_ok
def r07_Cells (t : Int) (p : Int) (sh : Int) : Int := (bif !r04_Right t p sh then (0 : Int) else IntKind.wrap IntKind.i64 (IntKind.wrap IntKind.i64 ((30 : Int) + IntKind.wrap IntKind.i64 ((4 : Int) * t)) + IntKind.wrap IntKind.i64 ((6 : Int) * p)))
abbrev c_r07_Cells : Ct Sg := ⟨none, false, [.agg [.i .i64, .i .i64, .i .i64]], .i .i64⟩
def e_r07_Cells : Entry Sg := entC c_r07_Cells r07_Cells (fun _ _ _ => [])
theorem r07_Cells_ok : EntryOk Dg Tryz.prog 116 e_r07_Cells :=
  ent_ok Dg T_r07_Rack_ok (I := []) Tryz.func116 mix (B := bodyOf Tryz.f116) (by kernel_rfl) rfl (by kernel_rfl) 400
    fun _ t p sh hb hp => ⟨(r07_Cells t p sh), .t, fun _ _ _ => by kernel_rfl, trivial, rfl⟩
def T_r07_Cells : List (Nat × Entry Sg) := (116, e_r07_Cells) :: T_r07_Rack
theorem T_r07_Cells_ok : TableOk Dg Tryz.prog T_r07_Cells := TableOk.cons Dg r07_Cells_ok T_r07_Rack_ok
def r05_Slots (k : Int) : Int := (bif k == (0 : Int) then (32 : Int) else (bif k == (1 : Int) then (21 : Int) else (bif k == (2 : Int) then (16 : Int) else (bif k == (3 : Int) then (10 : Int) else (bif k == (4 : Int) then (8 : Int) else (bif k == (5 : Int) then (5 : Int) else (bif k == (6 : Int) then (4 : Int) else (bif k == (7 : Int) then (3 : Int) else (bif k == (8 : Int) then (2 : Int) else (0 : Int))))))))))
abbrev c_r05_Slots : Ct Sg := ⟨none, false, [.i .i64], .i .i64⟩
def e_r05_Slots : Entry Sg := entC c_r05_Slots r05_Slots (fun _ => [])
theorem r05_Slots_ok : EntryOk Dg Tryz.prog 23 e_r05_Slots :=
  ent_ok Dg T_r07_Cells_ok (I := []) Tryz.func23 mix (B := bodyOf Tryz.f23) (by kernel_rfl) rfl (by kernel_rfl) 400
    fun _ k hb hp => ⟨(r05_Slots k), .t, fun _ _ _ => by kernel_rfl, trivial, rfl⟩
def T_r05_Slots : List (Nat × Entry Sg) := (23, e_r05_Slots) :: T_r07_Cells
theorem T_r05_Slots_ok : TableOk Dg Tryz.prog T_r05_Slots := TableOk.cons Dg r05_Slots_ok T_r07_Cells_ok
def x_Info (t : Int) (p : Int) (sh : Int) (xs : List Int) (g : Int) : Int × Int × Int := ((aInfo ⟨t, p, sh⟩ xs g).k, (aInfo ⟨t, p, sh⟩ xs g).l, (aInfo ⟨t, p, sh⟩ xs g).c)
abbrev c_x_Info : Ct Sg := ⟨none, false, [.agg [.i .i64, .i .i64, .i .i64, .ro [some .u32]], .i .i64], .agg [.i .i64, .i .i64, .i .i64]⟩
def e_x_Info : Entry Sg := entC c_x_Info x_Info (fun t p sh xs g => [AGood ⟨t, p, sh⟩ xs, 0 ≤ g ∧ g < p])
def x_Info_w (t : Int) (p : Int) (sh : Int) (xs : List Int) (g : Int) (R_ : Int × Int × Int → Prop) : Prop := ((∀ r2 : Int, r2 = (r07_Info t p sh g) → (((0 : Int) ≤ r2 ∧ r2 < (↑(List.length xs) : Int)) ∧ (((0 : Int) ≤ r2 ∧ r2 < (↑(List.length xs) : Int)) → ((∀ r4 : Int × Int × Int × Bool, r4 = (r09_Get (List.getD xs (Int.toNat r2) (0 : Int))) → (R_ ((Prod.fst r4, Prod.fst (Prod.snd r4), Prod.fst (Prod.snd (Prod.snd r4)))))) ∧ (∀ r5 : Int × Int × Int × Bool, r5 = (r09_Get (List.getD xs (Int.toNat r2) (0 : Int))) → (R_ ((Prod.fst r5, Prod.fst (Prod.snd r5), Prod.fst (Prod.snd (Prod.snd r5)))))))))) ∧ (∀ r3 : Int, r3 = (r07_Info t p sh g) → (((0 : Int) ≤ r3 ∧ r3 < (↑(List.length xs) : Int)) ∧ (((0 : Int) ≤ r3 ∧ r3 < (↑(List.length xs) : Int)) → (∀ r5 : Int × Int × Int × Bool, r5 = (r09_Get (List.getD xs (Int.toNat r3) (0 : Int))) → (R_ ((Prod.fst r5, Prod.fst (Prod.snd r5), Prod.fst (Prod.snd (Prod.snd r5))))))))))
theorem x_Info_begin (t : Int) (p : Int) (sh : Int) (xs : List Int) (g : Int) (hp0 : AGood ⟨t, p, sh⟩ xs) (hp1 : 0 ≤ g ∧ g < p) (hl0 : xs.length ≤ 9223372036854775807) : x_Info_w t p sh xs g  (fun r__ => r__ = (x_Info t p sh xs g)) := by
  unfold x_Info_w
  have hin := pc_in hp0 hp1 (k := 0) (by omega)
  obtain ⟨e1, e2, e3⟩ := r09_Get_i (cel_bd hp0 (Cf.info ⟨t, p, sh⟩ g))
  have key : ∀ r2, r2 = r07_Info t p sh g → (0 ≤ r2 ∧ r2 < (xs.length : Int)) ∧ ∀ r4 : Int × Int × Int × Bool, r4 = r09_Get (xs.getD r2.toNat 0) → (r4.1, r4.2.1, r4.2.2.1) = x_Info t p sh xs g := by
    rintro r2 rfl
    rw [r07_Info_eq]
    refine ⟨hin, ?_⟩
    rintro r4 rfl
    exact Prod.ext e1 (Prod.ext e2 e3)
  exact ⟨fun r2 h2 => ⟨(key r2 h2).1, fun _ => ⟨fun r4 h4 => (key r2 h2).2 r4 h4, fun r5 h5 => (key r2 h2).2 r5 h5⟩⟩, fun r3 h3 => ⟨(key r3 h3).1, fun _ r5 h5 => (key r3 h3).2 r5 h5⟩⟩
theorem x_Info_ok : EntryOk Dg Tryz.prog 29 e_x_Info :=
  ent_wp Dg T_r05_Slots_ok (I := []) Tryz.func29 mix (B := bodyOf Tryz.f29) (by kernel_rfl) rfl (by kernel_rfl) 400
    fun p0 t p sh xs g hb hp => have hl0 : xs.length ≤ 9223372036854775807 := hb.1.2.2.2.1; have hp0 : AGood ⟨t, p, sh⟩ xs := hp _ (.head _); have hp1 : 0 ≤ g ∧ g < p := hp _ (.tail _ (.head _)); ⟨[], fun j => List.getD [] j (fun _ => False), fun j => List.getD [] j (fun _ => (0, 0, 0)), by kernel_rfl, ⟨x_Info_w t p sh xs g  (fun r__ => r__ = (x_Info t p sh xs g)), fun _ _ _ => by kernel_rfl, x_Info_begin t p sh xs g hp0 hp1 hl0 ⟩, trivial⟩
def T_x_Info : List (Nat × Entry Sg) := (29, e_x_Info) :: T_r05_Slots
theorem T_x_Info_ok : TableOk Dg Tryz.prog T_x_Info := TableOk.cons Dg x_Info_ok T_r05_Slots_ok
def x_Slots (t : Int) (p : Int) (sh : Int) (xs : List Int) (g : Int) : Int := cel xs (Cf.slots ⟨t, p, sh⟩ g)
abbrev c_x_Slots : Ct Sg := ⟨none, false, [.agg [.i .i64, .i .i64, .i .i64, .ro [some .u32]], .i .i64], .i .u32⟩
def e_x_Slots : Entry Sg := entC c_x_Slots x_Slots (fun t p sh xs g => [AGood ⟨t, p, sh⟩ xs, 0 ≤ g ∧ g < p])
def x_Slots_w (t : Int) (p : Int) (sh : Int) (xs : List Int) (g : Int) (R_ : Int → Prop) : Prop := (((0 : Int) ≤ r07_Slots t p sh g ∧ r07_Slots t p sh g < (↑(List.length xs) : Int)) ∧ (((0 : Int) ≤ r07_Slots t p sh g ∧ r07_Slots t p sh g < (↑(List.length xs) : Int)) → (R_ (List.getD xs (Int.toNat (r07_Slots t p sh g)) (0 : Int)))))
theorem x_Slots_begin (t : Int) (p : Int) (sh : Int) (xs : List Int) (g : Int) (hp0 : AGood ⟨t, p, sh⟩ xs) (hp1 : 0 ≤ g ∧ g < p) (hl0 : xs.length ≤ 9223372036854775807) : x_Slots_w t p sh xs g  (fun r__ => r__ = (x_Slots t p sh xs g)) := by
  unfold x_Slots_w
  have e : r07_Slots t p sh g = Cf.slots ⟨t, p, sh⟩ g := r07_Page_eq (by omega)
  have hin := pc_in hp0 hp1 (k := 4) (by omega)
  rw [e]
  exact ⟨hin, fun _ => rfl⟩
theorem x_Slots_ok : EntryOk Dg Tryz.prog 84 e_x_Slots :=
  ent_wp Dg T_x_Info_ok (I := []) Tryz.func84 mix (B := bodyOf Tryz.f84) (by kernel_rfl) rfl (by kernel_rfl) 400
    fun p0 t p sh xs g hb hp => have hl0 : xs.length ≤ 9223372036854775807 := hb.1.2.2.2.1; have hp0 : AGood ⟨t, p, sh⟩ xs := hp _ (.head _); have hp1 : 0 ≤ g ∧ g < p := hp _ (.tail _ (.head _)); ⟨[], fun j => List.getD [] j (fun _ => False), fun j => List.getD [] j (fun _ => (0, 0, 0)), by kernel_rfl, ⟨x_Slots_w t p sh xs g  (fun r__ => r__ = (x_Slots t p sh xs g)), fun _ _ _ => by kernel_rfl, x_Slots_begin t p sh xs g hp0 hp1 hl0 ⟩, trivial⟩
def T_x_Slots : List (Nat × Entry Sg) := (84, e_x_Slots) :: T_x_Info
theorem T_x_Slots_ok : TableOk Dg Tryz.prog T_x_Slots := TableOk.cons Dg x_Slots_ok T_x_Info_ok
def x_Taken (t : Int) (p : Int) (sh : Int) (xs : List Int) (g : Int) : Int := cel xs (Cf.taken ⟨t, p, sh⟩ g)
abbrev c_x_Taken : Ct Sg := ⟨none, false, [.agg [.i .i64, .i .i64, .i .i64, .ro [some .u32]], .i .i64], .i .u32⟩
def e_x_Taken : Entry Sg := entC c_x_Taken x_Taken (fun t p sh xs g => [AGood ⟨t, p, sh⟩ xs, 0 ≤ g ∧ g < p])
def x_Taken_w (t : Int) (p : Int) (sh : Int) (xs : List Int) (g : Int) (R_ : Int → Prop) : Prop := (((0 : Int) ≤ r07_Taken t p sh g ∧ r07_Taken t p sh g < (↑(List.length xs) : Int)) ∧ (((0 : Int) ≤ r07_Taken t p sh g ∧ r07_Taken t p sh g < (↑(List.length xs) : Int)) → (R_ (List.getD xs (Int.toNat (r07_Taken t p sh g)) (0 : Int)))))
theorem x_Taken_begin (t : Int) (p : Int) (sh : Int) (xs : List Int) (g : Int) (hp0 : AGood ⟨t, p, sh⟩ xs) (hp1 : 0 ≤ g ∧ g < p) (hl0 : xs.length ≤ 9223372036854775807) : x_Taken_w t p sh xs g  (fun r__ => r__ = (x_Taken t p sh xs g)) := by
  unfold x_Taken_w
  have e : r07_Taken t p sh g = Cf.taken ⟨t, p, sh⟩ g := r07_Page_eq (by omega)
  have hin := pc_in hp0 hp1 (k := 5) (by omega)
  rw [e]
  exact ⟨hin, fun _ => rfl⟩
theorem x_Taken_ok : EntryOk Dg Tryz.prog 32 e_x_Taken :=
  ent_wp Dg T_x_Slots_ok (I := []) Tryz.func32 mix (B := bodyOf Tryz.f32) (by kernel_rfl) rfl (by kernel_rfl) 400
    fun p0 t p sh xs g hb hp => have hl0 : xs.length ≤ 9223372036854775807 := hb.1.2.2.2.1; have hp0 : AGood ⟨t, p, sh⟩ xs := hp _ (.head _); have hp1 : 0 ≤ g ∧ g < p := hp _ (.tail _ (.head _)); ⟨[], fun j => List.getD [] j (fun _ => False), fun j => List.getD [] j (fun _ => (0, 0, 0)), by kernel_rfl, ⟨x_Taken_w t p sh xs g  (fun r__ => r__ = (x_Taken t p sh xs g)), fun _ _ _ => by kernel_rfl, x_Taken_begin t p sh xs g hp0 hp1 hl0 ⟩, trivial⟩
def T_x_Taken : List (Nat × Entry Sg) := (32, e_x_Taken) :: T_x_Slots
theorem T_x_Taken_ok : TableOk Dg Tryz.prog T_x_Taken := TableOk.cons Dg x_Taken_ok T_x_Slots_ok
end Go.Proofs.YtnddjnnakkiidaaGreat
namespace Go.Proofs.YtnddjnnakkiidaaGreat
open Go.Sl
theorem r09_ok {v : Int} (h : bd32 v) : (r09_Get v).2.2.2 = infoOk v := by
  rw [r09_Get_eq h.1 h.2]
  unfold infoOk
  rw [← iRight_eq]
  cases info_right (v % 16) (v / 16 % 4096) (v / 65536) <;> rfl
def x_starts (t : Int) (p : Int) (sh : Int) (xs : List Int) : List Int × Bool := starts ⟨t, p, sh⟩ xs
abbrev c_x_starts : Ct Sg := ⟨none, false, [.agg [.i .i64, .i .i64, .i .i64, .ro [some .u32]]], .tup [.new 3 [some .i64], .b]⟩
def e_x_starts : Entry Sg := entC c_x_starts x_starts (fun t p sh xs => [AGood ⟨t, p, sh⟩ xs])
def x_starts_w (t : Int) (p : Int) (sh : Int) (xs : List Int) (Q0 : Int → Nat → List Int → Prop) (R_ : List Int × Bool → Prop) : Prop := (Q0 ((0 : Int)) ((0 : Nat)) ([]))
def x_starts_w0 (t : Int) (p : Int) (sh : Int) (xs : List Int) (i : Int) (n1 : Nat) (out : List Int) (Q0 : Int → Nat → List Int → Prop) (R_ : List Int × Bool → Prop) : Prop := (((decide (i < p)) = true → ((∀ r1 : Int, r1 = (r07_Info t p sh i) → (((0 : Int) ≤ r1 ∧ r1 < (↑(List.length xs) : Int)) ∧ (((0 : Int) ≤ r1 ∧ r1 < (↑(List.length xs) : Int)) → ((∀ r3 : Int × Int × Int × Bool, r3 = (r09_Get (List.getD xs (Int.toNat r1) (0 : Int))) → (((!Prod.snd (Prod.snd (Prod.snd r3)) || Prod.fst r3 == (0 : Int)) = true → (R_ (([], false)))) ∧ ((!Prod.snd (Prod.snd (Prod.snd r3)) || Prod.fst r3 == (0 : Int)) = false → (((n1 + (1 : Nat)) * (8 : Nat) ≤ (140737488355328 : Nat)) ∧ (((n1 + (1 : Nat)) * (8 : Nat) ≤ (140737488355328 : Nat)) → (Q0 (IntKind.wrap IntKind.i64 (i + Prod.fst (Prod.snd r3))) (n1 + (1 : Nat)) (out ++ [i]))))))) ∧ (∀ r4 : Int × Int × Int × Bool, r4 = (r09_Get (List.getD xs (Int.toNat r1) (0 : Int))) → (((!Prod.snd (Prod.snd (Prod.snd r4)) || Prod.fst r4 == (0 : Int)) = true → (R_ (([], false)))) ∧ ((!Prod.snd (Prod.snd (Prod.snd r4)) || Prod.fst r4 == (0 : Int)) = false → (((n1 + (1 : Nat)) * (8 : Nat) ≤ (140737488355328 : Nat)) ∧ (((n1 + (1 : Nat)) * (8 : Nat) ≤ (140737488355328 : Nat)) → (Q0 (IntKind.wrap IntKind.i64 (i + Prod.fst (Prod.snd r4))) (n1 + (1 : Nat)) (out ++ [i]))))))))))) ∧ (∀ r2 : Int, r2 = (r07_Info t p sh i) → (((0 : Int) ≤ r2 ∧ r2 < (↑(List.length xs) : Int)) ∧ (((0 : Int) ≤ r2 ∧ r2 < (↑(List.length xs) : Int)) → (∀ r4 : Int × Int × Int × Bool, r4 = (r09_Get (List.getD xs (Int.toNat r2) (0 : Int))) → (((!Prod.snd (Prod.snd (Prod.snd r4)) || Prod.fst r4 == (0 : Int)) = true → (R_ (([], false)))) ∧ ((!Prod.snd (Prod.snd (Prod.snd r4)) || Prod.fst r4 == (0 : Int)) = false → (((n1 + (1 : Nat)) * (8 : Nat) ≤ (140737488355328 : Nat)) ∧ (((n1 + (1 : Nat)) * (8 : Nat) ≤ (140737488355328 : Nat)) → (Q0 (IntKind.wrap IntKind.i64 (i + Prod.fst (Prod.snd r4))) (n1 + (1 : Nat)) (out ++ [i])))))))))))) ∧ ((decide (i < p)) = false → (R_ ((out, i == p)))))
def x_starts_I0 (t : Int) (p : Int) (sh : Int) (xs : List Int) (i : Int) (n1 : Nat) (out : List Int) (r_ : List Int × Bool) : Prop := 0 ≤ i ∧ n1 = out.length ∧ (out.length : Int) ≤ i ∧ i ≤ p + 1024 ∧ ∃ f : Nat, p - i < f ∧ startsF ⟨t, p, sh⟩ xs f i out = r_
theorem x_starts_begin (t : Int) (p : Int) (sh : Int) (xs : List Int) (hp0 : AGood ⟨t, p, sh⟩ xs) (hl0 : xs.length ≤ 9223372036854775807) : x_starts_w t p sh xs (fun i' n1' out' => x_starts_I0 t p sh xs i' n1' out' (x_starts t p sh xs)) (fun r__ => r__ = (x_starts t p sh xs)) := by
  unfold x_starts_w
  try unfold x_starts_I0
  have hok := Cf.ok_iff.1 hp0.ok
  simp only at hok
  exact ⟨by omega, rfl, by simp, by omega, p.toNat + 1, by omega, rfl⟩
theorem x_starts_step0 (t : Int) (p : Int) (sh : Int) (xs : List Int) (hp0 : AGood ⟨t, p, sh⟩ xs) (hl0 : xs.length ≤ 9223372036854775807) (i : Int) (n1 : Nat) (out : List Int) {r_ : List Int × Bool} (hI : x_starts_I0 t p sh xs i n1 out r_) : x_starts_w0 t p sh xs i n1 out (fun i' n1' out' => x_starts_I0 t p sh xs i' n1' out' r_ ∧ lx ((p + 1025 - i').toNat, 0, 0) ((p + 1025 - i).toNat, 0, 0)) (fun r__ => r__ = r_) := by
  unfold x_starts_I0 at hI
  unfold x_starts_w0
  try unfold x_starts_I0
  obtain ⟨h0, h1, h2, h3, f, hf, hr⟩ := hI
  have hok := Cf.ok_iff.1 hp0.ok
  simp only at hok
  refine ⟨fun h => ?_, fun h => ?_⟩
  · simp only [decide_eq_true_eq] at h
    obtain ⟨f', rfl⟩ : ∃ f', f = f' + 1 := ⟨f - 1, by omega⟩
    have hin := pc_in hp0 (g := i) (k := 0) ⟨h0, h⟩ (by omega)
    have hb := cel_bd hp0 (Cf.info ⟨t, p, sh⟩ i)
    obtain ⟨g1, g2, _⟩ := r09_Get_i hb
    have g3 := r09_ok hb
    have hd : decide (i < p) = true := by simpa using h
    simp only [startsF, hd, cond_true] at hr
    have hw : ∀ l : Int, 0 ≤ l → l ≤ 1024 → IntKind.i64.wrap (i + l) = i + l := fun l h1 h2 => w64 (by omega)
    have key : ∀ r1, r1 = r07_Info t p sh i → (0 ≤ r1 ∧ r1 < (xs.length : Int)) ∧ ∀ r4 : Int × Int × Int × Bool, r4 = r09_Get (xs.getD r1.toNat 0) → ((!r4.2.2.2 || r4.1 == 0) = true → ([], false) = r_) ∧ ((!r4.2.2.2 || r4.1 == 0) = false → (n1 + 1) * 8 ≤ 140737488355328 ∧
        ((0 ≤ IntKind.i64.wrap (i + r4.2.1) ∧ n1 + 1 = (out ++ [i]).length ∧ ((out ++ [i]).length : Int) ≤ IntKind.i64.wrap (i + r4.2.1) ∧ IntKind.i64.wrap (i + r4.2.1) ≤ p + 1024 ∧ ∃ f : Nat, p - IntKind.i64.wrap (i + r4.2.1) < f ∧ startsF ⟨t, p, sh⟩ xs f (IntKind.i64.wrap (i + r4.2.1)) (out ++ [i]) = r_) ∧ lx ((p + 1025 - IntKind.i64.wrap (i + r4.2.1)).toNat, 0, 0) ((p + 1025 - i).toNat, 0, 0))) := by
      rintro r1 rfl
      rw [r07_Info_eq]
      refine ⟨hin, ?_⟩
      rintro r4 rfl
      have e1 : (r09_Get (xs.getD (Cf.info ⟨t, p, sh⟩ i).toNat 0)).1 = (aInfo ⟨t, p, sh⟩ xs i).k := g1
      have e2 : (r09_Get (xs.getD (Cf.info ⟨t, p, sh⟩ i).toNat 0)).2.1 = (aInfo ⟨t, p, sh⟩ xs i).l := g2
      have e3 : (r09_Get (xs.getD (Cf.info ⟨t, p, sh⟩ i).toNat 0)).2.2.2 = infoOk (cel xs (Cf.info ⟨t, p, sh⟩ i)) := g3
      rw [e1, e2, e3]
      refine ⟨fun hc => ?_, fun hc => ?_⟩
      · rw [hc] at hr; exact hr
      · rw [hc, cond_false] at hr
        simp only [Bool.or_eq_false_iff, Bool.not_eq_false'] at hc
        have hl : 1 ≤ (aInfo ⟨t, p, sh⟩ xs i).l := iGet_len hc.1 hc.2
        have hl2 : (aInfo ⟨t, p, sh⟩ xs i).l ≤ 1024 := (iGet_bd _).2.2.2.1
        rw [hw _ (by omega) hl2]
        refine ⟨by omega, ⟨by omega, by simp [h1], by simp; omega, by omega, f', by omega, hr⟩, lxo_⟩
    exact ⟨fun r1 q1 => ⟨(key r1 q1).1, fun _ => ⟨fun r3 q3 => ⟨((key r1 q1).2 r3 q3).1, fun hc => ⟨(((key r1 q1).2 r3 q3).2 hc).1, fun _ => (((key r1 q1).2 r3 q3).2 hc).2⟩⟩, fun r4 q4 => ⟨((key r1 q1).2 r4 q4).1, fun hc => ⟨(((key r1 q1).2 r4 q4).2 hc).1, fun _ => (((key r1 q1).2 r4 q4).2 hc).2⟩⟩⟩⟩, fun r2 q2 => ⟨(key r2 q2).1, fun _ r4 q4 => ⟨((key r2 q2).2 r4 q4).1, fun hc => ⟨(((key r2 q2).2 r4 q4).2 hc).1, fun _ => (((key r2 q2).2 r4 q4).2 hc).2⟩⟩⟩⟩
  · have hd : decide (i < p) = false := h
    show (out, i == p) = r_
    rw [← hr]
    cases f with
    | zero => rfl
    | succ f => simp only [startsF, hd, cond_false]
theorem x_starts_ok : EntryOk Dg Tryz.prog 170 e_x_starts :=
  ent_wp Dg T_x_Taken_ok (I := [363000000005, 363000000004, 363000000001]) Tryz.func170 mix (B := bodyOf Tryz.f170) (by kernel_rfl) rfl (by kernel_rfl) 400
    fun p0 t p sh xs hb hp => have hl0 : xs.length ≤ 9223372036854775807 := hb.1.2.2.2.1; have hp0 : AGood ⟨t, p, sh⟩ xs := hp _ (.head _); ⟨[⟨none, [0,0,1,1,1], [.blk 0, .code [1,1,1,1]], [5, 4, 1], [.i .i64, .own 3 [some .i64], .box 55 [.ic .i64 (t), .ic .i64 (p), .ic .i64 (sh), .roc [.ints .u32 (xs)]]]⟩], fun j => List.getD [appC (Hd.kd (⟨none, [0,0,1,1,1], [.blk 0, .code [1,1,1,1]], [5, 4, 1], [.i .i64, .own 3 [some .i64], .box 55 [.ic .i64 (t), .ic .i64 (p), .ic .i64 (sh), .roc [.ints .u32 (xs)]]]⟩ : Hd Sg)) (fun i' n1' out' => x_starts_I0 t p sh xs i' n1' out' (x_starts t p sh xs))] j (fun _ => False), fun j => List.getD [appC (Hd.kd (⟨none, [0,0,1,1,1], [.blk 0, .code [1,1,1,1]], [5, 4, 1], [.i .i64, .own 3 [some .i64], .box 55 [.ic .i64 (t), .ic .i64 (p), .ic .i64 (sh), .roc [.ints .u32 (xs)]]]⟩ : Hd Sg)) (fun i' n1' out' => ((p + 1025 - i').toNat, 0, 0))] j (fun _ => (0, 0, 0)), by kernel_rfl, ⟨x_starts_w t p sh xs (fun i' n1' out' => x_starts_I0 t p sh xs i' n1' out' (x_starts t p sh xs)) (fun r__ => r__ = (x_starts t p sh xs)), fun _ _ _ => by kernel_rfl, x_starts_begin t p sh xs hp0 hl0 ⟩, ⟨fun i n1 out hI => ⟨x_starts_w0 t p sh xs i n1 out (fun i' n1' out' => x_starts_I0 t p sh xs i' n1' out' (x_starts t p sh xs) ∧ lx ((p + 1025 - i').toNat, 0, 0) ((p + 1025 - i).toNat, 0, 0)) (fun r__ => r__ = (x_starts t p sh xs)), fun _ _ _ => by kernel_rfl, x_starts_step0 t p sh xs hp0 hl0 i n1 out hI⟩, trivial⟩⟩
def T_x_starts : List (Nat × Entry Sg) := (170, e_x_starts) :: T_x_Taken
theorem T_x_starts_ok : TableOk Dg Tryz.prog T_x_starts := TableOk.cons Dg x_starts_ok T_x_Taken_ok
end Go.Proofs.YtnddjnnakkiidaaGreat
namespace Go.Proofs.YtnddjnnakkiidaaGreat
open Go.Sl
theorem startsF_in {c : Cf} {xs : List Int} : ∀ (f : Nat) (a : Int) (out : List Int), 0 ≤ a → (∀ x ∈ out, 0 ≤ x ∧ x < c.p) → ∀ x ∈ (startsF c xs f a out).1, 0 ≤ x ∧ x < c.p
  | 0, _, out, _, h, x, hx => h x hx
  | f + 1, a, out, ha, h, x, hx => by
    simp only [startsF] at hx
    cases hd : decide (a < c.p) with
    | false => rw [hd] at hx; exact h x hx
    | true =>
      rw [hd, cond_true] at hx
      cases hc : (!infoOk (cel xs (c.info a)) || (aInfo c xs a).k == 0) with
      | true => rw [hc] at hx; cases hx
      | false =>
        rw [hc, cond_false] at hx
        have hl := (iGet_bd (cel xs (c.info a))).2.2.1
        have hl' : 0 ≤ (aInfo c xs a).l := hl
        refine startsF_in f _ _ (by omega) (fun y hy => ?_) x hx
        rcases List.mem_append.1 hy with hy | hy
        · exact h y hy
        · rw [List.mem_singleton.1 hy]; exact ⟨ha, by simpa using hd⟩
theorem starts_in {c : Cf} {xs : List Int} : ∀ x ∈ (starts c xs).1, 0 ≤ x ∧ x < c.p := startsF_in _ _ _ (Int.le_refl 0) fun x hx => by cases hx
theorem startsF_ne {c : Cf} {xs : List Int} : ∀ (f : Nat) (a : Int) (out : List Int), out ≠ [] → (startsF c xs f a out).2 = true → (startsF c xs f a out).1 ≠ []
  | 0, _, out, h, _ => h
  | f + 1, a, out, h, ht => by
    simp only [startsF] at ht ⊢
    cases hd : decide (a < c.p) with
    | false => exact h
    | true =>
      rw [hd, cond_true] at ht
      rw [cond_true]
      cases hc : (!infoOk (cel xs (c.info a)) || (aInfo c xs a).k == 0) with
      | true => rw [hc] at ht; cases ht
      | false =>
        rw [hc, cond_false] at ht
        exact startsF_ne f _ _ (by simp) ht
theorem starts_ne {c : Cf} {xs : List Int} (hp : 1 ≤ c.p) (h : (starts c xs).2 = true) : 1 ≤ (starts c xs).1.length := by
  have hd : decide ((0 : Int) < c.p) = true := by simp; omega
  have : (starts c xs).1 ≠ [] := by
    unfold starts at h ⊢
    simp only [startsF, hd, cond_true] at h ⊢
    cases hc : (!infoOk (cel xs (c.info 0)) || (aInfo c xs 0).k == 0) with
    | true => rw [hc] at h; cases h
    | false =>
      rw [hc, cond_false] at h
      exact startsF_ne _ _ _ (by simp) h
  rcases hl : (starts c xs).1 with _ | ⟨x, r⟩
  · exact absurd hl this
  · simp
theorem startsF_len {c : Cf} {xs : List Int} : ∀ (f : Nat) (a : Int) (out : List Int), (startsF c xs f a out).1.length ≤ out.length + f
  | 0, _, out => Nat.le_refl _
  | f + 1, a, out => by
    simp only [startsF]
    cases decide (a < c.p) with
    | false => simp only [cond_false]; omega
    | true =>
      simp only [cond_true]
      cases (!infoOk (cel xs (c.info a)) || (aInfo c xs a).k == 0) with
      | true => simp only [cond_true, List.length_nil]; omega
      | false =>
        simp only [cond_false]
        have := startsF_len (c := c) (xs := xs) f (a + (aInfo c xs a).l) (out ++ [a])
        simp only [List.length_append, List.length_singleton] at this
        omega
theorem starts_len {c : Cf} {xs : List Int} : (starts c xs).1.length ≤ c.p.toNat + 1 := by
  have := startsF_len (c := c) (xs := xs) (c.p.toNat + 1) 0 []
  unfold starts
  simpa using this
theorem getD_memA {l : List Int} {j : Nat} (h : j < l.length) : l.getD j 0 ∈ l := by
  rw [List.getD_eq_getElem?_getD, List.getElem?_eq_getElem h]; exact List.getElem_mem h
def x_tiles (t : Int) (p : Int) (sh : Int) (xs : List Int) : Bool := tiles ⟨t, p, sh⟩ xs
abbrev c_x_tiles : Ct Sg := ⟨none, false, [.agg [.i .i64, .i .i64, .i .i64, .ro [some .u32]]], .b⟩
def e_x_tiles : Entry Sg := entC c_x_tiles x_tiles (fun t p sh xs => [AGood ⟨t, p, sh⟩ xs])
def x_tiles_w (t : Int) (p : Int) (sh : Int) (xs : List Int) (Q0 : Int → Int → Nat → List Int → Prop) (R_ : Bool → Prop) : Prop := (∀ r1 : List Int × Bool, r1 = (x_starts t p sh xs) → ((AGood { t := t, p := p, s := sh } xs) ∧ ((AGood { t := t, p := p, s := sh } xs) → (((!Prod.snd r1) = true → (R_ (false))) ∧ ((!Prod.snd r1) = false → (Q0 ((0 : Int)) ((0 : Int)) (List.length (Prod.fst r1)) (Prod.fst r1)))))))
def x_tiles_w0 (t : Int) (p : Int) (sh : Int) (xs : List Int) (i : Int) (n : Int) (n1 : Nat) (ls : List Int) (Q0 : Int → Int → Nat → List Int → Prop) (R_ : Bool → Prop) : Prop := (((decide (i < p)) = true → ((decide (n < (↑n1 : Int)) = true → (0 : Int) ≤ n ∧ n < (↑n1 : Int)) ∧ ((decide (n < (↑n1 : Int)) = true → (0 : Int) ≤ n ∧ n < (↑n1 : Int)) → (((decide (n < (↑n1 : Int)) && List.getD ls (Int.toNat n) (0 : Int) == i) = true → (Q0 (IntKind.wrap IntKind.i64 (i + (1 : Int))) (IntKind.wrap IntKind.i64 (n + (1 : Int))) (n1) (ls))) ∧ ((decide (n < (↑n1 : Int)) && List.getD ls (Int.toNat n) (0 : Int) == i) = false → (((0 : Int) ≤ r07_Info t p sh i ∧ r07_Info t p sh i < (↑(List.length xs) : Int)) ∧ (((0 : Int) ≤ r07_Info t p sh i ∧ r07_Info t p sh i < (↑(List.length xs) : Int)) → (((List.getD xs (Int.toNat (r07_Info t p sh i)) (0 : Int) != (0 : Int)) = true → (R_ (false))) ∧ ((List.getD xs (Int.toNat (r07_Info t p sh i)) (0 : Int) != (0 : Int)) = false → (Q0 (IntKind.wrap IntKind.i64 (i + (1 : Int))) (n) (n1) (ls))))))))))) ∧ ((decide (i < p)) = false → (R_ (true))))
def x_tiles_I0 (t : Int) (p : Int) (sh : Int) (xs : List Int) (i : Int) (n : Int) (n1 : Nat) (ls : List Int) (r_ : Bool) : Prop := 0 ≤ i ∧ i ≤ p ∧ 0 ≤ n ∧ n ≤ i ∧ n1 = ls.length ∧ tilesF ⟨t, p, sh⟩ xs ls (p - i).toNat n.toNat = r_
theorem x_tiles_begin (t : Int) (p : Int) (sh : Int) (xs : List Int) (hp0 : AGood ⟨t, p, sh⟩ xs) (hl0 : xs.length ≤ 9223372036854775807) : x_tiles_w t p sh xs (fun i' n' n1' ls' => x_tiles_I0 t p sh xs i' n' n1' ls' (x_tiles t p sh xs)) (fun r__ => r__ = (x_tiles t p sh xs)) := by
  unfold x_tiles_w
  try unfold x_tiles_I0
  have hok := Cf.ok_iff.1 hp0.ok
  simp only at hok
  rintro r1 rfl
  refine ⟨hp0, fun _ => ⟨fun hc => ?_, fun hc => ?_⟩⟩
  · have e : (starts ⟨t, p, sh⟩ xs).2 = false := by simpa [x_starts] using hc
    show false = tiles ⟨t, p, sh⟩ xs
    unfold tiles
    rw [e]; rfl
  · have e : (starts ⟨t, p, sh⟩ xs).2 = true := by simpa [x_starts] using hc
    refine ⟨by omega, by omega, by omega, by omega, rfl, ?_⟩
    show _ = tiles ⟨t, p, sh⟩ xs
    unfold tiles
    rw [e, cond_true, show (p - 0).toNat = p.toNat by omega]
    rfl
theorem x_tiles_step0 (t : Int) (p : Int) (sh : Int) (xs : List Int) (hp0 : AGood ⟨t, p, sh⟩ xs) (hl0 : xs.length ≤ 9223372036854775807) (i : Int) (n : Int) (n1 : Nat) (ls : List Int) {r_ : Bool} (hI : x_tiles_I0 t p sh xs i n n1 ls r_) : x_tiles_w0 t p sh xs i n n1 ls (fun i' n' n1' ls' => x_tiles_I0 t p sh xs i' n' n1' ls' r_ ∧ lx ((p - i').toNat, 0, 0) ((p - i).toNat, 0, 0)) (fun r__ => r__ = r_) := by
  unfold x_tiles_I0 at hI
  unfold x_tiles_w0
  try unfold x_tiles_I0
  obtain ⟨h0, h1, h2, h3, h4, hr⟩ := hI
  have hok := Cf.ok_iff.1 hp0.ok
  simp only at hok
  refine ⟨fun h => ?_, fun h => ?_⟩
  · simp only [decide_eq_true_eq] at h
    have hin := pc_in hp0 (g := i) (k := 0) ⟨h0, h⟩ (by omega)
    have e : (p - i).toNat = (p - (i + 1)).toNat + 1 := by omega
    have ei : (p : Int) - (((p - (i + 1)).toNat + 1 : Nat) : Int) = i := by omega
    have hb : decide (n < (n1 : Int)) = decide (n.toNat < ls.length) := by rw [h4]; apply decide_eq_decide.2; omega
    rw [e] at hr
    simp only [tilesF] at hr
    rw [ei] at hr
    rw [w64 (n := i + 1) (by omega), w64 (n := n + 1) (by omega), r07_Info_eq, hb]
    refine ⟨fun hh => (by simp only [decide_eq_true_eq] at hh; omega), fun _ => ⟨fun hc => ?_, fun hc => ?_⟩⟩
    · rw [hc, cond_true] at hr
      refine ⟨⟨by omega, by omega, by omega, by omega, h4, ?_⟩, lxo_⟩
      rw [show (n + 1).toNat = n.toNat + 1 by omega]; exact hr
    · rw [hc, cond_false] at hr
      refine ⟨hin, fun _ => ⟨fun hz => ?_, fun hz => ?_⟩⟩
      · have hz' : (cel xs (Cf.info ⟨t, p, sh⟩ i) != 0) = true := hz
        rw [hz', cond_true] at hr; exact hr
      · have hz' : (cel xs (Cf.info ⟨t, p, sh⟩ i) != 0) = false := hz
        rw [hz', cond_false] at hr
        exact ⟨⟨by omega, by omega, h2, by omega, h4, hr⟩, lxo_⟩
  · simp only [decide_eq_false_iff_not] at h
    rw [show (p - i).toNat = 0 by omega] at hr
    exact hr
theorem x_tiles_ok : EntryOk Dg Tryz.prog 117 e_x_tiles :=
  ent_wp Dg T_x_starts_ok (I := [6571000000006, 6571000000005, 6571000000003, 6571000000001]) Tryz.func117 mix (B := bodyOf Tryz.f117) (by kernel_rfl) rfl (by kernel_rfl) 400
    fun p0 t p sh xs hb hp => have hl0 : xs.length ≤ 9223372036854775807 := hb.1.2.2.2.1; have hp0 : AGood ⟨t, p, sh⟩ xs := hp _ (.head _); ⟨[⟨none, [0,1,0,1,1,1,1], [.blk 0, .code [1,1,1,1,1]], [6, 5, 3, 1], [.i .i64, .i .i64, .own 3 [some .i64], .box 55 [.ic .i64 (t), .ic .i64 (p), .ic .i64 (sh), .roc [.ints .u32 (xs)]]]⟩], fun j => List.getD [appC (Hd.kd (⟨none, [0,1,0,1,1,1,1], [.blk 0, .code [1,1,1,1,1]], [6, 5, 3, 1], [.i .i64, .i .i64, .own 3 [some .i64], .box 55 [.ic .i64 (t), .ic .i64 (p), .ic .i64 (sh), .roc [.ints .u32 (xs)]]]⟩ : Hd Sg)) (fun i' n' n1' ls' => x_tiles_I0 t p sh xs i' n' n1' ls' (x_tiles t p sh xs))] j (fun _ => False), fun j => List.getD [appC (Hd.kd (⟨none, [0,1,0,1,1,1,1], [.blk 0, .code [1,1,1,1,1]], [6, 5, 3, 1], [.i .i64, .i .i64, .own 3 [some .i64], .box 55 [.ic .i64 (t), .ic .i64 (p), .ic .i64 (sh), .roc [.ints .u32 (xs)]]]⟩ : Hd Sg)) (fun i' n' n1' ls' => ((p - i').toNat, 0, 0))] j (fun _ => (0, 0, 0)), by kernel_rfl, ⟨x_tiles_w t p sh xs (fun i' n' n1' ls' => x_tiles_I0 t p sh xs i' n' n1' ls' (x_tiles t p sh xs)) (fun r__ => r__ = (x_tiles t p sh xs)), fun _ _ _ => by kernel_rfl, x_tiles_begin t p sh xs hp0 hl0 ⟩, ⟨fun i n n1 ls hI => ⟨x_tiles_w0 t p sh xs i n n1 ls (fun i' n' n1' ls' => x_tiles_I0 t p sh xs i' n' n1' ls' (x_tiles t p sh xs) ∧ lx ((p - i').toNat, 0, 0) ((p - i).toNat, 0, 0)) (fun r__ => r__ = (x_tiles t p sh xs)), fun _ _ _ => by kernel_rfl, x_tiles_step0 t p sh xs hp0 hl0 i n n1 ls hI⟩, trivial⟩⟩
def T_x_tiles : List (Nat × Entry Sg) := (117, e_x_tiles) :: T_x_starts
theorem T_x_tiles_ok : TableOk Dg Tryz.prog T_x_tiles := TableOk.cons Dg x_tiles_ok T_x_starts_ok
def x_apart (t : Int) (p : Int) (sh : Int) (xs : List Int) : Bool := apart ⟨t, p, sh⟩ xs
abbrev c_x_apart : Ct Sg := ⟨none, false, [.agg [.i .i64, .i .i64, .i .i64, .ro [some .u32]]], .b⟩
def e_x_apart : Entry Sg := entC c_x_apart x_apart (fun t p sh xs => [AGood ⟨t, p, sh⟩ xs])
def x_apart_w (t : Int) (p : Int) (sh : Int) (xs : List Int) (Q0 : Int → Nat → List Int → Prop) (R_ : Bool → Prop) : Prop := (∀ r1 : List Int × Bool, r1 = (x_starts t p sh xs) → ((AGood { t := t, p := p, s := sh } xs) ∧ ((AGood { t := t, p := p, s := sh } xs) → (Q0 ((1 : Int)) (List.length (Prod.fst r1)) (Prod.fst r1)))))
def x_apart_w0 (t : Int) (p : Int) (sh : Int) (xs : List Int) (n : Int) (n1 : Nat) (ls : List Int) (Q0 : Int → Nat → List Int → Prop) (R_ : Bool → Prop) : Prop := (((decide (n < (↑n1 : Int))) = true → (((0 : Int) ≤ n ∧ n < (↑n1 : Int)) ∧ (((0 : Int) ≤ n ∧ n < (↑n1 : Int)) → ((AGood { t := t, p := p, s := sh } xs) ∧ ((AGood { t := t, p := p, s := sh } xs) → (((0 : Int) ≤ List.getD ls (Int.toNat n) (0 : Int) ∧ List.getD ls (Int.toNat n) (0 : Int) < p) ∧ (((0 : Int) ≤ List.getD ls (Int.toNat n) (0 : Int) ∧ List.getD ls (Int.toNat n) (0 : Int) < p) → (((Prod.fst (x_Info t p sh xs (List.getD ls (Int.toNat n) (0 : Int))) == (1 : Int)) = true → (0 : Int) ≤ IntKind.wrap IntKind.i64 (n - (1 : Int)) ∧ IntKind.wrap IntKind.i64 (n - (1 : Int)) < (↑n1 : Int)) ∧ (((Prod.fst (x_Info t p sh xs (List.getD ls (Int.toNat n) (0 : Int))) == (1 : Int)) = true → (0 : Int) ≤ IntKind.wrap IntKind.i64 (n - (1 : Int)) ∧ IntKind.wrap IntKind.i64 (n - (1 : Int)) < (↑n1 : Int)) → (((Prod.fst (x_Info t p sh xs (List.getD ls (Int.toNat n) (0 : Int))) == (1 : Int)) = true → AGood { t := t, p := p, s := sh } xs) ∧ (((Prod.fst (x_Info t p sh xs (List.getD ls (Int.toNat n) (0 : Int))) == (1 : Int)) = true → AGood { t := t, p := p, s := sh } xs) → (((Prod.fst (x_Info t p sh xs (List.getD ls (Int.toNat n) (0 : Int))) == (1 : Int)) = true → (0 : Int) ≤ List.getD ls (Int.toNat (IntKind.wrap IntKind.i64 (n - (1 : Int)))) (0 : Int) ∧ List.getD ls (Int.toNat (IntKind.wrap IntKind.i64 (n - (1 : Int)))) (0 : Int) < p) ∧ (((Prod.fst (x_Info t p sh xs (List.getD ls (Int.toNat n) (0 : Int))) == (1 : Int)) = true → (0 : Int) ≤ List.getD ls (Int.toNat (IntKind.wrap IntKind.i64 (n - (1 : Int)))) (0 : Int) ∧ List.getD ls (Int.toNat (IntKind.wrap IntKind.i64 (n - (1 : Int)))) (0 : Int) < p) → (((Prod.fst (x_Info t p sh xs (List.getD ls (Int.toNat n) (0 : Int))) == (1 : Int) && Prod.fst (x_Info t p sh xs (List.getD ls (Int.toNat (IntKind.wrap IntKind.i64 (n - (1 : Int)))) (0 : Int))) == (1 : Int)) = true → (R_ (false))) ∧ ((Prod.fst (x_Info t p sh xs (List.getD ls (Int.toNat n) (0 : Int))) == (1 : Int) && Prod.fst (x_Info t p sh xs (List.getD ls (Int.toNat (IntKind.wrap IntKind.i64 (n - (1 : Int)))) (0 : Int))) == (1 : Int)) = false → (Q0 (IntKind.wrap IntKind.i64 (n + (1 : Int))) (n1) (ls))))))))))))))))) ∧ ((decide (n < (↑n1 : Int))) = false → (R_ (true))))
def x_apart_I0 (t : Int) (p : Int) (sh : Int) (xs : List Int) (n : Int) (n1 : Nat) (ls : List Int) (r_ : Bool) : Prop := 1 ≤ n ∧ (n ≤ ls.length ∨ n = 1) ∧ n1 = ls.length ∧ ls = (starts ⟨t, p, sh⟩ xs).1 ∧ apartF ⟨t, p, sh⟩ xs ls (ls.length - n).toNat = r_
theorem x_apart_begin (t : Int) (p : Int) (sh : Int) (xs : List Int) (hp0 : AGood ⟨t, p, sh⟩ xs) (hl0 : xs.length ≤ 9223372036854775807) : x_apart_w t p sh xs (fun n' n1' ls' => x_apart_I0 t p sh xs n' n1' ls' (x_apart t p sh xs)) (fun r__ => r__ = (x_apart t p sh xs)) := by
  unfold x_apart_w
  try unfold x_apart_I0
  rintro r1 rfl
  refine ⟨hp0, fun _ => ⟨by omega, .inr rfl, rfl, rfl, ?_⟩⟩
  show apartF ⟨t, p, sh⟩ xs (starts ⟨t, p, sh⟩ xs).1 (((starts ⟨t, p, sh⟩ xs).1.length : Int) - 1).toNat = apart ⟨t, p, sh⟩ xs
  unfold apart
  congr 1
  omega
theorem x_apart_step0 (t : Int) (p : Int) (sh : Int) (xs : List Int) (hp0 : AGood ⟨t, p, sh⟩ xs) (hl0 : xs.length ≤ 9223372036854775807) (n : Int) (n1 : Nat) (ls : List Int) {r_ : Bool} (hI : x_apart_I0 t p sh xs n n1 ls r_) : x_apart_w0 t p sh xs n n1 ls (fun n' n1' ls' => x_apart_I0 t p sh xs n' n1' ls' r_ ∧ lx ((ls'.length - n').toNat, 0, 0) ((ls.length - n).toNat, 0, 0)) (fun r__ => r__ = r_) := by
  unfold x_apart_I0 at hI
  unfold x_apart_w0
  try unfold x_apart_I0
  obtain ⟨h0, h1, h4, h5, hr⟩ := hI
  have hok := Cf.ok_iff.1 hp0.ok
  simp only at hok
  refine ⟨fun h => ?_, fun h => ?_⟩
  · simp only [decide_eq_true_eq] at h
    have hn : n < (ls.length : Int) := by omega
    have hm := starts_in (c := ⟨t, p, sh⟩) (xs := xs) (ls.getD n.toNat 0) (by rw [← h5]; exact getD_memA (by omega))
    have hm' := starts_in (c := ⟨t, p, sh⟩) (xs := xs) (ls.getD (n - 1).toNat 0) (by rw [← h5]; exact getD_memA (by omega))
    have hbig : n < 9223372036854775807 := by
      have hl := starts_len (c := ⟨t, p, sh⟩) (xs := xs)
      rw [← h5] at hl
      simp only at hl
      omega
    obtain ⟨m, hm2⟩ : ∃ m : Nat, (ls.length - n).toNat = m + 1 := ⟨(ls.length - n).toNat - 1, by omega⟩
    rw [hm2] at hr
    simp only [apartF] at hr
    rw [show ls.length - (m + 1) = n.toNat by omega, show n.toNat - 1 = (n - 1).toNat by omega] at hr
    rw [w64 (n := n - 1) (by omega), w64 (n := n + 1) (by omega)]
    refine ⟨⟨by omega, h⟩, fun _ => ⟨hp0, fun _ => ⟨hm, fun _ => ⟨fun _ => by omega, fun _ => ⟨fun _ => hp0, fun _ => ⟨fun _ => hm', fun _ => ⟨fun hc => ?_, fun hc => ?_⟩⟩⟩⟩⟩⟩⟩
    · simp only [x_Info] at hc; rw [hc, cond_true] at hr; exact hr.symm ▸ rfl
    · simp only [x_Info] at hc; rw [hc, cond_false] at hr
      refine ⟨⟨by omega, by omega, h4, h5, ?_⟩, lxo_⟩
      rw [show (ls.length - (n + 1)).toNat = m by omega]; exact hr
  · simp only [decide_eq_false_iff_not] at h
    rw [show (ls.length - n).toNat = 0 by omega] at hr
    exact hr
theorem x_apart_ok : EntryOk Dg Tryz.prog 119 e_x_apart :=
  ent_wp Dg T_x_tiles_ok (I := [411000000005, 411000000003, 411000000001]) Tryz.func119 mix (B := bodyOf Tryz.f119) (by kernel_rfl) rfl (by kernel_rfl) 400
    fun p0 t p sh xs hb hp => have hl0 : xs.length ≤ 9223372036854775807 := hb.1.2.2.2.1; have hp0 : AGood ⟨t, p, sh⟩ xs := hp _ (.head _); ⟨[⟨none, [0,1,0,1,1], [.blk 0, .code [1,1,1]], [5, 3, 1], [.i .i64, .own 3 [some .i64], .box 55 [.ic .i64 (t), .ic .i64 (p), .ic .i64 (sh), .roc [.ints .u32 (xs)]]]⟩], fun j => List.getD [appC (Hd.kd (⟨none, [0,1,0,1,1], [.blk 0, .code [1,1,1]], [5, 3, 1], [.i .i64, .own 3 [some .i64], .box 55 [.ic .i64 (t), .ic .i64 (p), .ic .i64 (sh), .roc [.ints .u32 (xs)]]]⟩ : Hd Sg)) (fun n' n1' ls' => x_apart_I0 t p sh xs n' n1' ls' (x_apart t p sh xs))] j (fun _ => False), fun j => List.getD [appC (Hd.kd (⟨none, [0,1,0,1,1], [.blk 0, .code [1,1,1]], [5, 3, 1], [.i .i64, .own 3 [some .i64], .box 55 [.ic .i64 (t), .ic .i64 (p), .ic .i64 (sh), .roc [.ints .u32 (xs)]]]⟩ : Hd Sg)) (fun n' n1' ls' => ((ls'.length - n').toNat, 0, 0))] j (fun _ => (0, 0, 0)), by kernel_rfl, ⟨x_apart_w t p sh xs (fun n' n1' ls' => x_apart_I0 t p sh xs n' n1' ls' (x_apart t p sh xs)) (fun r__ => r__ = (x_apart t p sh xs)), fun _ _ _ => by kernel_rfl, x_apart_begin t p sh xs hp0 hl0 ⟩, ⟨fun n n1 ls hI => ⟨x_apart_w0 t p sh xs n n1 ls (fun n' n1' ls' => x_apart_I0 t p sh xs n' n1' ls' (x_apart t p sh xs) ∧ lx ((ls'.length - n').toNat, 0, 0) ((ls.length - n).toNat, 0, 0)) (fun r__ => r__ = (x_apart t p sh xs)), fun _ _ _ => by kernel_rfl, x_apart_step0 t p sh xs hp0 hl0 n n1 ls hI⟩, trivial⟩⟩
def T_x_apart : List (Nat × Entry Sg) := (119, e_x_apart) :: T_x_tiles
theorem T_x_apart_ok : TableOk Dg Tryz.prog T_x_apart := TableOk.cons Dg x_apart_ok T_x_tiles_ok
def r12_in (ls : List Int) (g : Int) : Int := inA ls g
abbrev c_r12_in : Ct Sg := ⟨none, false, [.ro [some .i64], .i .i64], .i .i64⟩
def e_r12_in : Entry Sg := entC c_r12_in r12_in (fun _ _ => [])
def r12_in_w (ls : List Int) (g : Int) (Q0 : Int → Int → Prop) (R_ : Int → Prop) : Prop := (Q0 ((0 : Int)) ((0 : Int)))
def r12_in_w0 (ls : List Int) (g : Int) (i : Int) (m : Int) (Q0 : Int → Int → Prop) (R_ : Int → Prop) : Prop := (((decide (i < (↑(List.length ls) : Int))) = true → (((0 : Int) ≤ i ∧ i < (↑(List.length ls) : Int)) ∧ (((0 : Int) ≤ i ∧ i < (↑(List.length ls) : Int)) → (((List.getD ls (Int.toNat i) (0 : Int) == g) = true → (Q0 (IntKind.wrap IntKind.i64 (i + (1 : Int))) (IntKind.wrap IntKind.i64 (m + (1 : Int))))) ∧ ((List.getD ls (Int.toNat i) (0 : Int) == g) = false → (Q0 (IntKind.wrap IntKind.i64 (i + (1 : Int))) (m))))))) ∧ ((decide (i < (↑(List.length ls) : Int))) = false → (R_ (m))))
def r12_in_I0 (ls : List Int) (g : Int) (i : Int) (m : Int) (r_ : Int) : Prop := 0 ≤ i ∧ i ≤ ls.length ∧ m = inA (ls.take i.toNat) g ∧ ls.length ≤ 9223372036854775807 ∧ r_ = inA ls g
theorem r12_in_begin (ls : List Int) (g : Int) (hl0 : ls.length ≤ 9223372036854775807) : r12_in_w ls g (fun i' m' => r12_in_I0 ls g i' m' (r12_in ls g)) (fun r__ => r__ = (r12_in ls g)) := by
  unfold r12_in_w
  try unfold r12_in_I0
  exact ⟨by omega, by omega, by simp [inA], hl0, rfl⟩
theorem r12_in_step0 (ls : List Int) (g : Int) (hl0 : ls.length ≤ 9223372036854775807) (i : Int) (m : Int) {r_ : Int} (hI : r12_in_I0 ls g i m r_) : r12_in_w0 ls g i m (fun i' m' => r12_in_I0 ls g i' m' r_ ∧ lx ((ls.length - i').toNat, 0, 0) ((ls.length - i).toNat, 0, 0)) (fun r__ => r__ = r_) := by
  unfold r12_in_I0 at hI
  unfold r12_in_w0
  try unfold r12_in_I0
  obtain ⟨h0, h1, h2, h3, hr⟩ := hI
  refine ⟨fun h => ?_, fun h => ?_⟩
  · simp only [decide_eq_true_eq] at h
    have ht : ls.take (i + 1).toNat = ls.take i.toNat ++ [ls.getD i.toNat 0] := by
      rw [show (i + 1).toNat = i.toNat + 1 by omega, List.take_add_one, List.getD_eq_getElem?_getD, List.getElem?_eq_getElem (by omega)]; rfl
    have hle : 0 ≤ m ∧ m ≤ i := by
      rw [h2]; unfold inA
      have := List.length_filter_le (· == g) (ls.take i.toNat)
      rw [List.length_take] at this
      omega
    rw [w64 (n := i + 1) (by omega), w64 (n := m + 1) (by omega)]
    refine ⟨⟨h0, h⟩, fun _ => ⟨fun hc => ?_, fun hc => ?_⟩⟩
    · refine ⟨⟨by omega, by omega, ?_, h3, hr⟩, lxo_⟩
      rw [ht, h2]
      generalize ls.getD i.toNat 0 = q at hc
      unfold inA
      rw [List.filter_append, List.length_append]
      simp only [beq_iff_eq, beq_eq_false_iff_ne] at hc
      simp [List.filter_cons, hc]
    · refine ⟨⟨by omega, by omega, ?_, h3, hr⟩, lxo_⟩
      rw [ht, h2]
      generalize ls.getD i.toNat 0 = q at hc
      unfold inA
      rw [List.filter_append, List.length_append]
      simp only [beq_iff_eq, beq_eq_false_iff_ne] at hc
      simp [List.filter_cons, hc]
  · simp only [decide_eq_false_iff_not] at h
    show m = r_
    rw [hr, h2, List.take_of_length_le (by omega)]
theorem r12_in_ok : EntryOk Dg Tryz.prog 174 e_r12_in :=
  ent_wp Dg T_x_apart_ok (I := [411000000006, 411000000005, 411000000000, 411000000001]) Tryz.func174 mix (B := bodyOf Tryz.f174) (by kernel_rfl) rfl (by kernel_rfl) 400
    fun p0 ls g hb hp => have hl0 : ls.length ≤ 9223372036854775807 := hb.1; ⟨[⟨none, [0,1,0,1,1], [.blk 0, .code [1,1,1]], [6, 5, 0, 1], [.i .i64, .i .i64, .roc [.ints .i64 (ls)], .ic .i64 (g)]⟩], fun j => List.getD [appC (Hd.kd (⟨none, [0,1,0,1,1], [.blk 0, .code [1,1,1]], [6, 5, 0, 1], [.i .i64, .i .i64, .roc [.ints .i64 (ls)], .ic .i64 (g)]⟩ : Hd Sg)) (fun i' m' => r12_in_I0 ls g i' m' (r12_in ls g))] j (fun _ => False), fun j => List.getD [appC (Hd.kd (⟨none, [0,1,0,1,1], [.blk 0, .code [1,1,1]], [6, 5, 0, 1], [.i .i64, .i .i64, .roc [.ints .i64 (ls)], .ic .i64 (g)]⟩ : Hd Sg)) (fun i' m' => ((ls.length - i').toNat, 0, 0))] j (fun _ => (0, 0, 0)), by kernel_rfl, ⟨r12_in_w ls g (fun i' m' => r12_in_I0 ls g i' m' (r12_in ls g)) (fun r__ => r__ = (r12_in ls g)), fun _ _ _ => by kernel_rfl, r12_in_begin ls g hl0 ⟩, ⟨fun i m hI => ⟨r12_in_w0 ls g i m (fun i' m' => r12_in_I0 ls g i' m' (r12_in ls g) ∧ lx ((ls.length - i').toNat, 0, 0) ((ls.length - i).toNat, 0, 0)) (fun r__ => r__ = (r12_in ls g)), fun _ _ _ => by kernel_rfl, r12_in_step0 ls g hl0 i m hI⟩, trivial⟩⟩
def T_r12_in : List (Nat × Entry Sg) := (174, e_r12_in) :: T_x_apart
theorem T_r12_in_ok : TableOk Dg Tryz.prog T_r12_in := TableOk.cons Dg r12_in_ok T_x_apart_ok
end Go.Proofs.YtnddjnnakkiidaaGreat
namespace Go.Proofs.YtnddjnnakkiidaaGreat
open Go.Sl
theorem r05_Slots_eq (k : Int) : r05_Slots k = kSlots k := by
  by_cases h : 0 ≤ k ∧ k ≤ 8
  · rcases (by omega : k = 0 ∨ k = 1 ∨ k = 2 ∨ k = 3 ∨ k = 4 ∨ k = 5 ∨ k = 6 ∨ k = 7 ∨ k = 8) with rfl | rfl | rfl | rfl | rfl | rfl | rfl | rfl | rfl <;> rfl
  · have e : ∀ j : Int, 0 ≤ j → j ≤ 8 → (k == j) = false := fun j h0 h1 => by simp; omega
    have e1 : r05_Slots k = 0 := by
      unfold r05_Slots
      simp only [e 0 (by omega) (by omega), e 1 (by omega) (by omega), e 2 (by omega) (by omega), e 3 (by omega) (by omega), e 4 (by omega) (by omega), e 5 (by omega) (by omega), e 6 (by omega) (by omega), e 7 (by omega) (by omega), e 8 (by omega) (by omega), cond_false]
    rw [e1]
    unfold kSlots
    by_cases h0 : 0 ≤ k
    · have : decide (0 ≤ k) = true := by simpa using h0
      rw [this, cond_true, List.getD_eq_getElem?_getD, List.getElem?_eq_none (by simp; omega)]; rfl
    · have : decide (0 ≤ k) = false := by simpa using h0
      rw [this]; rfl
theorem bit_eq {v : Int} (hv : bd32 v) (i : Int) : r01_Bit v i = bitAt v i := by
  unfold r01_Bit bitAt
  by_cases h : 0 ≤ i ∧ i < 32
  · have e1 : decide (i ≥ 0) = true := by simp; omega
    have e2 : decide (i < 32) = true := by simp; omega
    rw [e1, e2]
    have ew : IntKind.wrap IntKind.u64 i = i := by rw [IntKind.wrap_u64]; omega
    have em : min i.toNat 32 = i.toNat := by omega
    have hp : (0 : Int) ≤ 2 ^ i.toNat := Int.le_of_lt (Int.pow_pos (by omega))
    rw [ew, em, Int.fdiv_eq_ediv_of_nonneg _ hp, Int.tmod_eq_emod_of_nonneg (Int.ediv_nonneg hv.1 hp)]
  · have : (decide (i ≥ 0) && decide (i < 32)) = false := by simp; omega
    rw [this, Bool.false_and, Bool.false_and]
def r01_Ones (v : Int) : Int := ones v
abbrev c_r01_Ones : Ct Sg := ⟨none, false, [.i .u32], .i .i64⟩
def e_r01_Ones : Entry Sg := entC c_r01_Ones r01_Ones (fun v => [bd32 v])
def r01_Ones_w (v : Int) (Q0 : Int → Int → Prop) (R_ : Int → Prop) : Prop := (Q0 ((0 : Int)) ((0 : Int)))
def r01_Ones_w0 (v : Int) (i : Int) (m : Int) (Q0 : Int → Int → Prop) (R_ : Int → Prop) : Prop := (((decide (i < (32 : Int))) = true → (((r01_Bit v i) = true → (Q0 (IntKind.wrap IntKind.i64 (i + (1 : Int))) (IntKind.wrap IntKind.i64 (m + (1 : Int))))) ∧ ((r01_Bit v i) = false → (Q0 (IntKind.wrap IntKind.i64 (i + (1 : Int))) (m))))) ∧ ((decide (i < (32 : Int))) = false → (R_ (m))))
def r01_Ones_I0 (v : Int) (i : Int) (m : Int) (r_ : Int) : Prop := 0 ≤ i ∧ i ≤ 32 ∧ 0 ≤ m ∧ m ≤ i ∧ m = onesF v i.toNat ∧ r_ = ones v
theorem r01_Ones_begin (v : Int) (hp0 : bd32 v) : r01_Ones_w v (fun i' m' => r01_Ones_I0 v i' m' (r01_Ones v)) (fun r__ => r__ = (r01_Ones v)) := by
  unfold r01_Ones_w
  try unfold r01_Ones_I0
  exact ⟨by omega, by omega, by omega, by omega, rfl, rfl⟩
theorem r01_Ones_step0 (v : Int) (hp0 : bd32 v) (i : Int) (m : Int) {r_ : Int} (hI : r01_Ones_I0 v i m r_) : r01_Ones_w0 v i m (fun i' m' => r01_Ones_I0 v i' m' r_ ∧ lx ((32 - i').toNat, 0, 0) ((32 - i).toNat, 0, 0)) (fun r__ => r__ = r_) := by
  unfold r01_Ones_I0 at hI
  unfold r01_Ones_w0
  try unfold r01_Ones_I0
  obtain ⟨h0, h1, h2, h3, h4, hr⟩ := hI
  refine ⟨fun h => ?_, fun h => ?_⟩
  · simp only [decide_eq_true_eq] at h
    have e : (i + 1).toNat = i.toNat + 1 := by omega
    have ei : ((i.toNat : Nat) : Int) = i := by omega
    rw [w64 (n := i + 1) (by omega), w64 (n := m + 1) (by omega), bit_eq hp0]
    refine ⟨fun hb => ?_, fun hb => ?_⟩
    · exact ⟨⟨by omega, by omega, by omega, by omega, by rw [e, onesF, ei, hb, ← h4]; rfl, hr⟩, lxo_⟩
    · exact ⟨⟨by omega, by omega, by omega, by omega, by rw [e, onesF, ei, hb, ← h4]; simp, hr⟩, lxo_⟩
  · simp only [decide_eq_false_iff_not] at h
    have e : i.toNat = 32 := by omega
    rw [e] at h4
    rw [hr]; exact h4
theorem r01_Ones_ok : EntryOk Dg Tryz.prog 31 e_r01_Ones :=
  ent_wp Dg T_r12_in_ok (I := [411000000004, 411000000003, 411000000000]) Tryz.func31 mix (B := bodyOf Tryz.f31) (by kernel_rfl) rfl (by kernel_rfl) 400
    fun p0 v hb hp => have hp0 : bd32 v := hp _ (.head _); ⟨[⟨none, [0,1,0,1,1], [.blk 0, .code [1,1,1]], [4, 3, 0], [.i .i64, .i .i64, .ic .u32 (v)]⟩], fun j => List.getD [appC (Hd.kd (⟨none, [0,1,0,1,1], [.blk 0, .code [1,1,1]], [4, 3, 0], [.i .i64, .i .i64, .ic .u32 (v)]⟩ : Hd Sg)) (fun i' m' => r01_Ones_I0 v i' m' (r01_Ones v))] j (fun _ => False), fun j => List.getD [appC (Hd.kd (⟨none, [0,1,0,1,1], [.blk 0, .code [1,1,1]], [4, 3, 0], [.i .i64, .i .i64, .ic .u32 (v)]⟩ : Hd Sg)) (fun i' m' => ((32 - i').toNat, 0, 0))] j (fun _ => (0, 0, 0)), by kernel_rfl, ⟨r01_Ones_w v (fun i' m' => r01_Ones_I0 v i' m' (r01_Ones v)) (fun r__ => r__ = (r01_Ones v)), fun _ _ _ => by kernel_rfl, r01_Ones_begin v hp0 ⟩, ⟨fun i m hI => ⟨r01_Ones_w0 v i m (fun i' m' => r01_Ones_I0 v i' m' (r01_Ones v) ∧ lx ((32 - i').toNat, 0, 0) ((32 - i).toNat, 0, 0)) (fun r__ => r__ = (r01_Ones v)), fun _ _ _ => by kernel_rfl, r01_Ones_step0 v hp0 i m hI⟩, trivial⟩⟩
def T_r01_Ones : List (Nat × Entry Sg) := (31, e_r01_Ones) :: T_r12_in
theorem T_r01_Ones_ok : TableOk Dg Tryz.prog T_r01_Ones := TableOk.cons Dg r01_Ones_ok T_r12_in_ok
def r12_Full (v : Int) (k : Int) : Bool := r01_Ones v == r05_Slots k
abbrev c_r12_Full : Ct Sg := ⟨none, false, [.i .u32, .i .i64], .b⟩
def e_r12_Full : Entry Sg := entC c_r12_Full r12_Full (fun v k => [bd32 v])
theorem r12_Full_ok : EntryOk Dg Tryz.prog 74 e_r12_Full :=
  ent_ok Dg T_r01_Ones_ok (I := []) Tryz.func74 mix (B := bodyOf Tryz.f74) (by kernel_rfl) rfl (by kernel_rfl) 400
    fun _ v k hb hp => have hp0 : bd32 v := hp _ (.head _); ⟨(r12_Full v k), (.need (bd32 v) .t), fun _ _ _ => by kernel_rfl, ⟨(by exact hp0), fun z0 => trivial⟩, rfl⟩
def T_r12_Full : List (Nat × Entry Sg) := (74, e_r12_Full) :: T_r01_Ones
theorem T_r12_Full_ok : TableOk Dg Tryz.prog T_r12_Full := TableOk.cons Dg r12_Full_ok T_r01_Ones_ok
def x_List (t : Int) (p : Int) (sh : Int) (xs : List Int) (hd : Int) : List Int × Bool := listA ⟨t, p, sh⟩ xs hd
abbrev c_x_List : Ct Sg := ⟨none, false, [.agg [.i .i64, .i .i64, .i .i64, .ro [some .u32]], .i .i64], .tup [.new 3 [some .i64], .b]⟩
def e_x_List : Entry Sg := entC c_x_List x_List (fun t p sh xs hd => [AGood ⟨t, p, sh⟩ xs, 0 ≤ hd ∧ hd < xs.length])
def x_List_w (t : Int) (p : Int) (sh : Int) (xs : List Int) (hd : Int) (Q0 : Int → Int → Nat → List Int → Prop) (R_ : List Int × Bool → Prop) : Prop := (((0 : Int) ≤ hd ∧ hd < (↑(List.length xs) : Int)) ∧ (((0 : Int) ≤ hd ∧ hd < (↑(List.length xs) : Int)) → (Q0 ((0 : Int)) (List.getD xs (Int.toNat hd) (0 : Int)) ((0 : Nat)) ([]))))
def x_List_w0 (t : Int) (p : Int) (sh : Int) (xs : List Int) (hd : Int) (ah : Int) (q : Int) (n1 : Nat) (out : List Int) (Q0 : Int → Int → Nat → List Int → Prop) (R_ : List Int × Bool → Prop) : Prop := (((q != (0 : Int)) = true → (((decide (IntKind.wrap IntKind.i64 q > p) || decide ((↑n1 : Int) ≥ p)) = true → (R_ ((out, false)))) ∧ ((decide (IntKind.wrap IntKind.i64 q > p) || decide ((↑n1 : Int) ≥ p)) = false → (((0 : Int) ≤ r07_Prev t p sh (IntKind.wrap IntKind.i64 (IntKind.wrap IntKind.i64 q - (1 : Int))) ∧ r07_Prev t p sh (IntKind.wrap IntKind.i64 (IntKind.wrap IntKind.i64 q - (1 : Int))) < (↑(List.length xs) : Int)) ∧ (((0 : Int) ≤ r07_Prev t p sh (IntKind.wrap IntKind.i64 (IntKind.wrap IntKind.i64 q - (1 : Int))) ∧ r07_Prev t p sh (IntKind.wrap IntKind.i64 (IntKind.wrap IntKind.i64 q - (1 : Int))) < (↑(List.length xs) : Int)) → (((List.getD xs (Int.toNat (r07_Prev t p sh (IntKind.wrap IntKind.i64 (IntKind.wrap IntKind.i64 q - (1 : Int))))) (0 : Int) != ah) = true → (R_ ((out, false)))) ∧ ((List.getD xs (Int.toNat (r07_Prev t p sh (IntKind.wrap IntKind.i64 (IntKind.wrap IntKind.i64 q - (1 : Int))))) (0 : Int) != ah) = false → (((n1 + (1 : Nat)) * (8 : Nat) ≤ (140737488355328 : Nat)) ∧ (((n1 + (1 : Nat)) * (8 : Nat) ≤ (140737488355328 : Nat)) → (((0 : Int) ≤ r07_Next t p sh (IntKind.wrap IntKind.i64 (IntKind.wrap IntKind.i64 q - (1 : Int))) ∧ r07_Next t p sh (IntKind.wrap IntKind.i64 (IntKind.wrap IntKind.i64 q - (1 : Int))) < (↑(List.length xs) : Int)) ∧ (((0 : Int) ≤ r07_Next t p sh (IntKind.wrap IntKind.i64 (IntKind.wrap IntKind.i64 q - (1 : Int))) ∧ r07_Next t p sh (IntKind.wrap IntKind.i64 (IntKind.wrap IntKind.i64 q - (1 : Int))) < (↑(List.length xs) : Int)) → (Q0 (q) (List.getD xs (Int.toNat (r07_Next t p sh (IntKind.wrap IntKind.i64 (IntKind.wrap IntKind.i64 q - (1 : Int))))) (0 : Int)) (n1 + (1 : Nat)) (out ++ [IntKind.wrap IntKind.i64 (IntKind.wrap IntKind.i64 q - (1 : Int))]))))))))))))) ∧ ((q != (0 : Int)) = false → (R_ ((out, true)))))
def x_List_I0 (t : Int) (p : Int) (sh : Int) (xs : List Int) (hd : Int) (ah : Int) (q : Int) (n1 : Nat) (out : List Int) (r_ : List Int × Bool) : Prop := bd32 q ∧ n1 = out.length ∧ (out.length : Int) ≤ p ∧ ∃ f : Nat, p + 1 - out.length < f ∧ listF ⟨t, p, sh⟩ xs f q ah out = r_
theorem x_List_begin (t : Int) (p : Int) (sh : Int) (xs : List Int) (hd : Int) (hp0 : AGood ⟨t, p, sh⟩ xs) (hp1 : 0 ≤ hd ∧ hd < xs.length) (hl0 : xs.length ≤ 9223372036854775807) : x_List_w t p sh xs hd (fun ah' q' n1' out' => x_List_I0 t p sh xs hd ah' q' n1' out' (x_List t p sh xs hd)) (fun r__ => r__ = (x_List t p sh xs hd)) := by
  unfold x_List_w
  try unfold x_List_I0
  have hok := Cf.ok_iff.1 hp0.ok
  simp only at hok
  exact ⟨hp1, fun _ => ⟨cel_bd hp0 hd, rfl, by simp; omega, p.toNat + 2, by simp; omega, rfl⟩⟩
theorem x_List_step0 (t : Int) (p : Int) (sh : Int) (xs : List Int) (hd : Int) (hp0 : AGood ⟨t, p, sh⟩ xs) (hp1 : 0 ≤ hd ∧ hd < xs.length) (hl0 : xs.length ≤ 9223372036854775807) (ah : Int) (q : Int) (n1 : Nat) (out : List Int) {r_ : List Int × Bool} (hI : x_List_I0 t p sh xs hd ah q n1 out r_) : x_List_w0 t p sh xs hd ah q n1 out (fun ah' q' n1' out' => x_List_I0 t p sh xs hd ah' q' n1' out' r_ ∧ lx ((p + 1 - out'.length).toNat, 0, 0) ((p + 1 - out.length).toNat, 0, 0)) (fun r__ => r__ = r_) := by
  unfold x_List_I0 at hI
  unfold x_List_w0
  try unfold x_List_I0
  obtain ⟨hq, h1, h2, f, hf, hr⟩ := hI
  have hok := Cf.ok_iff.1 hp0.ok
  simp only at hok
  have hq' : 0 ≤ q ∧ q < 4294967296 := hq
  obtain ⟨f', rfl⟩ : ∃ f', f = f' + 1 := ⟨f - 1, by omega⟩
  simp only [listF] at hr
  refine ⟨fun h => ?_, fun h => ?_⟩
  · have hne : q ≠ 0 := by simpa using h
    have e0 : (q == 0) = false := by simpa using hne
    rw [e0, cond_false] at hr
    have hb : (decide (q > p) || decide ((n1 : Int) ≥ p)) = (decide (q > p) || decide ((out.length : Int) ≥ p)) := by rw [h1]
    rw [w64 (n := q) (by omega), w64 (n := q - 1) (by omega), hb, r07_Prev_eq, r07_Next_eq]
    refine ⟨fun hc => ?_, fun hc => ?_⟩
    · rw [hc, cond_true] at hr; exact hr
    · rw [hc, cond_false] at hr
      simp only [Bool.or_eq_false_iff, decide_eq_false_iff_not] at hc
      have hg : 0 ≤ q - 1 ∧ q - 1 < p := by omega
      have hin := pc_in hp0 (g := q - 1) (k := 3) hg (by omega)
      have hin2 := pc_in hp0 (g := q - 1) (k := 2) hg (by omega)
      refine ⟨hin, fun _ => ⟨fun hz => ?_, fun hz => ?_⟩⟩
      · have hz' : (cel xs (Cf.prev ⟨t, p, sh⟩ (q - 1)) != ah) = true := hz
        rw [hz', cond_true] at hr; exact hr
      · have hz' : (cel xs (Cf.prev ⟨t, p, sh⟩ (q - 1)) != ah) = false := hz
        rw [hz', cond_false] at hr
        exact ⟨by omega, fun _ => ⟨hin2, fun _ => ⟨⟨cel_bd hp0 _, by simp [h1], by simp; omega, f', by simp; omega, hr⟩, Or.inl (by simp; omega)⟩⟩⟩
  · have e0 : (q == 0) = true := by simpa using h
    rw [e0, cond_true] at hr
    exact hr
theorem x_List_ok : EntryOk Dg Tryz.prog 171 e_x_List :=
  ent_wp Dg T_r12_Full_ok (I := [1451000000008, 1451000000007, 1451000000006, 1451000000002]) Tryz.func171 mix (B := bodyOf Tryz.f171) (by kernel_rfl) rfl (by kernel_rfl) 400
    fun p0 t p sh xs hd hb hp => have hl0 : xs.length ≤ 9223372036854775807 := hb.1.2.2.2.1; have hp0 : AGood ⟨t, p, sh⟩ xs := hp _ (.head _); have hp1 : 0 ≤ hd ∧ hd < xs.length := hp _ (.tail _ (.head _)); ⟨[⟨none, [0,0,1,1,1,1], [.blk 0, .code [1,1,1,1,1]], [8, 7, 6, 2], [.i .u32, .i .u32, .own 3 [some .i64], .box 55 [.ic .i64 (t), .ic .i64 (p), .ic .i64 (sh), .roc [.ints .u32 (xs)]]]⟩], fun j => List.getD [appC (Hd.kd (⟨none, [0,0,1,1,1,1], [.blk 0, .code [1,1,1,1,1]], [8, 7, 6, 2], [.i .u32, .i .u32, .own 3 [some .i64], .box 55 [.ic .i64 (t), .ic .i64 (p), .ic .i64 (sh), .roc [.ints .u32 (xs)]]]⟩ : Hd Sg)) (fun ah' q' n1' out' => x_List_I0 t p sh xs hd ah' q' n1' out' (x_List t p sh xs hd))] j (fun _ => False), fun j => List.getD [appC (Hd.kd (⟨none, [0,0,1,1,1,1], [.blk 0, .code [1,1,1,1,1]], [8, 7, 6, 2], [.i .u32, .i .u32, .own 3 [some .i64], .box 55 [.ic .i64 (t), .ic .i64 (p), .ic .i64 (sh), .roc [.ints .u32 (xs)]]]⟩ : Hd Sg)) (fun ah' q' n1' out' => ((p + 1 - out'.length).toNat, 0, 0))] j (fun _ => (0, 0, 0)), by kernel_rfl, ⟨x_List_w t p sh xs hd (fun ah' q' n1' out' => x_List_I0 t p sh xs hd ah' q' n1' out' (x_List t p sh xs hd)) (fun r__ => r__ = (x_List t p sh xs hd)), fun _ _ _ => by kernel_rfl, x_List_begin t p sh xs hd hp0 hp1 hl0 ⟩, ⟨fun ah q n1 out hI => ⟨x_List_w0 t p sh xs hd ah q n1 out (fun ah' q' n1' out' => x_List_I0 t p sh xs hd ah' q' n1' out' (x_List t p sh xs hd) ∧ lx ((p + 1 - out'.length).toNat, 0, 0) ((p + 1 - out.length).toNat, 0, 0)) (fun r__ => r__ = (x_List t p sh xs hd)), fun _ _ _ => by kernel_rfl, x_List_step0 t p sh xs hd hp0 hp1 hl0 ah q n1 out hI⟩, trivial⟩⟩
def T_x_List : List (Nat × Entry Sg) := (171, e_x_List) :: T_r12_Full
theorem T_x_List_ok : TableOk Dg Tryz.prog T_x_List := TableOk.cons Dg x_List_ok T_r12_Full_ok
def x_binned (t : Int) (p : Int) (sh : Int) (xs : List Int) (g : Int) (k : Int) : Bool := binned ⟨t, p, sh⟩ xs g k
abbrev c_x_binned : Ct Sg := ⟨none, false, [.agg [.i .i64, .i .i64, .i .i64, .ro [some .u32]], .i .i64, .i .i64], .b⟩
def e_x_binned : Entry Sg := entC c_x_binned x_binned (fun t p sh xs g k => [AGood ⟨t, p, sh⟩ xs, 0 ≤ g ∧ g < p])
def x_binned_w (t : Int) (p : Int) (sh : Int) (xs : List Int) (g : Int) (k : Int) (R_ : Bool → Prop) : Prop := ((AGood { t := t, p := p, s := sh } xs) ∧ ((AGood { t := t, p := p, s := sh } xs) → (((0 : Int) ≤ g ∧ g < p) ∧ (((0 : Int) ≤ g ∧ g < p) → (((Prod.fst (x_Info t p sh xs g) == (1 : Int)) = true → Prod.fst (If.l (aInfo { t := t, p := p, s := sh } xs g), If.c (aInfo { t := t, p := p, s := sh } xs g)) ≤ (9223372036854775807 : Int)) ∧ (((Prod.fst (x_Info t p sh xs g) == (1 : Int)) = true → Prod.fst (If.l (aInfo { t := t, p := p, s := sh } xs g), If.c (aInfo { t := t, p := p, s := sh } xs g)) ≤ (9223372036854775807 : Int)) → (R_ (Prod.fst (If.k (aInfo { t := t, p := p, s := sh } xs g), If.l (aInfo { t := t, p := p, s := sh } xs g), If.c (aInfo { t := t, p := p, s := sh } xs g)) == (1 : Int) && r01_Log (If.l (aInfo { t := t, p := p, s := sh } xs g)) == k))))))))
theorem x_binned_begin (t : Int) (p : Int) (sh : Int) (xs : List Int) (g : Int) (k : Int) (hp0 : AGood ⟨t, p, sh⟩ xs) (hp1 : 0 ≤ g ∧ g < p) (hl0 : xs.length ≤ 9223372036854775807) : x_binned_w t p sh xs g k  (fun r__ => r__ = (x_binned t p sh xs g k)) := by
  unfold x_binned_w
  have hl : (aInfo ⟨t, p, sh⟩ xs g).l ≤ 9223372036854775807 := by
    have := (iGet_bd (cel xs (Cf.info ⟨t, p, sh⟩ g))).2.2.2.1
    have h2 : (aInfo ⟨t, p, sh⟩ xs g).l ≤ 1024 := this
    omega
  exact ⟨hp0, fun _ => ⟨hp1, fun _ => ⟨fun _ => hl, fun _ => rfl⟩⟩⟩
theorem x_binned_ok : EntryOk Dg Tryz.prog 173 e_x_binned :=
  ent_wp Dg T_x_List_ok (I := []) Tryz.func173 mix (B := bodyOf Tryz.f173) (by kernel_rfl) rfl (by kernel_rfl) 400
    fun p0 t p sh xs g k hb hp => have hl0 : xs.length ≤ 9223372036854775807 := hb.1.2.2.2.1; have hp0 : AGood ⟨t, p, sh⟩ xs := hp _ (.head _); have hp1 : 0 ≤ g ∧ g < p := hp _ (.tail _ (.head _)); ⟨[], fun j => List.getD [] j (fun _ => False), fun j => List.getD [] j (fun _ => (0, 0, 0)), by kernel_rfl, ⟨x_binned_w t p sh xs g k  (fun r__ => r__ = (x_binned t p sh xs g k)), fun _ _ _ => by kernel_rfl, x_binned_begin t p sh xs g k hp0 hp1 hl0 ⟩, trivial⟩
def T_x_binned : List (Nat × Entry Sg) := (173, e_x_binned) :: T_x_List
theorem T_x_binned_ok : TableOk Dg Tryz.prog T_x_binned := TableOk.cons Dg x_binned_ok T_x_List_ok
def x_racked (t : Int) (p : Int) (sh : Int) (xs : List Int) (g : Int) (k : Int) : Bool := racked ⟨t, p, sh⟩ xs g k
abbrev c_x_racked : Ct Sg := ⟨none, false, [.agg [.i .i64, .i .i64, .i .i64, .ro [some .u32]], .i .i64, .i .i64], .b⟩
def e_x_racked : Entry Sg := entC c_x_racked x_racked (fun t p sh xs g k => [AGood ⟨t, p, sh⟩ xs, 0 ≤ g ∧ g < p])
def x_racked_w (t : Int) (p : Int) (sh : Int) (xs : List Int) (g : Int) (k : Int) (R_ : Bool → Prop) : Prop := ((AGood { t := t, p := p, s := sh } xs) ∧ ((AGood { t := t, p := p, s := sh } xs) → (((0 : Int) ≤ g ∧ g < p) ∧ (((0 : Int) ≤ g ∧ g < p) → (((Prod.fst (x_Info t p sh xs g) == (3 : Int) && Prod.snd (If.l (aInfo { t := t, p := p, s := sh } xs g), If.c (aInfo { t := t, p := p, s := sh } xs g)) == k) = true → AGood { t := t, p := p, s := sh } xs) ∧ (((Prod.fst (x_Info t p sh xs g) == (3 : Int) && Prod.snd (If.l (aInfo { t := t, p := p, s := sh } xs g), If.c (aInfo { t := t, p := p, s := sh } xs g)) == k) = true → AGood { t := t, p := p, s := sh } xs) → (((Prod.fst (x_Info t p sh xs g) == (3 : Int) && Prod.snd (If.l (aInfo { t := t, p := p, s := sh } xs g), If.c (aInfo { t := t, p := p, s := sh } xs g)) == k) = true → (0 : Int) ≤ g ∧ g < p) ∧ (((Prod.fst (x_Info t p sh xs g) == (3 : Int) && Prod.snd (If.l (aInfo { t := t, p := p, s := sh } xs g), If.c (aInfo { t := t, p := p, s := sh } xs g)) == k) = true → (0 : Int) ≤ g ∧ g < p) → (((Prod.fst (x_Info t p sh xs g) == (3 : Int) && Prod.snd (If.l (aInfo { t := t, p := p, s := sh } xs g), If.c (aInfo { t := t, p := p, s := sh } xs g)) == k) = true → bd32 (x_Taken t p sh xs g)) ∧ (((Prod.fst (x_Info t p sh xs g) == (3 : Int) && Prod.snd (If.l (aInfo { t := t, p := p, s := sh } xs g), If.c (aInfo { t := t, p := p, s := sh } xs g)) == k) = true → bd32 (x_Taken t p sh xs g)) → (R_ (Prod.fst (If.k (aInfo { t := t, p := p, s := sh } xs g), If.l (aInfo { t := t, p := p, s := sh } xs g), If.c (aInfo { t := t, p := p, s := sh } xs g)) == (3 : Int) && If.c (aInfo { t := t, p := p, s := sh } xs g) == k && !r12_Full (x_Taken t p sh xs g) k))))))))))))
theorem x_racked_begin (t : Int) (p : Int) (sh : Int) (xs : List Int) (g : Int) (k : Int) (hp0 : AGood ⟨t, p, sh⟩ xs) (hp1 : 0 ≤ g ∧ g < p) (hl0 : xs.length ≤ 9223372036854775807) : x_racked_w t p sh xs g k  (fun r__ => r__ = (x_racked t p sh xs g k)) := by
  unfold x_racked_w
  have hbd := cel_bd hp0 (Cf.taken ⟨t, p, sh⟩ g)
  refine ⟨hp0, fun _ => ⟨hp1, fun _ => ⟨fun _ => hp0, fun _ => ⟨fun _ => hp1, fun _ => ⟨fun _ => hbd, fun _ => ?_⟩⟩⟩⟩⟩
  show (_ && _ && !r12_Full (cel xs (Cf.taken ⟨t, p, sh⟩ g)) k) = racked ⟨t, p, sh⟩ xs g k
  unfold racked full r12_Full
  rw [r05_Slots_eq]
  rfl
theorem x_racked_ok : EntryOk Dg Tryz.prog 175 e_x_racked :=
  ent_wp Dg T_x_binned_ok (I := []) Tryz.func175 mix (B := bodyOf Tryz.f175) (by kernel_rfl) rfl (by kernel_rfl) 400
    fun p0 t p sh xs g k hb hp => have hl0 : xs.length ≤ 9223372036854775807 := hb.1.2.2.2.1; have hp0 : AGood ⟨t, p, sh⟩ xs := hp _ (.head _); have hp1 : 0 ≤ g ∧ g < p := hp _ (.tail _ (.head _)); ⟨[], fun j => List.getD [] j (fun _ => False), fun j => List.getD [] j (fun _ => (0, 0, 0)), by kernel_rfl, ⟨x_racked_w t p sh xs g k  (fun r__ => r__ = (x_racked t p sh xs g k)), fun _ _ _ => by kernel_rfl, x_racked_begin t p sh xs g k hp0 hp1 hl0 ⟩, trivial⟩
def T_x_racked : List (Nat × Entry Sg) := (175, e_x_racked) :: T_x_binned
theorem T_x_racked_ok : TableOk Dg Tryz.prog T_x_racked := TableOk.cons Dg x_racked_ok T_x_binned_ok
end Go.Proofs.YtnddjnnakkiidaaGreat
namespace Go.Proofs.YtnddjnnakkiidaaGreat
open Go.Sl
theorem onesF_bd (v : Int) : ∀ k : Nat, 0 ≤ onesF v k ∧ onesF v k ≤ k
  | 0 => ⟨Int.le_refl _, Int.le_refl _⟩
  | k + 1 => by
    have := onesF_bd v k
    simp only [onesF]
    cases bitAt v k with
    | true => simp only [cond_true]; omega
    | false => simp only [cond_false]; omega
theorem countsF_bd (c : Cf) (xs : List Int) : ∀ k : Nat, 0 ≤ (countsF c xs k).1 ∧ (countsF c xs k).1 ≤ 1024 * k ∧ 0 ≤ (countsF c xs k).2 ∧ (countsF c xs k).2 ≤ 33 * k
  | 0 => by simp [countsF]
  | k + 1 => by
    have h := countsF_bd c xs k
    have h2 : 0 ≤ ones (cel xs (c.slots k)) ∧ ones (cel xs (c.slots k)) ≤ 32 := onesF_bd _ 32
    have h3 : 0 ≤ (aInfo c xs k).l ∧ (aInfo c xs k).l ≤ 1024 := ⟨(iGet_bd (cel xs (c.info k))).2.2.1, (iGet_bd (cel xs (c.info k))).2.2.2.1⟩
    simp only [countsF]
    cases (aInfo c xs k).k == 1 <;> cases (aInfo c xs k).k == 2 <;> simp only [cond_true, cond_false] <;> omega
def x_loose (t : Int) (p : Int) (sh : Int) (xs : List Int) : Bool := loose ⟨t, p, sh⟩ xs
abbrev c_x_loose : Ct Sg := ⟨none, false, [.agg [.i .i64, .i .i64, .i .i64, .ro [some .u32]]], .b⟩
def e_x_loose : Entry Sg := entC c_x_loose x_loose (fun t p sh xs => [AGood ⟨t, p, sh⟩ xs])
def x_loose_w (t : Int) (p : Int) (sh : Int) (xs : List Int) (Q0 : Int → Prop) (R_ : Bool → Prop) : Prop := (Q0 ((0 : Int)))
def x_loose_w0 (t : Int) (p : Int) (sh : Int) (xs : List Int) (i : Int) (Q0 : Int → Prop) (R_ : Bool → Prop) : Prop := (((decide (i < p)) = true → ((AGood { t := t, p := p, s := sh } xs) ∧ ((AGood { t := t, p := p, s := sh } xs) → (((0 : Int) ≤ i ∧ i < p) ∧ (((0 : Int) ≤ i ∧ i < p) → (((Prod.fst (x_Info t p sh xs i) == (3 : Int)) = true → AGood { t := t, p := p, s := sh } xs) ∧ (((Prod.fst (x_Info t p sh xs i) == (3 : Int)) = true → AGood { t := t, p := p, s := sh } xs) → (((Prod.fst (x_Info t p sh xs i) == (3 : Int)) = true → (0 : Int) ≤ i ∧ i < p) ∧ (((Prod.fst (x_Info t p sh xs i) == (3 : Int)) = true → (0 : Int) ≤ i ∧ i < p) → (((Prod.fst (x_Info t p sh xs i) == (3 : Int)) = true → bd32 (x_Taken t p sh xs i)) ∧ (((Prod.fst (x_Info t p sh xs i) == (3 : Int)) = true → bd32 (x_Taken t p sh xs i)) → (((Prod.fst (x_Info t p sh xs i) == (1 : Int) || Prod.fst (x_Info t p sh xs i) == (3 : Int) && !r12_Full (x_Taken t p sh xs i) (If.c (aInfo { t := t, p := p, s := sh } xs i))) = true → (Q0 (IntKind.wrap IntKind.i64 (i + (1 : Int))))) ∧ ((Prod.fst (x_Info t p sh xs i) == (1 : Int) || Prod.fst (x_Info t p sh xs i) == (3 : Int) && !r12_Full (x_Taken t p sh xs i) (If.c (aInfo { t := t, p := p, s := sh } xs i))) = false → (((0 : Int) ≤ r07_Next t p sh i ∧ r07_Next t p sh i < (↑(List.length xs) : Int)) ∧ (((0 : Int) ≤ r07_Next t p sh i ∧ r07_Next t p sh i < (↑(List.length xs) : Int)) → (((List.getD xs (Int.toNat (r07_Next t p sh i)) (0 : Int) != (0 : Int)) = false → (0 : Int) ≤ r07_Prev t p sh i ∧ r07_Prev t p sh i < (↑(List.length xs) : Int)) ∧ (((List.getD xs (Int.toNat (r07_Next t p sh i)) (0 : Int) != (0 : Int)) = false → (0 : Int) ≤ r07_Prev t p sh i ∧ r07_Prev t p sh i < (↑(List.length xs) : Int)) → (((List.getD xs (Int.toNat (r07_Next t p sh i)) (0 : Int) != (0 : Int) || List.getD xs (Int.toNat (r07_Prev t p sh i)) (0 : Int) != (0 : Int)) = true → (R_ (false))) ∧ ((List.getD xs (Int.toNat (r07_Next t p sh i)) (0 : Int) != (0 : Int) || List.getD xs (Int.toNat (r07_Prev t p sh i)) (0 : Int) != (0 : Int)) = false → (Q0 (IntKind.wrap IntKind.i64 (i + (1 : Int))))))))))))))))))))))) ∧ ((decide (i < p)) = false → (R_ (true))))
def x_loose_I0 (t : Int) (p : Int) (sh : Int) (xs : List Int) (i : Int) (r_ : Bool) : Prop := 0 ≤ i ∧ i ≤ p ∧ looseF ⟨t, p, sh⟩ xs (p - i).toNat = r_
theorem x_loose_begin (t : Int) (p : Int) (sh : Int) (xs : List Int) (hp0 : AGood ⟨t, p, sh⟩ xs) (hl0 : xs.length ≤ 9223372036854775807) : x_loose_w t p sh xs (fun i' => x_loose_I0 t p sh xs i' (x_loose t p sh xs)) (fun r__ => r__ = (x_loose t p sh xs)) := by
  unfold x_loose_w
  try unfold x_loose_I0
  have hok := Cf.ok_iff.1 hp0.ok
  simp only at hok
  refine ⟨by omega, by omega, ?_⟩
  show _ = loose ⟨t, p, sh⟩ xs
  unfold loose
  rw [show (p - 0).toNat = p.toNat by omega]
theorem x_loose_step0 (t : Int) (p : Int) (sh : Int) (xs : List Int) (hp0 : AGood ⟨t, p, sh⟩ xs) (hl0 : xs.length ≤ 9223372036854775807) (i : Int) {r_ : Bool} (hI : x_loose_I0 t p sh xs i r_) : x_loose_w0 t p sh xs i (fun i' => x_loose_I0 t p sh xs i' r_ ∧ lx ((p - i').toNat, 0, 0) ((p - i).toNat, 0, 0)) (fun r__ => r__ = r_) := by
  unfold x_loose_I0 at hI
  unfold x_loose_w0
  try unfold x_loose_I0
  obtain ⟨h0, h1, hr⟩ := hI
  have hok := Cf.ok_iff.1 hp0.ok
  simp only at hok
  refine ⟨fun h => ?_, fun h => ?_⟩
  · simp only [decide_eq_true_eq] at h
    have hg : 0 ≤ i ∧ i < p := ⟨h0, h⟩
    have hbt : bd32 (x_Taken t p sh xs i) := cel_bd hp0 _
    have hin2 := pc_in hp0 (g := i) (k := 2) hg (by omega)
    have hin3 := pc_in hp0 (g := i) (k := 3) hg (by omega)
    have e : (p - i).toNat = (p - (i + 1)).toNat + 1 := by omega
    have ei : (p : Int) - (((p - (i + 1)).toNat + 1 : Nat) : Int) = i := by omega
    rw [e] at hr
    simp only [looseF] at hr
    rw [ei] at hr
    have hf : ∀ k, r12_Full (x_Taken t p sh xs i) k = full (cel xs (Cf.taken ⟨t, p, sh⟩ i)) k := fun k => by
      unfold r12_Full full
      rw [r05_Slots_eq]; rfl
    rw [w64 (n := i + 1) (by omega), r07_Next_eq, r07_Prev_eq, hf]
    refine ⟨hp0, fun _ => ⟨hg, fun _ => ⟨fun _ => hp0, fun _ => ⟨fun _ => hg, fun _ => ⟨fun _ => hbt, fun _ => ⟨fun hc => ?_, fun hc => ?_⟩⟩⟩⟩⟩⟩
    · have hc' : ((aInfo ⟨t, p, sh⟩ xs i).k == 1 || ((aInfo ⟨t, p, sh⟩ xs i).k == 3 && !full (cel xs (Cf.taken ⟨t, p, sh⟩ i)) (aInfo ⟨t, p, sh⟩ xs i).c)) = true := hc
      rw [hc', cond_true] at hr
      exact ⟨⟨by omega, by omega, hr⟩, lxo_⟩
    · have hc' : ((aInfo ⟨t, p, sh⟩ xs i).k == 1 || ((aInfo ⟨t, p, sh⟩ xs i).k == 3 && !full (cel xs (Cf.taken ⟨t, p, sh⟩ i)) (aInfo ⟨t, p, sh⟩ xs i).c)) = false := hc
      rw [hc', cond_false] at hr
      refine ⟨hin2, fun _ => ⟨fun _ => hin3, fun _ => ⟨fun hz => ?_, fun hz => ?_⟩⟩⟩
      · have hz' : (cel xs (Cf.next ⟨t, p, sh⟩ i) != 0 || cel xs (Cf.prev ⟨t, p, sh⟩ i) != 0) = true := hz
        rw [hz', cond_true] at hr; exact hr
      · have hz' : (cel xs (Cf.next ⟨t, p, sh⟩ i) != 0 || cel xs (Cf.prev ⟨t, p, sh⟩ i) != 0) = false := hz
        rw [hz', cond_false] at hr
        exact ⟨⟨by omega, by omega, hr⟩, lxo_⟩
  · simp only [decide_eq_false_iff_not] at h
    rw [show (p - i).toNat = 0 by omega] at hr
    exact hr
theorem x_loose_ok : EntryOk Dg Tryz.prog 123 e_x_loose :=
  ent_wp Dg T_x_racked_ok (I := [103000000003, 103000000001]) Tryz.func123 mix (B := bodyOf Tryz.f123) (by kernel_rfl) rfl (by kernel_rfl) 400
    fun p0 t p sh xs hb hp => have hl0 : xs.length ≤ 9223372036854775807 := hb.1.2.2.2.1; have hp0 : AGood ⟨t, p, sh⟩ xs := hp _ (.head _); ⟨[⟨none, [0,1,0,1], [.blk 0, .code [1,1]], [3, 1], [.i .i64, .box 55 [.ic .i64 (t), .ic .i64 (p), .ic .i64 (sh), .roc [.ints .u32 (xs)]]]⟩], fun j => List.getD [appC (Hd.kd (⟨none, [0,1,0,1], [.blk 0, .code [1,1]], [3, 1], [.i .i64, .box 55 [.ic .i64 (t), .ic .i64 (p), .ic .i64 (sh), .roc [.ints .u32 (xs)]]]⟩ : Hd Sg)) (fun i' => x_loose_I0 t p sh xs i' (x_loose t p sh xs))] j (fun _ => False), fun j => List.getD [appC (Hd.kd (⟨none, [0,1,0,1], [.blk 0, .code [1,1]], [3, 1], [.i .i64, .box 55 [.ic .i64 (t), .ic .i64 (p), .ic .i64 (sh), .roc [.ints .u32 (xs)]]]⟩ : Hd Sg)) (fun i' => ((p - i').toNat, 0, 0))] j (fun _ => (0, 0, 0)), by kernel_rfl, ⟨x_loose_w t p sh xs (fun i' => x_loose_I0 t p sh xs i' (x_loose t p sh xs)) (fun r__ => r__ = (x_loose t p sh xs)), fun _ _ _ => by kernel_rfl, x_loose_begin t p sh xs hp0 hl0 ⟩, ⟨fun i hI => ⟨x_loose_w0 t p sh xs i (fun i' => x_loose_I0 t p sh xs i' (x_loose t p sh xs) ∧ lx ((p - i').toNat, 0, 0) ((p - i).toNat, 0, 0)) (fun r__ => r__ = (x_loose t p sh xs)), fun _ _ _ => by kernel_rfl, x_loose_step0 t p sh xs hp0 hl0 i hI⟩, trivial⟩⟩
def T_x_loose : List (Nat × Entry Sg) := (123, e_x_loose) :: T_x_racked
theorem T_x_loose_ok : TableOk Dg Tryz.prog T_x_loose := TableOk.cons Dg x_loose_ok T_x_racked_ok
def x_counts (t : Int) (p : Int) (sh : Int) (xs : List Int) : Bool := counts ⟨t, p, sh⟩ xs
abbrev c_x_counts : Ct Sg := ⟨none, false, [.agg [.i .i64, .i .i64, .i .i64, .ro [some .u32]]], .b⟩
def e_x_counts : Entry Sg := entC c_x_counts x_counts (fun t p sh xs => [AGood ⟨t, p, sh⟩ xs])
def x_counts_w (t : Int) (p : Int) (sh : Int) (xs : List Int) (Q0 : Int → Int → Int → Prop) (R_ : Bool → Prop) : Prop := (Q0 ((0 : Int)) ((0 : Int)) ((0 : Int)))
def x_counts_w0 (t : Int) (p : Int) (sh : Int) (xs : List Int) (i : Int) (lv : Int) (fr : Int) (Q0 : Int → Int → Int → Prop) (R_ : Bool → Prop) : Prop := (((decide (i < p)) = true → ((AGood { t := t, p := p, s := sh } xs) ∧ ((AGood { t := t, p := p, s := sh } xs) → (((0 : Int) ≤ i ∧ i < p) ∧ (((0 : Int) ≤ i ∧ i < p) → (((Prod.fst (x_Info t p sh xs i) == (1 : Int)) = true → (((Prod.fst (x_Info t p sh xs i) == (2 : Int)) = true → ((AGood { t := t, p := p, s := sh } xs) ∧ ((AGood { t := t, p := p, s := sh } xs) → (((0 : Int) ≤ i ∧ i < p) ∧ (((0 : Int) ≤ i ∧ i < p) → ((bd32 (x_Slots t p sh xs i)) ∧ ((bd32 (x_Slots t p sh xs i)) → (Q0 (IntKind.wrap IntKind.i64 (i + (1 : Int))) (IntKind.wrap IntKind.i64 (IntKind.wrap IntKind.i64 (lv + (1 : Int)) + r01_Ones (x_Slots t p sh xs i))) (IntKind.wrap IntKind.i64 (fr + If.l (aInfo { t := t, p := p, s := sh } xs i))))))))))) ∧ ((Prod.fst (x_Info t p sh xs i) == (2 : Int)) = false → ((AGood { t := t, p := p, s := sh } xs) ∧ ((AGood { t := t, p := p, s := sh } xs) → (((0 : Int) ≤ i ∧ i < p) ∧ (((0 : Int) ≤ i ∧ i < p) → ((bd32 (x_Slots t p sh xs i)) ∧ ((bd32 (x_Slots t p sh xs i)) → (Q0 (IntKind.wrap IntKind.i64 (i + (1 : Int))) (IntKind.wrap IntKind.i64 (lv + r01_Ones (x_Slots t p sh xs i))) (IntKind.wrap IntKind.i64 (fr + If.l (aInfo { t := t, p := p, s := sh } xs i))))))))))))) ∧ ((Prod.fst (x_Info t p sh xs i) == (1 : Int)) = false → (((Prod.fst (x_Info t p sh xs i) == (2 : Int)) = true → ((AGood { t := t, p := p, s := sh } xs) ∧ ((AGood { t := t, p := p, s := sh } xs) → (((0 : Int) ≤ i ∧ i < p) ∧ (((0 : Int) ≤ i ∧ i < p) → ((bd32 (x_Slots t p sh xs i)) ∧ ((bd32 (x_Slots t p sh xs i)) → (Q0 (IntKind.wrap IntKind.i64 (i + (1 : Int))) (IntKind.wrap IntKind.i64 (IntKind.wrap IntKind.i64 (lv + (1 : Int)) + r01_Ones (x_Slots t p sh xs i))) (fr))))))))) ∧ ((Prod.fst (x_Info t p sh xs i) == (2 : Int)) = false → ((AGood { t := t, p := p, s := sh } xs) ∧ ((AGood { t := t, p := p, s := sh } xs) → (((0 : Int) ≤ i ∧ i < p) ∧ (((0 : Int) ≤ i ∧ i < p) → ((bd32 (x_Slots t p sh xs i)) ∧ ((bd32 (x_Slots t p sh xs i)) → (Q0 (IntKind.wrap IntKind.i64 (i + (1 : Int))) (IntKind.wrap IntKind.i64 (lv + r01_Ones (x_Slots t p sh xs i))) (fr))))))))))))))))) ∧ ((decide (i < p)) = false → (((0 : Int) ≤ (0 : Int) ∧ (0 : Int) < (↑(List.length xs) : Int)) ∧ (((0 : Int) ≤ (0 : Int) ∧ (0 : Int) < (↑(List.length xs) : Int)) → (((List.getD xs (0 : Nat) (0 : Int) == IntKind.wrap IntKind.u32 fr) = true → (0 : Int) ≤ (1 : Int) ∧ (1 : Int) < (↑(List.length xs) : Int)) ∧ (((List.getD xs (0 : Nat) (0 : Int) == IntKind.wrap IntKind.u32 fr) = true → (0 : Int) ≤ (1 : Int) ∧ (1 : Int) < (↑(List.length xs) : Int)) → (R_ (List.getD xs (0 : Nat) (0 : Int) == IntKind.wrap IntKind.u32 fr && List.getD xs (1 : Nat) (0 : Int) == IntKind.wrap IntKind.u32 lv))))))))
def x_counts_I0 (t : Int) (p : Int) (sh : Int) (xs : List Int) (i : Int) (lv : Int) (fr : Int) (r_ : Bool) : Prop := 0 ≤ i ∧ i ≤ p ∧ fr = (countsF ⟨t, p, sh⟩ xs i.toNat).1 ∧ lv = (countsF ⟨t, p, sh⟩ xs i.toNat).2 ∧ r_ = counts ⟨t, p, sh⟩ xs
theorem x_counts_begin (t : Int) (p : Int) (sh : Int) (xs : List Int) (hp0 : AGood ⟨t, p, sh⟩ xs) (hl0 : xs.length ≤ 9223372036854775807) : x_counts_w t p sh xs (fun i' lv' fr' => x_counts_I0 t p sh xs i' lv' fr' (x_counts t p sh xs)) (fun r__ => r__ = (x_counts t p sh xs)) := by
  unfold x_counts_w
  try unfold x_counts_I0
  have hok := Cf.ok_iff.1 hp0.ok
  simp only at hok
  exact ⟨by omega, by omega, rfl, rfl, rfl⟩
theorem x_counts_step0 (t : Int) (p : Int) (sh : Int) (xs : List Int) (hp0 : AGood ⟨t, p, sh⟩ xs) (hl0 : xs.length ≤ 9223372036854775807) (i : Int) (lv : Int) (fr : Int) {r_ : Bool} (hI : x_counts_I0 t p sh xs i lv fr r_) : x_counts_w0 t p sh xs i lv fr (fun i' lv' fr' => x_counts_I0 t p sh xs i' lv' fr' r_ ∧ lx ((p - i').toNat, 0, 0) ((p - i).toNat, 0, 0)) (fun r__ => r__ = r_) := by
  unfold x_counts_I0 at hI
  unfold x_counts_w0
  try unfold x_counts_I0
  obtain ⟨h0, h1, hf, hl, hr⟩ := hI
  have hok := Cf.ok_iff.1 hp0.ok
  simp only at hok
  have hb := countsF_bd ⟨t, p, sh⟩ xs i.toNat
  refine ⟨fun h => ?_, fun h => ?_⟩
  · simp only [decide_eq_true_eq] at h
    have hg : 0 ≤ i ∧ i < p := ⟨h0, h⟩
    have e : (i + 1).toNat = i.toNat + 1 := by omega
    have ei : ((i.toNat : Nat) : Int) = i := by omega
    have hbs : bd32 (x_Slots t p sh xs i) := cel_bd hp0 _
    have hl0 : 0 ≤ (aInfo ⟨t, p, sh⟩ xs i).l := (iGet_bd (cel xs (Cf.info ⟨t, p, sh⟩ i))).2.2.1
    have hl1 : (aInfo ⟨t, p, sh⟩ xs i).l ≤ 1024 := (iGet_bd (cel xs (Cf.info ⟨t, p, sh⟩ i))).2.2.2.1
    have ho : 0 ≤ ones (cel xs (Cf.slots ⟨t, p, sh⟩ i)) ∧ ones (cel xs (Cf.slots ⟨t, p, sh⟩ i)) ≤ 32 := onesF_bd _ 32
    have hones : r01_Ones (x_Slots t p sh xs i) = ones (cel xs (Cf.slots ⟨t, p, sh⟩ i)) := rfl
    have key : countsF ⟨t, p, sh⟩ xs (i + 1).toNat = (fr + (bif (aInfo ⟨t, p, sh⟩ xs i).k == 1 then (aInfo ⟨t, p, sh⟩ xs i).l else 0), lv + (bif (aInfo ⟨t, p, sh⟩ xs i).k == 2 then 1 else 0) + ones (cel xs (Cf.slots ⟨t, p, sh⟩ i))) := by
      rw [e, countsF, ei, ← hf, ← hl]
    have F1 : IntKind.i64.wrap (fr + (aInfo ⟨t, p, sh⟩ xs i).l) = fr + (aInfo ⟨t, p, sh⟩ xs i).l := w64 (by omega)
    have F2 : IntKind.i64.wrap (lv + 1) = lv + 1 := w64 (by omega)
    have F3 : IntKind.i64.wrap (lv + 1 + ones (cel xs (Cf.slots ⟨t, p, sh⟩ i))) = lv + 1 + ones (cel xs (Cf.slots ⟨t, p, sh⟩ i)) := w64 (by omega)
    have F4 : IntKind.i64.wrap (lv + ones (cel xs (Cf.slots ⟨t, p, sh⟩ i))) = lv + ones (cel xs (Cf.slots ⟨t, p, sh⟩ i)) := w64 (by omega)
    rw [hones, w64 (n := i + 1) (by omega), F2, F3, F4]
    have fin : ∀ (b1 b2 : Bool), ((aInfo ⟨t, p, sh⟩ xs i).k == 1) = b1 → ((aInfo ⟨t, p, sh⟩ xs i).k == 2) = b2 → ∀ x y : Int, x = fr + (bif b1 then (aInfo ⟨t, p, sh⟩ xs i).l else 0) → y = lv + (bif b2 then 1 else 0) + ones (cel xs (Cf.slots ⟨t, p, sh⟩ i)) →
        (0 ≤ i + 1 ∧ i + 1 ≤ p ∧ x = (countsF ⟨t, p, sh⟩ xs (i + 1).toNat).1 ∧ y = (countsF ⟨t, p, sh⟩ xs (i + 1).toNat).2 ∧ r_ = counts ⟨t, p, sh⟩ xs) ∧ lx ((p - (i + 1)).toNat, 0, 0) ((p - i).toNat, 0, 0) := by
      intro b1 b2 e1 e2 x y hx hy
      rw [key, e1, e2]
      exact ⟨⟨by omega, by omega, hx, hy, hr⟩, lxo_⟩
    refine ⟨hp0, fun _ => ⟨hg, fun _ => ⟨fun c1 => ⟨fun c2 => ?_, fun c2 => ?_⟩, fun c1 => ⟨fun c2 => ?_, fun c2 => ?_⟩⟩⟩⟩
    · exact ⟨hp0, fun _ => ⟨hg, fun _ => ⟨hbs, fun _ => fin true true c1 c2 _ _ F1 rfl⟩⟩⟩
    · exact ⟨hp0, fun _ => ⟨hg, fun _ => ⟨hbs, fun _ => fin true false c1 c2 _ _ F1 (by simp)⟩⟩⟩
    · exact ⟨hp0, fun _ => ⟨hg, fun _ => ⟨hbs, fun _ => fin false true c1 c2 _ _ (by simp) rfl⟩⟩⟩
    · exact ⟨hp0, fun _ => ⟨hg, fun _ => ⟨hbs, fun _ => fin false false c1 c2 _ _ (by simp) (by simp)⟩⟩⟩
  · simp only [decide_eq_false_iff_not] at h
    have hlen := hp0.len
    unfold Cf.cells at hlen
    rw [hp0.ok, cond_true] at hlen
    simp only at hlen
    have e : i.toNat = p.toNat := by omega
    refine ⟨⟨by omega, by omega⟩, fun _ => ⟨fun _ => ⟨by omega, by omega⟩, fun _ => ?_⟩⟩
    show _ = r_
    rw [hr, wrapu_nv, wrapu_nv, hf, hl, e]
    rfl
theorem x_counts_ok : EntryOk Dg Tryz.prog 124 e_x_counts :=
  ent_wp Dg T_x_loose_ok (I := [411000000005, 411000000004, 411000000003, 411000000001]) Tryz.func124 mix (B := bodyOf Tryz.f124) (by kernel_rfl) rfl (by kernel_rfl) 400
    fun p0 t p sh xs hb hp => have hl0 : xs.length ≤ 9223372036854775807 := hb.1.2.2.2.1; have hp0 : AGood ⟨t, p, sh⟩ xs := hp _ (.head _); ⟨[⟨none, [0,1,0,1,1], [.blk 0, .code [1,1,1]], [5, 4, 3, 1], [.i .i64, .i .i64, .i .i64, .box 55 [.ic .i64 (t), .ic .i64 (p), .ic .i64 (sh), .roc [.ints .u32 (xs)]]]⟩], fun j => List.getD [appC (Hd.kd (⟨none, [0,1,0,1,1], [.blk 0, .code [1,1,1]], [5, 4, 3, 1], [.i .i64, .i .i64, .i .i64, .box 55 [.ic .i64 (t), .ic .i64 (p), .ic .i64 (sh), .roc [.ints .u32 (xs)]]]⟩ : Hd Sg)) (fun i' lv' fr' => x_counts_I0 t p sh xs i' lv' fr' (x_counts t p sh xs))] j (fun _ => False), fun j => List.getD [appC (Hd.kd (⟨none, [0,1,0,1,1], [.blk 0, .code [1,1,1]], [5, 4, 3, 1], [.i .i64, .i .i64, .i .i64, .box 55 [.ic .i64 (t), .ic .i64 (p), .ic .i64 (sh), .roc [.ints .u32 (xs)]]]⟩ : Hd Sg)) (fun i' lv' fr' => ((p - i').toNat, 0, 0))] j (fun _ => (0, 0, 0)), by kernel_rfl, ⟨x_counts_w t p sh xs (fun i' lv' fr' => x_counts_I0 t p sh xs i' lv' fr' (x_counts t p sh xs)) (fun r__ => r__ = (x_counts t p sh xs)), fun _ _ _ => by kernel_rfl, x_counts_begin t p sh xs hp0 hl0 ⟩, ⟨fun i lv fr hI => ⟨x_counts_w0 t p sh xs i lv fr (fun i' lv' fr' => x_counts_I0 t p sh xs i' lv' fr' (x_counts t p sh xs) ∧ lx ((p - i').toNat, 0, 0) ((p - i).toNat, 0, 0)) (fun r__ => r__ = (x_counts t p sh xs)), fun _ _ _ => by kernel_rfl, x_counts_step0 t p sh xs hp0 hl0 i lv fr hI⟩, trivial⟩⟩
def T_x_counts : List (Nat × Entry Sg) := (124, e_x_counts) :: T_x_loose
theorem T_x_counts_ok : TableOk Dg Tryz.prog T_x_counts := TableOk.cons Dg x_counts_ok T_x_loose_ok
end Go.Proofs.YtnddjnnakkiidaaGreat
namespace Go.Proofs.YtnddjnnakkiidaaGreat
open Go.Sl
theorem lxp_ {x y : Nat × Nat × Nat} (h : lx x y := by unfold lx; dsimp only; omega) : lx x y := h
theorem r07_Rack_eq (k : Int) : r07_Rack k = cRack k := by
  unfold r07_Rack cRack
  by_cases hg : 0 ≤ k ∧ k < 9
  · have a1 : (decide (k < 0) || decide (k > 8)) = false := by simp; omega
    have a2 : (decide (0 ≤ k) && decide (k < 9)) = true := by simp; omega
    rw [a2]
    first | (rw [a1]; simp only [cond_false, cond_true]; rw [w64 (by omega)]) | (simp only [cond_true]; rw [w64 (by omega)])
  · have a1 : (decide (k < 0) || decide (k > 8)) = true := by simp; omega
    have a2 : (decide (0 ≤ k) && decide (k < 9)) = false := by simp; omega
    rw [a2]
    first | (rw [a1]; rfl) | rfl
def x_bins (t : Int) (p : Int) (sh : Int) (xs : List Int) : Bool := bins ⟨t, p, sh⟩ xs
abbrev c_x_bins : Ct Sg := ⟨none, false, [.agg [.i .i64, .i .i64, .i .i64, .ro [some .u32]]], .b⟩
def e_x_bins : Entry Sg := entC c_x_bins x_bins (fun t p sh xs => [AGood ⟨t, p, sh⟩ xs])
def x_bins_w (t : Int) (p : Int) (sh : Int) (xs : List Int) (Q0 : Int → Prop) (Q1 : Int → Nat → List Int → Int → Prop) (R_ : Bool → Prop) : Prop := (Q0 ((0 : Int)))
def x_bins_w0 (t : Int) (p : Int) (sh : Int) (xs : List Int) (k : Int) (Q0 : Int → Prop) (Q1 : Int → Nat → List Int → Int → Prop) (R_ : Bool → Prop) : Prop := (((decide (k < (11 : Int))) = true → (∀ r1 : Int, r1 = (r07_Bin k) → (∀ r2 : List Int × Bool, r2 = (x_List t p sh xs r1) → ((AGood { t := t, p := p, s := sh } xs) ∧ ((AGood { t := t, p := p, s := sh } xs) → (((0 : Int) ≤ r1 ∧ r1 < (↑(List.length xs) : Int)) ∧ (((0 : Int) ≤ r1 ∧ r1 < (↑(List.length xs) : Int)) → (((!Prod.snd r2) = true → (R_ (false))) ∧ ((!Prod.snd r2) = false → (Q1 ((0 : Int)) (List.length (Prod.fst r2)) (Prod.fst r2) (k))))))))))) ∧ ((decide (k < (11 : Int))) = false → (R_ (true))))
def x_bins_I0 (t : Int) (p : Int) (sh : Int) (xs : List Int) (k : Int) (r_ : Bool) : Prop := 0 ≤ k ∧ k ≤ 11 ∧ binsF ⟨t, p, sh⟩ xs (11 - k).toNat = r_
def x_bins_w1 (t : Int) (p : Int) (sh : Int) (xs : List Int) (i : Int) (n1 : Nat) (ls : List Int) (k : Int) (Q0 : Int → Prop) (Q1 : Int → Nat → List Int → Int → Prop) (R_ : Bool → Prop) : Prop := (((decide (i < p)) = true → ((AGood { t := t, p := p, s := sh } xs) ∧ ((AGood { t := t, p := p, s := sh } xs) → (((0 : Int) ≤ i ∧ i < p) ∧ (((0 : Int) ≤ i ∧ i < p) → (((x_binned t p sh xs i k) = true → (((r12_in ls i != (1 : Int)) = true → (R_ (false))) ∧ ((r12_in ls i != (1 : Int)) = false → (Q1 (IntKind.wrap IntKind.i64 (i + (1 : Int))) (n1) (ls) (k))))) ∧ ((x_binned t p sh xs i k) = false → (((r12_in ls i != (0 : Int)) = true → (R_ (false))) ∧ ((r12_in ls i != (0 : Int)) = false → (Q1 (IntKind.wrap IntKind.i64 (i + (1 : Int))) (n1) (ls) (k))))))))))) ∧ ((decide (i < p)) = false → (Q0 (IntKind.wrap IntKind.i64 (k + (1 : Int))))))
def x_bins_I1 (t : Int) (p : Int) (sh : Int) (xs : List Int) (i : Int) (n1 : Nat) (ls : List Int) (k : Int) (r_ : Bool) : Prop := 0 ≤ k ∧ k < 11 ∧ 0 ≤ i ∧ i ≤ p ∧ n1 = ls.length ∧ (bif onceF ⟨t, p, sh⟩ ls (fun g => binned ⟨t, p, sh⟩ xs g k) (p - i).toNat then binsF ⟨t, p, sh⟩ xs (10 - k).toNat else false) = r_
theorem x_bins_begin (t : Int) (p : Int) (sh : Int) (xs : List Int) (hp0 : AGood ⟨t, p, sh⟩ xs) (hl0 : xs.length ≤ 9223372036854775807) : x_bins_w t p sh xs (fun k' => x_bins_I0 t p sh xs k' (x_bins t p sh xs)) (fun i' n1' ls' k' => x_bins_I1 t p sh xs i' n1' ls' k' (x_bins t p sh xs)) (fun r__ => r__ = (x_bins t p sh xs)) := by
  unfold x_bins_w
  try unfold x_bins_I0
  try unfold x_bins_I1
  exact ⟨by omega, by omega, rfl⟩
theorem x_bins_step0 (t : Int) (p : Int) (sh : Int) (xs : List Int) (hp0 : AGood ⟨t, p, sh⟩ xs) (hl0 : xs.length ≤ 9223372036854775807) (k : Int) {r_ : Bool} (hI : x_bins_I0 t p sh xs k r_) : x_bins_w0 t p sh xs k (fun k' => x_bins_I0 t p sh xs k' r_ ∧ lx ((11 - k').toNat, p.toNat + 1, 0) ((11 - k).toNat, p.toNat + 1, 0)) (fun i' n1' ls' k' => x_bins_I1 t p sh xs i' n1' ls' k' r_ ∧ lx ((11 - k').toNat, (p - i').toNat, 0) ((11 - k).toNat, p.toNat + 1, 0)) (fun r__ => r__ = r_) := by
  unfold x_bins_I0 at hI
  unfold x_bins_w0
  try unfold x_bins_I0
  try unfold x_bins_I1
  obtain ⟨h0, h1, hr⟩ := hI
  have hok := Cf.ok_iff.1 hp0.ok
  simp only at hok
  refine ⟨fun h => ?_, fun h => ?_⟩
  · simp only [decide_eq_true_eq] at h
    have e : (11 - k).toNat = (10 - k).toNat + 1 := by omega
    have ek : (11 : Int) - (((10 - k).toNat + 1 : Nat) : Int) = k := by omega
    rw [e] at hr
    simp only [binsF] at hr
    rw [ek] at hr
    have hb := bin_in hp0 (k := k) ⟨h0, h⟩
    rintro r1 rfl r2 rfl
    rw [r07_Bin_eq]
    refine ⟨hp0, fun _ => ⟨hb, fun _ => ⟨fun hc => ?_, fun hc => ?_⟩⟩⟩
    · have hc' : (listA ⟨t, p, sh⟩ xs (cBin k)).2 = false := by simpa [x_List] using hc
      rw [hc', cond_false] at hr; exact hr
    · have hc' : (listA ⟨t, p, sh⟩ xs (cBin k)).2 = true := by simpa [x_List] using hc
      rw [hc', cond_true] at hr
      refine ⟨⟨h0, h, by omega, by omega, rfl, ?_⟩, lxp_⟩
      rw [show (p - 0).toNat = p.toNat by omega]; exact hr
  · simp only [decide_eq_false_iff_not] at h
    rw [show (11 - k).toNat = 0 by omega] at hr
    exact hr
theorem x_bins_step1 (t : Int) (p : Int) (sh : Int) (xs : List Int) (hp0 : AGood ⟨t, p, sh⟩ xs) (hl0 : xs.length ≤ 9223372036854775807) (i : Int) (n1 : Nat) (ls : List Int) (k : Int) {r_ : Bool} (hI : x_bins_I1 t p sh xs i n1 ls k r_) : x_bins_w1 t p sh xs i n1 ls k (fun k' => x_bins_I0 t p sh xs k' r_ ∧ lx ((11 - k').toNat, p.toNat + 1, 0) ((11 - k).toNat, (p - i).toNat, 0)) (fun i' n1' ls' k' => x_bins_I1 t p sh xs i' n1' ls' k' r_ ∧ lx ((11 - k').toNat, (p - i').toNat, 0) ((11 - k).toNat, (p - i).toNat, 0)) (fun r__ => r__ = r_) := by
  unfold x_bins_I1 at hI
  unfold x_bins_w1
  try unfold x_bins_I0
  try unfold x_bins_I1
  obtain ⟨h0, h1, h2, h3, h4, hr⟩ := hI
  have hok := Cf.ok_iff.1 hp0.ok
  simp only at hok
  refine ⟨fun h => ?_, fun h => ?_⟩
  · simp only [decide_eq_true_eq] at h
    have hg : 0 ≤ i ∧ i < p := ⟨h2, h⟩
    have e : (p - i).toNat = (p - (i + 1)).toNat + 1 := by omega
    have ei : (p : Int) - (((p - (i + 1)).toNat + 1 : Nat) : Int) = i := by omega
    rw [e] at hr
    simp only [onceF] at hr
    rw [ei] at hr
    rw [w64 (n := i + 1) (by omega)]
    refine ⟨hp0, fun _ => ⟨hg, fun _ => ⟨fun hc => ?_, fun hc => ?_⟩⟩⟩
    · have hc' : binned ⟨t, p, sh⟩ xs i k = true := hc
      rw [hc', cond_true] at hr
      refine ⟨fun hn => ?_, fun hn => ?_⟩
      · have hn' : (inA ls i != 1) = true := hn
        rw [hn', cond_true, cond_false] at hr; exact hr
      · have hn' : (inA ls i != 1) = false := hn
        rw [hn', cond_false] at hr
        exact ⟨⟨h0, h1, by omega, by omega, h4, hr⟩, lxp_⟩
    · have hc' : binned ⟨t, p, sh⟩ xs i k = false := hc
      rw [hc', cond_false] at hr
      refine ⟨fun hn => ?_, fun hn => ?_⟩
      · have hn' : (inA ls i != 0) = true := hn
        rw [hn', cond_true, cond_false] at hr; exact hr
      · have hn' : (inA ls i != 0) = false := hn
        rw [hn', cond_false] at hr
        exact ⟨⟨h0, h1, by omega, by omega, h4, hr⟩, lxp_⟩
  · simp only [decide_eq_false_iff_not] at h
    rw [show (p - i).toNat = 0 by omega] at hr
    simp only [onceF, cond_true] at hr
    rw [w64 (n := k + 1) (by omega)]
    refine ⟨⟨by omega, by omega, ?_⟩, lxp_⟩
    rw [show (11 - (k + 1)).toNat = (10 - k).toNat by omega]; exact hr
theorem x_bins_ok : EntryOk Dg Tryz.prog 121 e_x_bins :=
  ent_wp Dg T_x_counts_ok (I := [103000000003, 103000000001, 8549000000006, 8549000000004, 8549000000003, 8549000000001]) Tryz.func121 mix (B := bodyOf Tryz.f121) (by kernel_rfl) rfl (by kernel_rfl) 400
    fun p0 t p sh xs hb hp => have hl0 : xs.length ≤ 9223372036854775807 := hb.1.2.2.2.1; have hp0 : AGood ⟨t, p, sh⟩ xs := hp _ (.head _); ⟨[⟨none, [0,1,0,1], [.blk 0, .code [1,1]], [3, 1], [.i .i64, .box 55 [.ic .i64 (t), .ic .i64 (p), .ic .i64 (sh), .roc [.ints .u32 (xs)]]]⟩, ⟨none, [0,1,1,1,0,0,1,0,0,1,0,1], [.blk 2, .blk 1, .code [1,1,0,0,1,0,1], .again [0,1,0,1], .blk 0, .code [1,1]], [6, 4, 3, 1], [.i .i64, .own 3 [some .i64], .i .i64, .box 55 [.ic .i64 (t), .ic .i64 (p), .ic .i64 (sh), .roc [.ints .u32 (xs)]]]⟩], fun j => List.getD [appC (Hd.kd (⟨none, [0,1,0,1], [.blk 0, .code [1,1]], [3, 1], [.i .i64, .box 55 [.ic .i64 (t), .ic .i64 (p), .ic .i64 (sh), .roc [.ints .u32 (xs)]]]⟩ : Hd Sg)) (fun k' => x_bins_I0 t p sh xs k' (x_bins t p sh xs)), appC (Hd.kd (⟨none, [0,1,1,1,0,0,1,0,0,1,0,1], [.blk 2, .blk 1, .code [1,1,0,0,1,0,1], .again [0,1,0,1], .blk 0, .code [1,1]], [6, 4, 3, 1], [.i .i64, .own 3 [some .i64], .i .i64, .box 55 [.ic .i64 (t), .ic .i64 (p), .ic .i64 (sh), .roc [.ints .u32 (xs)]]]⟩ : Hd Sg)) (fun i' n1' ls' k' => x_bins_I1 t p sh xs i' n1' ls' k' (x_bins t p sh xs))] j (fun _ => False), fun j => List.getD [appC (Hd.kd (⟨none, [0,1,0,1], [.blk 0, .code [1,1]], [3, 1], [.i .i64, .box 55 [.ic .i64 (t), .ic .i64 (p), .ic .i64 (sh), .roc [.ints .u32 (xs)]]]⟩ : Hd Sg)) (fun k' => ((11 - k').toNat, p.toNat + 1, 0)), appC (Hd.kd (⟨none, [0,1,1,1,0,0,1,0,0,1,0,1], [.blk 2, .blk 1, .code [1,1,0,0,1,0,1], .again [0,1,0,1], .blk 0, .code [1,1]], [6, 4, 3, 1], [.i .i64, .own 3 [some .i64], .i .i64, .box 55 [.ic .i64 (t), .ic .i64 (p), .ic .i64 (sh), .roc [.ints .u32 (xs)]]]⟩ : Hd Sg)) (fun i' n1' ls' k' => ((11 - k').toNat, (p - i').toNat, 0))] j (fun _ => (0, 0, 0)), by kernel_rfl, ⟨x_bins_w t p sh xs (fun k' => x_bins_I0 t p sh xs k' (x_bins t p sh xs)) (fun i' n1' ls' k' => x_bins_I1 t p sh xs i' n1' ls' k' (x_bins t p sh xs)) (fun r__ => r__ = (x_bins t p sh xs)), fun _ _ _ => by kernel_rfl, x_bins_begin t p sh xs hp0 hl0 ⟩, ⟨fun k hI => ⟨x_bins_w0 t p sh xs k (fun k' => x_bins_I0 t p sh xs k' (x_bins t p sh xs) ∧ lx ((11 - k').toNat, p.toNat + 1, 0) ((11 - k).toNat, p.toNat + 1, 0)) (fun i' n1' ls' k' => x_bins_I1 t p sh xs i' n1' ls' k' (x_bins t p sh xs) ∧ lx ((11 - k').toNat, (p - i').toNat, 0) ((11 - k).toNat, p.toNat + 1, 0)) (fun r__ => r__ = (x_bins t p sh xs)), fun _ _ _ => by kernel_rfl, x_bins_step0 t p sh xs hp0 hl0 k hI⟩, ⟨fun i n1 ls k hI => ⟨x_bins_w1 t p sh xs i n1 ls k (fun k' => x_bins_I0 t p sh xs k' (x_bins t p sh xs) ∧ lx ((11 - k').toNat, p.toNat + 1, 0) ((11 - k).toNat, (p - i).toNat, 0)) (fun i' n1' ls' k' => x_bins_I1 t p sh xs i' n1' ls' k' (x_bins t p sh xs) ∧ lx ((11 - k').toNat, (p - i').toNat, 0) ((11 - k).toNat, (p - i).toNat, 0)) (fun r__ => r__ = (x_bins t p sh xs)), fun _ _ _ => by kernel_rfl, x_bins_step1 t p sh xs hp0 hl0 i n1 ls k hI⟩, trivial⟩⟩⟩
def T_x_bins : List (Nat × Entry Sg) := (121, e_x_bins) :: T_x_counts
theorem T_x_bins_ok : TableOk Dg Tryz.prog T_x_bins := TableOk.cons Dg x_bins_ok T_x_counts_ok
def x_racks (t : Int) (p : Int) (sh : Int) (xs : List Int) : Bool := racks ⟨t, p, sh⟩ xs
abbrev c_x_racks : Ct Sg := ⟨none, false, [.agg [.i .i64, .i .i64, .i .i64, .ro [some .u32]]], .b⟩
def e_x_racks : Entry Sg := entC c_x_racks x_racks (fun t p sh xs => [AGood ⟨t, p, sh⟩ xs])
def x_racks_w (t : Int) (p : Int) (sh : Int) (xs : List Int) (Q0 : Int → Prop) (Q1 : Int → Nat → List Int → Int → Prop) (R_ : Bool → Prop) : Prop := (Q0 ((0 : Int)))
def x_racks_w0 (t : Int) (p : Int) (sh : Int) (xs : List Int) (k : Int) (Q0 : Int → Prop) (Q1 : Int → Nat → List Int → Int → Prop) (R_ : Bool → Prop) : Prop := (((decide (k < (9 : Int))) = true → (∀ r1 : Int, r1 = (r07_Rack k) → (∀ r2 : List Int × Bool, r2 = (x_List t p sh xs r1) → ((AGood { t := t, p := p, s := sh } xs) ∧ ((AGood { t := t, p := p, s := sh } xs) → (((0 : Int) ≤ r1 ∧ r1 < (↑(List.length xs) : Int)) ∧ (((0 : Int) ≤ r1 ∧ r1 < (↑(List.length xs) : Int)) → (((!Prod.snd r2) = true → (R_ (false))) ∧ ((!Prod.snd r2) = false → (Q1 ((0 : Int)) (List.length (Prod.fst r2)) (Prod.fst r2) (k))))))))))) ∧ ((decide (k < (9 : Int))) = false → (R_ (true))))
def x_racks_I0 (t : Int) (p : Int) (sh : Int) (xs : List Int) (k : Int) (r_ : Bool) : Prop := 0 ≤ k ∧ k ≤ 9 ∧ racksF ⟨t, p, sh⟩ xs (9 - k).toNat = r_
def x_racks_w1 (t : Int) (p : Int) (sh : Int) (xs : List Int) (i : Int) (n1 : Nat) (ls : List Int) (k : Int) (Q0 : Int → Prop) (Q1 : Int → Nat → List Int → Int → Prop) (R_ : Bool → Prop) : Prop := (((decide (i < p)) = true → ((AGood { t := t, p := p, s := sh } xs) ∧ ((AGood { t := t, p := p, s := sh } xs) → (((0 : Int) ≤ i ∧ i < p) ∧ (((0 : Int) ≤ i ∧ i < p) → (((x_racked t p sh xs i k) = true → (((r12_in ls i != (1 : Int)) = true → (R_ (false))) ∧ ((r12_in ls i != (1 : Int)) = false → (Q1 (IntKind.wrap IntKind.i64 (i + (1 : Int))) (n1) (ls) (k))))) ∧ ((x_racked t p sh xs i k) = false → (((r12_in ls i != (0 : Int)) = true → (R_ (false))) ∧ ((r12_in ls i != (0 : Int)) = false → (Q1 (IntKind.wrap IntKind.i64 (i + (1 : Int))) (n1) (ls) (k))))))))))) ∧ ((decide (i < p)) = false → (Q0 (IntKind.wrap IntKind.i64 (k + (1 : Int))))))
def x_racks_I1 (t : Int) (p : Int) (sh : Int) (xs : List Int) (i : Int) (n1 : Nat) (ls : List Int) (k : Int) (r_ : Bool) : Prop := 0 ≤ k ∧ k < 9 ∧ 0 ≤ i ∧ i ≤ p ∧ n1 = ls.length ∧ (bif onceF ⟨t, p, sh⟩ ls (fun g => racked ⟨t, p, sh⟩ xs g k) (p - i).toNat then racksF ⟨t, p, sh⟩ xs (8 - k).toNat else false) = r_
theorem x_racks_begin (t : Int) (p : Int) (sh : Int) (xs : List Int) (hp0 : AGood ⟨t, p, sh⟩ xs) (hl0 : xs.length ≤ 9223372036854775807) : x_racks_w t p sh xs (fun k' => x_racks_I0 t p sh xs k' (x_racks t p sh xs)) (fun i' n1' ls' k' => x_racks_I1 t p sh xs i' n1' ls' k' (x_racks t p sh xs)) (fun r__ => r__ = (x_racks t p sh xs)) := by
  unfold x_racks_w
  try unfold x_racks_I0
  try unfold x_racks_I1
  exact ⟨by omega, by omega, rfl⟩
theorem x_racks_step0 (t : Int) (p : Int) (sh : Int) (xs : List Int) (hp0 : AGood ⟨t, p, sh⟩ xs) (hl0 : xs.length ≤ 9223372036854775807) (k : Int) {r_ : Bool} (hI : x_racks_I0 t p sh xs k r_) : x_racks_w0 t p sh xs k (fun k' => x_racks_I0 t p sh xs k' r_ ∧ lx ((9 - k').toNat, p.toNat + 1, 0) ((9 - k).toNat, p.toNat + 1, 0)) (fun i' n1' ls' k' => x_racks_I1 t p sh xs i' n1' ls' k' r_ ∧ lx ((9 - k').toNat, (p - i').toNat, 0) ((9 - k).toNat, p.toNat + 1, 0)) (fun r__ => r__ = r_) := by
  unfold x_racks_I0 at hI
  unfold x_racks_w0
  try unfold x_racks_I0
  try unfold x_racks_I1
  obtain ⟨h0, h1, hr⟩ := hI
  have hok := Cf.ok_iff.1 hp0.ok
  simp only at hok
  refine ⟨fun h => ?_, fun h => ?_⟩
  · simp only [decide_eq_true_eq] at h
    have e : (9 - k).toNat = (8 - k).toNat + 1 := by omega
    have ek : (9 : Int) - (((8 - k).toNat + 1 : Nat) : Int) = k := by omega
    rw [e] at hr
    simp only [racksF] at hr
    rw [ek] at hr
    have hb := rack_in hp0 (k := k) ⟨h0, h⟩
    rintro r1 rfl r2 rfl
    rw [r07_Rack_eq]
    refine ⟨hp0, fun _ => ⟨hb, fun _ => ⟨fun hc => ?_, fun hc => ?_⟩⟩⟩
    · have hc' : (listA ⟨t, p, sh⟩ xs (cRack k)).2 = false := by simpa [x_List] using hc
      rw [hc', cond_false] at hr; exact hr
    · have hc' : (listA ⟨t, p, sh⟩ xs (cRack k)).2 = true := by simpa [x_List] using hc
      rw [hc', cond_true] at hr
      refine ⟨⟨h0, h, by omega, by omega, rfl, ?_⟩, lxp_⟩
      rw [show (p - 0).toNat = p.toNat by omega]; exact hr
  · simp only [decide_eq_false_iff_not] at h
    rw [show (9 - k).toNat = 0 by omega] at hr
    exact hr
theorem x_racks_step1 (t : Int) (p : Int) (sh : Int) (xs : List Int) (hp0 : AGood ⟨t, p, sh⟩ xs) (hl0 : xs.length ≤ 9223372036854775807) (i : Int) (n1 : Nat) (ls : List Int) (k : Int) {r_ : Bool} (hI : x_racks_I1 t p sh xs i n1 ls k r_) : x_racks_w1 t p sh xs i n1 ls k (fun k' => x_racks_I0 t p sh xs k' r_ ∧ lx ((9 - k').toNat, p.toNat + 1, 0) ((9 - k).toNat, (p - i).toNat, 0)) (fun i' n1' ls' k' => x_racks_I1 t p sh xs i' n1' ls' k' r_ ∧ lx ((9 - k').toNat, (p - i').toNat, 0) ((9 - k).toNat, (p - i).toNat, 0)) (fun r__ => r__ = r_) := by
  unfold x_racks_I1 at hI
  unfold x_racks_w1
  try unfold x_racks_I0
  try unfold x_racks_I1
  obtain ⟨h0, h1, h2, h3, h4, hr⟩ := hI
  have hok := Cf.ok_iff.1 hp0.ok
  simp only at hok
  refine ⟨fun h => ?_, fun h => ?_⟩
  · simp only [decide_eq_true_eq] at h
    have hg : 0 ≤ i ∧ i < p := ⟨h2, h⟩
    have e : (p - i).toNat = (p - (i + 1)).toNat + 1 := by omega
    have ei : (p : Int) - (((p - (i + 1)).toNat + 1 : Nat) : Int) = i := by omega
    rw [e] at hr
    simp only [onceF] at hr
    rw [ei] at hr
    rw [w64 (n := i + 1) (by omega)]
    refine ⟨hp0, fun _ => ⟨hg, fun _ => ⟨fun hc => ?_, fun hc => ?_⟩⟩⟩
    · have hc' : racked ⟨t, p, sh⟩ xs i k = true := hc
      rw [hc', cond_true] at hr
      refine ⟨fun hn => ?_, fun hn => ?_⟩
      · have hn' : (inA ls i != 1) = true := hn
        rw [hn', cond_true, cond_false] at hr; exact hr
      · have hn' : (inA ls i != 1) = false := hn
        rw [hn', cond_false] at hr
        exact ⟨⟨h0, h1, by omega, by omega, h4, hr⟩, lxp_⟩
    · have hc' : racked ⟨t, p, sh⟩ xs i k = false := hc
      rw [hc', cond_false] at hr
      refine ⟨fun hn => ?_, fun hn => ?_⟩
      · have hn' : (inA ls i != 0) = true := hn
        rw [hn', cond_true, cond_false] at hr; exact hr
      · have hn' : (inA ls i != 0) = false := hn
        rw [hn', cond_false] at hr
        exact ⟨⟨h0, h1, by omega, by omega, h4, hr⟩, lxp_⟩
  · simp only [decide_eq_false_iff_not] at h
    rw [show (p - i).toNat = 0 by omega] at hr
    simp only [onceF, cond_true] at hr
    rw [w64 (n := k + 1) (by omega)]
    refine ⟨⟨by omega, by omega, ?_⟩, lxp_⟩
    rw [show (9 - (k + 1)).toNat = (8 - k).toNat by omega]; exact hr
theorem x_racks_ok : EntryOk Dg Tryz.prog 122 e_x_racks :=
  ent_wp Dg T_x_bins_ok (I := [103000000003, 103000000001, 8549000000006, 8549000000004, 8549000000003, 8549000000001]) Tryz.func122 mix (B := bodyOf Tryz.f122) (by kernel_rfl) rfl (by kernel_rfl) 400
    fun p0 t p sh xs hb hp => have hl0 : xs.length ≤ 9223372036854775807 := hb.1.2.2.2.1; have hp0 : AGood ⟨t, p, sh⟩ xs := hp _ (.head _); ⟨[⟨none, [0,1,0,1], [.blk 0, .code [1,1]], [3, 1], [.i .i64, .box 55 [.ic .i64 (t), .ic .i64 (p), .ic .i64 (sh), .roc [.ints .u32 (xs)]]]⟩, ⟨none, [0,1,1,1,0,0,1,0,0,1,0,1], [.blk 2, .blk 1, .code [1,1,0,0,1,0,1], .again [0,1,0,1], .blk 0, .code [1,1]], [6, 4, 3, 1], [.i .i64, .own 3 [some .i64], .i .i64, .box 55 [.ic .i64 (t), .ic .i64 (p), .ic .i64 (sh), .roc [.ints .u32 (xs)]]]⟩], fun j => List.getD [appC (Hd.kd (⟨none, [0,1,0,1], [.blk 0, .code [1,1]], [3, 1], [.i .i64, .box 55 [.ic .i64 (t), .ic .i64 (p), .ic .i64 (sh), .roc [.ints .u32 (xs)]]]⟩ : Hd Sg)) (fun k' => x_racks_I0 t p sh xs k' (x_racks t p sh xs)), appC (Hd.kd (⟨none, [0,1,1,1,0,0,1,0,0,1,0,1], [.blk 2, .blk 1, .code [1,1,0,0,1,0,1], .again [0,1,0,1], .blk 0, .code [1,1]], [6, 4, 3, 1], [.i .i64, .own 3 [some .i64], .i .i64, .box 55 [.ic .i64 (t), .ic .i64 (p), .ic .i64 (sh), .roc [.ints .u32 (xs)]]]⟩ : Hd Sg)) (fun i' n1' ls' k' => x_racks_I1 t p sh xs i' n1' ls' k' (x_racks t p sh xs))] j (fun _ => False), fun j => List.getD [appC (Hd.kd (⟨none, [0,1,0,1], [.blk 0, .code [1,1]], [3, 1], [.i .i64, .box 55 [.ic .i64 (t), .ic .i64 (p), .ic .i64 (sh), .roc [.ints .u32 (xs)]]]⟩ : Hd Sg)) (fun k' => ((9 - k').toNat, p.toNat + 1, 0)), appC (Hd.kd (⟨none, [0,1,1,1,0,0,1,0,0,1,0,1], [.blk 2, .blk 1, .code [1,1,0,0,1,0,1], .again [0,1,0,1], .blk 0, .code [1,1]], [6, 4, 3, 1], [.i .i64, .own 3 [some .i64], .i .i64, .box 55 [.ic .i64 (t), .ic .i64 (p), .ic .i64 (sh), .roc [.ints .u32 (xs)]]]⟩ : Hd Sg)) (fun i' n1' ls' k' => ((9 - k').toNat, (p - i').toNat, 0))] j (fun _ => (0, 0, 0)), by kernel_rfl, ⟨x_racks_w t p sh xs (fun k' => x_racks_I0 t p sh xs k' (x_racks t p sh xs)) (fun i' n1' ls' k' => x_racks_I1 t p sh xs i' n1' ls' k' (x_racks t p sh xs)) (fun r__ => r__ = (x_racks t p sh xs)), fun _ _ _ => by kernel_rfl, x_racks_begin t p sh xs hp0 hl0 ⟩, ⟨fun k hI => ⟨x_racks_w0 t p sh xs k (fun k' => x_racks_I0 t p sh xs k' (x_racks t p sh xs) ∧ lx ((9 - k').toNat, p.toNat + 1, 0) ((9 - k).toNat, p.toNat + 1, 0)) (fun i' n1' ls' k' => x_racks_I1 t p sh xs i' n1' ls' k' (x_racks t p sh xs) ∧ lx ((9 - k').toNat, (p - i').toNat, 0) ((9 - k).toNat, p.toNat + 1, 0)) (fun r__ => r__ = (x_racks t p sh xs)), fun _ _ _ => by kernel_rfl, x_racks_step0 t p sh xs hp0 hl0 k hI⟩, ⟨fun i n1 ls k hI => ⟨x_racks_w1 t p sh xs i n1 ls k (fun k' => x_racks_I0 t p sh xs k' (x_racks t p sh xs) ∧ lx ((9 - k').toNat, p.toNat + 1, 0) ((9 - k).toNat, (p - i).toNat, 0)) (fun i' n1' ls' k' => x_racks_I1 t p sh xs i' n1' ls' k' (x_racks t p sh xs) ∧ lx ((9 - k').toNat, (p - i').toNat, 0) ((9 - k).toNat, (p - i).toNat, 0)) (fun r__ => r__ = (x_racks t p sh xs)), fun _ _ _ => by kernel_rfl, x_racks_step1 t p sh xs hp0 hl0 i n1 ls k hI⟩, trivial⟩⟩⟩
def T_x_racks : List (Nat × Entry Sg) := (122, e_x_racks) :: T_x_bins
theorem T_x_racks_ok : TableOk Dg Tryz.prog T_x_racks := TableOk.cons Dg x_racks_ok T_x_bins_ok
end Go.Proofs.YtnddjnnakkiidaaGreat
namespace Go.Proofs.YtnddjnnakkiidaaGreat
open Go.Sl
def x_slots (t : Int) (p : Int) (sh : Int) (xs : List Int) : Bool := slotsOk ⟨t, p, sh⟩ xs
abbrev c_x_slots : Ct Sg := ⟨none, false, [.agg [.i .i64, .i .i64, .i .i64, .ro [some .u32]]], .b⟩
def e_x_slots : Entry Sg := entC c_x_slots x_slots (fun t p sh xs => [AGood ⟨t, p, sh⟩ xs])
def x_slots_w (t : Int) (p : Int) (sh : Int) (xs : List Int) (Q0 : Int → Prop) (Q1 : Int → Int → Int → Int → Int → Prop) (R_ : Bool → Prop) : Prop := (Q0 ((0 : Int)))
def x_slots_w0 (t : Int) (p : Int) (sh : Int) (xs : List Int) (g : Int) (Q0 : Int → Prop) (Q1 : Int → Int → Int → Int → Int → Prop) (R_ : Bool → Prop) : Prop := (((decide (g < p)) = true → ((AGood { t := t, p := p, s := sh } xs) ∧ ((AGood { t := t, p := p, s := sh } xs) → (((0 : Int) ≤ g ∧ g < p) ∧ (((0 : Int) ≤ g ∧ g < p) → (Q1 ((0 : Int)) (Prod.fst (If.k (aInfo { t := t, p := p, s := sh } xs g), If.l (aInfo { t := t, p := p, s := sh } xs g), If.c (aInfo { t := t, p := p, s := sh } xs g))) (If.l (aInfo { t := t, p := p, s := sh } xs g)) (If.c (aInfo { t := t, p := p, s := sh } xs g)) (g))))))) ∧ ((decide (g < p)) = false → (R_ (true))))
def x_slots_I0 (t : Int) (p : Int) (sh : Int) (xs : List Int) (g : Int) (r_ : Bool) : Prop := 0 ≤ g ∧ g ≤ p ∧ slotsF ⟨t, p, sh⟩ xs (p - g).toNat = r_
def x_slots_w1 (t : Int) (p : Int) (sh : Int) (xs : List Int) (j : Int) (ik : Int) (il : Int) (ic : Int) (g : Int) (Q0 : Int → Prop) (Q1 : Int → Int → Int → Int → Int → Prop) (R_ : Bool → Prop) : Prop := (((decide (j < (32 : Int))) = true → ((AGood { t := t, p := p, s := sh } xs) ∧ ((AGood { t := t, p := p, s := sh } xs) → (((0 : Int) ≤ g ∧ g < p) ∧ (((0 : Int) ≤ g ∧ g < p) → ((AGood { t := t, p := p, s := sh } xs) ∧ ((AGood { t := t, p := p, s := sh } xs) → (((0 : Int) ≤ g ∧ g < p) ∧ (((0 : Int) ≤ g ∧ g < p) → (((r01_Bit (x_Slots t p sh xs g) j && !r01_Bit (x_Taken t p sh xs g) j || r01_Bit (x_Taken t p sh xs g) j && (ik != (3 : Int) || decide (j ≥ r05_Slots ic))) = true → (R_ (false))) ∧ ((r01_Bit (x_Slots t p sh xs g) j && !r01_Bit (x_Taken t p sh xs g) j || r01_Bit (x_Taken t p sh xs g) j && (ik != (3 : Int) || decide (j ≥ r05_Slots ic))) = false → (Q1 (IntKind.wrap IntKind.i64 (j + (1 : Int))) (ik) (il) (ic) (g))))))))))))) ∧ ((decide (j < (32 : Int))) = false → (((ik == (3 : Int)) = true → AGood { t := t, p := p, s := sh } xs) ∧ (((ik == (3 : Int)) = true → AGood { t := t, p := p, s := sh } xs) → (((ik == (3 : Int)) = true → (0 : Int) ≤ g ∧ g < p) ∧ (((ik == (3 : Int)) = true → (0 : Int) ≤ g ∧ g < p) → (((ik == (3 : Int) && x_Taken t p sh xs g == (0 : Int)) = true → (R_ (false))) ∧ ((ik == (3 : Int) && x_Taken t p sh xs g == (0 : Int)) = false → (Q0 (IntKind.wrap IntKind.i64 (g + (1 : Int))))))))))))
def x_slots_I1 (t : Int) (p : Int) (sh : Int) (xs : List Int) (j : Int) (ik : Int) (il : Int) (ic : Int) (g : Int) (r_ : Bool) : Prop := 0 ≤ g ∧ g < p ∧ 0 ≤ j ∧ j ≤ 32 ∧ ik = (aInfo ⟨t, p, sh⟩ xs g).k ∧ ic = (aInfo ⟨t, p, sh⟩ xs g).c ∧ (bif slotsB ⟨t, p, sh⟩ xs g (aInfo ⟨t, p, sh⟩ xs g) (32 - j).toNat then (bif (aInfo ⟨t, p, sh⟩ xs g).k == 3 && cel xs (Cf.taken ⟨t, p, sh⟩ g) == 0 then false else slotsF ⟨t, p, sh⟩ xs (p - (g + 1)).toNat) else false) = r_
theorem x_slots_begin (t : Int) (p : Int) (sh : Int) (xs : List Int) (hp0 : AGood ⟨t, p, sh⟩ xs) (hl0 : xs.length ≤ 9223372036854775807) : x_slots_w t p sh xs (fun g' => x_slots_I0 t p sh xs g' (x_slots t p sh xs)) (fun j' ik' il' ic' g' => x_slots_I1 t p sh xs j' ik' il' ic' g' (x_slots t p sh xs)) (fun r__ => r__ = (x_slots t p sh xs)) := by
  unfold x_slots_w
  try unfold x_slots_I0
  try unfold x_slots_I1
  have hok := Cf.ok_iff.1 hp0.ok
  simp only at hok
  refine ⟨by omega, by omega, ?_⟩
  show _ = slotsOk ⟨t, p, sh⟩ xs
  unfold slotsOk
  rw [show (p - 0).toNat = p.toNat by omega]
theorem x_slots_step0 (t : Int) (p : Int) (sh : Int) (xs : List Int) (hp0 : AGood ⟨t, p, sh⟩ xs) (hl0 : xs.length ≤ 9223372036854775807) (g : Int) {r_ : Bool} (hI : x_slots_I0 t p sh xs g r_) : x_slots_w0 t p sh xs g (fun g' => x_slots_I0 t p sh xs g' r_ ∧ lx ((p - g').toNat, 33, 0) ((p - g).toNat, 33, 0)) (fun j' ik' il' ic' g' => x_slots_I1 t p sh xs j' ik' il' ic' g' r_ ∧ lx ((p - g').toNat, (32 - j').toNat, 0) ((p - g).toNat, 33, 0)) (fun r__ => r__ = r_) := by
  unfold x_slots_I0 at hI
  unfold x_slots_w0
  try unfold x_slots_I0
  try unfold x_slots_I1
  obtain ⟨h0, h1, hr⟩ := hI
  refine ⟨fun h => ?_, fun h => ?_⟩
  · simp only [decide_eq_true_eq] at h
    have e : (p - g).toNat = (p - (g + 1)).toNat + 1 := by omega
    have ei : (p : Int) - (((p - (g + 1)).toNat + 1 : Nat) : Int) = g := by omega
    rw [e] at hr
    simp only [slotsF] at hr
    rw [ei] at hr
    exact ⟨hp0, fun _ => ⟨⟨h0, h⟩, fun _ => ⟨⟨h0, h, by omega, by omega, rfl, rfl, hr⟩, lxp_⟩⟩⟩
  · simp only [decide_eq_false_iff_not] at h
    rw [show (p - g).toNat = 0 by omega] at hr
    exact hr
theorem x_slots_step1 (t : Int) (p : Int) (sh : Int) (xs : List Int) (hp0 : AGood ⟨t, p, sh⟩ xs) (hl0 : xs.length ≤ 9223372036854775807) (j : Int) (ik : Int) (il : Int) (ic : Int) (g : Int) {r_ : Bool} (hI : x_slots_I1 t p sh xs j ik il ic g r_) : x_slots_w1 t p sh xs j ik il ic g (fun g' => x_slots_I0 t p sh xs g' r_ ∧ lx ((p - g').toNat, 33, 0) ((p - g).toNat, (32 - j).toNat, 0)) (fun j' ik' il' ic' g' => x_slots_I1 t p sh xs j' ik' il' ic' g' r_ ∧ lx ((p - g').toNat, (32 - j').toNat, 0) ((p - g).toNat, (32 - j).toNat, 0)) (fun r__ => r__ = r_) := by
  unfold x_slots_I1 at hI
  unfold x_slots_w1
  try unfold x_slots_I0
  try unfold x_slots_I1
  obtain ⟨h0, h1, h2, h3, rfl, rfl, hr⟩ := hI
  have hok := Cf.ok_iff.1 hp0.ok
  simp only at hok
  have hbs := cel_bd hp0 (Cf.slots ⟨t, p, sh⟩ g)
  have hbt := cel_bd hp0 (Cf.taken ⟨t, p, sh⟩ g)
  have hg : 0 ≤ g ∧ g < p := ⟨h0, h1⟩
  refine ⟨fun h => ?_, fun h => ?_⟩
  · simp only [decide_eq_true_eq] at h
    have e : (32 - j).toNat = (32 - (j + 1)).toNat + 1 := by omega
    have ej : (32 : Int) - (((32 - (j + 1)).toNat + 1 : Nat) : Int) = j := by omega
    rw [e] at hr
    simp only [slotsB] at hr
    rw [ej] at hr
    have hb1 : r01_Bit (x_Slots t p sh xs g) j = bitAt (cel xs (Cf.slots ⟨t, p, sh⟩ g)) j := bit_eq hbs j
    have hb2 : r01_Bit (x_Taken t p sh xs g) j = bitAt (cel xs (Cf.taken ⟨t, p, sh⟩ g)) j := bit_eq hbt j
    rw [w64 (n := j + 1) (by omega), hb1, hb2, r05_Slots_eq]
    refine ⟨hp0, fun _ => ⟨hg, fun _ => ⟨hp0, fun _ => ⟨hg, fun _ => ⟨fun hc => ?_, fun hc => ?_⟩⟩⟩⟩⟩
    · rw [hc, cond_true, cond_false] at hr; exact hr
    · rw [hc, cond_false] at hr
      exact ⟨⟨h0, h1, by omega, by omega, rfl, rfl, hr⟩, lxp_⟩
  · simp only [decide_eq_false_iff_not] at h
    rw [show (32 - j).toNat = 0 by omega] at hr
    simp only [slotsB, cond_true] at hr
    rw [w64 (n := g + 1) (by omega)]
    refine ⟨fun _ => hp0, fun _ => ⟨fun _ => hg, fun _ => ⟨fun hc => ?_, fun hc => ?_⟩⟩⟩
    · have hc' : ((aInfo ⟨t, p, sh⟩ xs g).k == 3 && cel xs (Cf.taken ⟨t, p, sh⟩ g) == 0) = true := hc
      rw [hc', cond_true] at hr; exact hr
    · have hc' : ((aInfo ⟨t, p, sh⟩ xs g).k == 3 && cel xs (Cf.taken ⟨t, p, sh⟩ g) == 0) = false := hc
      rw [hc', cond_false] at hr
      exact ⟨⟨by omega, by omega, hr⟩, lxp_⟩
theorem x_slots_ok : EntryOk Dg Tryz.prog 120 e_x_slots :=
  ent_wp Dg T_x_racks_ok (I := [103000000003, 103000000001, 5703000000005, 5703000000004, 5703000000003, 5703000000001]) Tryz.func120 mix (B := bodyOf Tryz.f120) (by kernel_rfl) rfl (by kernel_rfl) 400
    fun p0 t p sh xs hb hp => have hl0 : xs.length ≤ 9223372036854775807 := hb.1.2.2.2.1; have hp0 : AGood ⟨t, p, sh⟩ xs := hp _ (.head _); ⟨[⟨none, [0,1,0,1], [.blk 0, .code [1,1]], [3, 1], [.i .i64, .box 55 [.ic .i64 (t), .ic .i64 (p), .ic .i64 (sh), .roc [.ints .u32 (xs)]]]⟩, ⟨none, [0,1,0,1,0,0,1,0,0,1,0,1], [.blk 2, .code [1,1,0,0,1,0,0,1,0,1], .blk 1, .code [1,1,0,0,1,0,1], .again [0,1,0,1], .blk 0, .code [1,1]], [5, 4, 3, 1], [.i .i64, .box 58 [.i .i64, .i .i64, .i .i64], .i .i64, .box 55 [.ic .i64 (t), .ic .i64 (p), .ic .i64 (sh), .roc [.ints .u32 (xs)]]]⟩], fun j => List.getD [appC (Hd.kd (⟨none, [0,1,0,1], [.blk 0, .code [1,1]], [3, 1], [.i .i64, .box 55 [.ic .i64 (t), .ic .i64 (p), .ic .i64 (sh), .roc [.ints .u32 (xs)]]]⟩ : Hd Sg)) (fun g' => x_slots_I0 t p sh xs g' (x_slots t p sh xs)), appC (Hd.kd (⟨none, [0,1,0,1,0,0,1,0,0,1,0,1], [.blk 2, .code [1,1,0,0,1,0,0,1,0,1], .blk 1, .code [1,1,0,0,1,0,1], .again [0,1,0,1], .blk 0, .code [1,1]], [5, 4, 3, 1], [.i .i64, .box 58 [.i .i64, .i .i64, .i .i64], .i .i64, .box 55 [.ic .i64 (t), .ic .i64 (p), .ic .i64 (sh), .roc [.ints .u32 (xs)]]]⟩ : Hd Sg)) (fun j' ik' il' ic' g' => x_slots_I1 t p sh xs j' ik' il' ic' g' (x_slots t p sh xs))] j (fun _ => False), fun j => List.getD [appC (Hd.kd (⟨none, [0,1,0,1], [.blk 0, .code [1,1]], [3, 1], [.i .i64, .box 55 [.ic .i64 (t), .ic .i64 (p), .ic .i64 (sh), .roc [.ints .u32 (xs)]]]⟩ : Hd Sg)) (fun g' => ((p - g').toNat, 33, 0)), appC (Hd.kd (⟨none, [0,1,0,1,0,0,1,0,0,1,0,1], [.blk 2, .code [1,1,0,0,1,0,0,1,0,1], .blk 1, .code [1,1,0,0,1,0,1], .again [0,1,0,1], .blk 0, .code [1,1]], [5, 4, 3, 1], [.i .i64, .box 58 [.i .i64, .i .i64, .i .i64], .i .i64, .box 55 [.ic .i64 (t), .ic .i64 (p), .ic .i64 (sh), .roc [.ints .u32 (xs)]]]⟩ : Hd Sg)) (fun j' ik' il' ic' g' => ((p - g').toNat, (32 - j').toNat, 0))] j (fun _ => (0, 0, 0)), by kernel_rfl, ⟨x_slots_w t p sh xs (fun g' => x_slots_I0 t p sh xs g' (x_slots t p sh xs)) (fun j' ik' il' ic' g' => x_slots_I1 t p sh xs j' ik' il' ic' g' (x_slots t p sh xs)) (fun r__ => r__ = (x_slots t p sh xs)), fun _ _ _ => by kernel_rfl, x_slots_begin t p sh xs hp0 hl0 ⟩, ⟨fun g hI => ⟨x_slots_w0 t p sh xs g (fun g' => x_slots_I0 t p sh xs g' (x_slots t p sh xs) ∧ lx ((p - g').toNat, 33, 0) ((p - g).toNat, 33, 0)) (fun j' ik' il' ic' g' => x_slots_I1 t p sh xs j' ik' il' ic' g' (x_slots t p sh xs) ∧ lx ((p - g').toNat, (32 - j').toNat, 0) ((p - g).toNat, 33, 0)) (fun r__ => r__ = (x_slots t p sh xs)), fun _ _ _ => by kernel_rfl, x_slots_step0 t p sh xs hp0 hl0 g hI⟩, ⟨fun j ik il ic g hI => ⟨x_slots_w1 t p sh xs j ik il ic g (fun g' => x_slots_I0 t p sh xs g' (x_slots t p sh xs) ∧ lx ((p - g').toNat, 33, 0) ((p - g).toNat, (32 - j).toNat, 0)) (fun j' ik' il' ic' g' => x_slots_I1 t p sh xs j' ik' il' ic' g' (x_slots t p sh xs) ∧ lx ((p - g').toNat, (32 - j').toNat, 0) ((p - g).toNat, (32 - j).toNat, 0)) (fun r__ => r__ = (x_slots t p sh xs)), fun _ _ _ => by kernel_rfl, x_slots_step1 t p sh xs hp0 hl0 j ik il ic g hI⟩, trivial⟩⟩⟩
def T_x_slots : List (Nat × Entry Sg) := (120, e_x_slots) :: T_x_racks
theorem T_x_slots_ok : TableOk Dg Tryz.prog T_x_slots := TableOk.cons Dg x_slots_ok T_x_racks_ok
end Go.Proofs.YtnddjnnakkiidaaGreat
namespace Go.Proofs.YtnddjnnakkiidaaGreat
open Go.Sl
def r12_Has (ls : List Int) (zs : List Int) (g : Int) : Bool := ls.contains g
abbrev c_r12_Has : Ct Sg := ⟨none, false, [.ro [some .i64, some .i64], .i .i64], .b⟩
def e_r12_Has : Entry Sg := entC c_r12_Has r12_Has (fun _ _ _ => [])
def r12_Has_w (ls : List Int) (zs : List Int) (g : Int) (Q0 : Int → Prop) (R_ : Bool → Prop) : Prop := (Q0 ((0 : Int)))
def r12_Has_w0 (ls : List Int) (zs : List Int) (g : Int) (i : Int) (Q0 : Int → Prop) (R_ : Bool → Prop) : Prop := (((decide (i < (↑(List.length ls) : Int))) = true → (((0 : Int) ≤ i ∧ i < (↑(List.length ls) : Int)) ∧ (((0 : Int) ≤ i ∧ i < (↑(List.length ls) : Int)) → (((List.getD ls (Int.toNat i) (0 : Int) == g) = true → (R_ (true))) ∧ ((List.getD ls (Int.toNat i) (0 : Int) == g) = false → (Q0 (IntKind.wrap IntKind.i64 (i + (1 : Int))))))))) ∧ ((decide (i < (↑(List.length ls) : Int))) = false → (R_ (false))))
def r12_Has_I0 (ls : List Int) (zs : List Int) (g : Int) (i : Int) (r_ : Bool) : Prop := 0 ≤ i ∧ i ≤ ls.length ∧ (ls.take i.toNat).contains g = false ∧ ls.length ≤ 9223372036854775807 ∧ r_ = ls.contains g
theorem r12_Has_begin (ls : List Int) (zs : List Int) (g : Int) (hl0 : ls.length ≤ 9223372036854775807) : r12_Has_w ls zs g (fun i' => r12_Has_I0 ls zs g i' (r12_Has ls zs g)) (fun r__ => r__ = (r12_Has ls zs g)) := by
  unfold r12_Has_w
  try unfold r12_Has_I0
  exact ⟨by omega, by omega, by simp, hl0, rfl⟩
theorem r12_Has_step0 (ls : List Int) (zs : List Int) (g : Int) (hl0 : ls.length ≤ 9223372036854775807) (i : Int) {r_ : Bool} (hI : r12_Has_I0 ls zs g i r_) : r12_Has_w0 ls zs g i (fun i' => r12_Has_I0 ls zs g i' r_ ∧ lx ((ls.length - i').toNat, 0, 0) ((ls.length - i).toNat, 0, 0)) (fun r__ => r__ = r_) := by
  unfold r12_Has_I0 at hI
  unfold r12_Has_w0
  try unfold r12_Has_I0
  obtain ⟨h0, h1, h2, h3, hr⟩ := hI
  refine ⟨fun h => ?_, fun h => ?_⟩
  · simp only [decide_eq_true_eq] at h
    have hlt : i.toNat < ls.length := by omega
    have ht : ls.take (i + 1).toNat = ls.take i.toNat ++ [ls.getD i.toNat 0] := by
      rw [show (i + 1).toNat = i.toNat + 1 by omega, List.take_add_one, List.getD_eq_getElem?_getD, List.getElem?_eq_getElem hlt]; rfl
    rw [w64 (n := i + 1) (by omega)]
    refine ⟨⟨h0, h⟩, fun _ => ⟨fun hc => ?_, fun hc => ?_⟩⟩
    · have hm := getD_memA hlt
      simp only [beq_iff_eq] at hc
      rw [hc] at hm
      show true = r_
      rw [hr]
      simpa using hm
    · refine ⟨⟨by omega, by omega, ?_, h3, hr⟩, lxo_⟩
      rw [ht]
      generalize ls.getD i.toNat 0 = q at hc
      simp only [beq_eq_false_iff_ne] at hc
      simp only [List.contains_eq_mem, List.mem_append, decide_eq_false_iff_not] at h2 ⊢
      intro hh
      rcases hh with hh | hh
      · exact h2 hh
      · exact hc (List.mem_singleton.1 hh).symm
  · simp only [decide_eq_false_iff_not] at h
    rw [List.take_of_length_le (by omega)] at h2
    show false = r_
    rw [hr, h2]
theorem r12_Has_ok : EntryOk Dg Tryz.prog 39 e_r12_Has :=
  ent_wp Dg T_x_slots_ok (I := [103000000005, 103000000000, 103000000001]) Tryz.func39 mix (B := bodyOf Tryz.f39) (by kernel_rfl) rfl (by kernel_rfl) 400
    fun p0 ls zs g hb hp => have hl0 : ls.length ≤ 9223372036854775807 := hb.1; ⟨[⟨none, [0,1,0,1], [.blk 0, .code [1,1]], [5, 0, 1], [.i .i64, .roc [.ints .i64 (ls), .ints .i64 (zs)], .ic .i64 (g)]⟩], fun j => List.getD [appC (Hd.kd (⟨none, [0,1,0,1], [.blk 0, .code [1,1]], [5, 0, 1], [.i .i64, .roc [.ints .i64 (ls), .ints .i64 (zs)], .ic .i64 (g)]⟩ : Hd Sg)) (fun i' => r12_Has_I0 ls zs g i' (r12_Has ls zs g))] j (fun _ => False), fun j => List.getD [appC (Hd.kd (⟨none, [0,1,0,1], [.blk 0, .code [1,1]], [5, 0, 1], [.i .i64, .roc [.ints .i64 (ls), .ints .i64 (zs)], .ic .i64 (g)]⟩ : Hd Sg)) (fun i' => ((ls.length - i').toNat, 0, 0))] j (fun _ => (0, 0, 0)), by kernel_rfl, ⟨r12_Has_w ls zs g (fun i' => r12_Has_I0 ls zs g i' (r12_Has ls zs g)) (fun r__ => r__ = (r12_Has ls zs g)), fun _ _ _ => by kernel_rfl, r12_Has_begin ls zs g hl0 ⟩, ⟨fun i hI => ⟨r12_Has_w0 ls zs g i (fun i' => r12_Has_I0 ls zs g i' (r12_Has ls zs g) ∧ lx ((ls.length - i').toNat, 0, 0) ((ls.length - i).toNat, 0, 0)) (fun r__ => r__ = (r12_Has ls zs g)), fun _ _ _ => by kernel_rfl, r12_Has_step0 ls zs g hl0 i hI⟩, trivial⟩⟩
def T_r12_Has : List (Nat × Entry Sg) := (39, e_r12_Has) :: T_x_slots
theorem T_r12_Has_ok : TableOk Dg Tryz.prog T_r12_Has := TableOk.cons Dg r12_Has_ok T_x_slots_ok
def r04_Page (t : Int) (p : Int) (sh : Int) : Int := bif r04_Right t p sh then 2 ^ sh.toNat else 0
abbrev c_r04_Page : Ct Sg := ⟨none, false, [.agg [.i .i64, .i .i64, .i .i64]], .i .i64⟩
def e_r04_Page : Entry Sg := entC c_r04_Page r04_Page (fun _ _ _ => [])
def r04_Page_w (t : Int) (p : Int) (sh : Int) (Q0 : Int → Int → Prop) (R_ : Int → Prop) : Prop := (((!r04_Right t p sh) = true → (R_ ((0 : Int)))) ∧ ((!r04_Right t p sh) = false → (Q0 ((0 : Int)) ((1 : Int)))))
def r04_Page_w0 (t : Int) (p : Int) (sh : Int) (i : Int) (m : Int) (Q0 : Int → Int → Prop) (R_ : Int → Prop) : Prop := (((decide (i < sh)) = true → (Q0 (IntKind.wrap IntKind.i64 (i + (1 : Int))) (IntKind.wrap IntKind.i64 (m * (2 : Int))))) ∧ ((decide (i < sh)) = false → (R_ (m))))
def r04_Page_I0 (t : Int) (p : Int) (sh : Int) (i : Int) (m : Int) (r_ : Int) : Prop := 0 ≤ i ∧ i ≤ sh ∧ sh ≤ 20 ∧ m = 2 ^ i.toNat ∧ r_ = 2 ^ sh.toNat
theorem r04_Page_begin (t : Int) (p : Int) (sh : Int) : r04_Page_w t p sh (fun i' m' => r04_Page_I0 t p sh i' m' (r04_Page t p sh)) (fun r__ => r__ = (r04_Page t p sh)) := by
  unfold r04_Page_w
  try unfold r04_Page_I0
  refine ⟨fun hc => ?_, fun hc => ?_⟩
  · have e : r04_Right t p sh = false := by simpa using hc
    show (0 : Int) = r04_Page t p sh
    unfold r04_Page
    rw [e]; rfl
  · have e : r04_Right t p sh = true := by simpa using hc
    have e' := e
    simp only [r04_Right, Bool.and_eq_true, decide_eq_true_eq] at e'
    refine ⟨by omega, by omega, by omega, rfl, ?_⟩
    unfold r04_Page
    rw [e]; rfl
theorem r04_Page_step0 (t : Int) (p : Int) (sh : Int) (i : Int) (m : Int) {r_ : Int} (hI : r04_Page_I0 t p sh i m r_) : r04_Page_w0 t p sh i m (fun i' m' => r04_Page_I0 t p sh i' m' r_ ∧ lx ((sh - i').toNat, 0, 0) ((sh - i).toNat, 0, 0)) (fun r__ => r__ = r_) := by
  unfold r04_Page_I0 at hI
  unfold r04_Page_w0
  try unfold r04_Page_I0
  obtain ⟨h0, h1, h2, h3, hr⟩ := hI
  refine ⟨fun h => ?_, fun h => ?_⟩
  · simp only [decide_eq_true_eq] at h
    have e : (2 : Int) ^ (i + 1).toNat = 2 ^ i.toNat * 2 := by rw [show (i + 1).toNat = i.toNat + 1 by omega, Int.pow_succ]
    have hb : (2 : Int) ^ i.toNat ≤ 1048576 := by
      have h4 : (2 : Nat) ^ i.toNat ≤ 2 ^ 20 := Nat.pow_le_pow_right (by omega) (by omega)
      have h5 : ((2 ^ i.toNat : Nat) : Int) ≤ ((2 ^ 20 : Nat) : Int) := by exact_mod_cast h4
      simpa using h5
    have hb0 : (0 : Int) < 2 ^ i.toNat := Int.pow_pos (by omega)
    rw [w64 (n := i + 1) (by omega), w64 (by omega)]
    exact ⟨⟨by omega, by omega, h2, by rw [e, h3], hr⟩, lxo_⟩
  · simp only [decide_eq_false_iff_not] at h
    have e : i = sh := by omega
    subst e
    rw [hr]; exact h3
theorem r04_Page_ok : EntryOk Dg Tryz.prog 104 e_r04_Page :=
  ent_wp Dg T_r12_Has_ok (I := [1643000000004, 1643000000003, 1643000000001]) Tryz.func104 mix (B := bodyOf Tryz.f104) (by kernel_rfl) rfl (by kernel_rfl) 400
    fun p0 t p sh hb hp => ⟨[⟨none, [0,1,0,1,1,1], [.blk 0, .code [1,1,1,1]], [4, 3, 1], [.i .i64, .i .i64, .box 23 [.ic .i64 (t), .ic .i64 (p), .ic .i64 (sh)]]⟩], fun j => List.getD [appC (Hd.kd (⟨none, [0,1,0,1,1,1], [.blk 0, .code [1,1,1,1]], [4, 3, 1], [.i .i64, .i .i64, .box 23 [.ic .i64 (t), .ic .i64 (p), .ic .i64 (sh)]]⟩ : Hd Sg)) (fun i' m' => r04_Page_I0 t p sh i' m' (r04_Page t p sh))] j (fun _ => False), fun j => List.getD [appC (Hd.kd (⟨none, [0,1,0,1,1,1], [.blk 0, .code [1,1,1,1]], [4, 3, 1], [.i .i64, .i .i64, .box 23 [.ic .i64 (t), .ic .i64 (p), .ic .i64 (sh)]]⟩ : Hd Sg)) (fun i' m' => ((sh - i').toNat, 0, 0))] j (fun _ => (0, 0, 0)), by kernel_rfl, ⟨r04_Page_w t p sh (fun i' m' => r04_Page_I0 t p sh i' m' (r04_Page t p sh)) (fun r__ => r__ = (r04_Page t p sh)), fun _ _ _ => by kernel_rfl, r04_Page_begin t p sh ⟩, ⟨fun i m hI => ⟨r04_Page_w0 t p sh i m (fun i' m' => r04_Page_I0 t p sh i' m' (r04_Page t p sh) ∧ lx ((sh - i').toNat, 0, 0) ((sh - i).toNat, 0, 0)) (fun r__ => r__ = (r04_Page t p sh)), fun _ _ _ => by kernel_rfl, r04_Page_step0 t p sh i m hI⟩, trivial⟩⟩
def T_r04_Page : List (Nat × Entry Sg) := (104, e_r04_Page) :: T_r12_Has
theorem T_r04_Page_ok : TableOk Dg Tryz.prog T_r04_Page := TableOk.cons Dg r04_Page_ok T_r12_Has_ok
def r05_Size (sh : Int) (k : Int) : Int := (bif r05_Slots k == (0 : Int) || r04_Page (1 : Int) (4 : Int) sh == (0 : Int) then (0 : Int) else IntKind.wrap IntKind.i64 (IntKind.wrap IntKind.i64 (Int.tdiv (r04_Page (1 : Int) (4 : Int) sh) (r05_Slots k)) - Int.tmod (IntKind.wrap IntKind.i64 (Int.tdiv (r04_Page (1 : Int) (4 : Int) sh) (r05_Slots k))) (16 : Int)))
abbrev c_r05_Size : Ct Sg := ⟨none, false, [.i .i64, .i .i64], .i .i64⟩
def e_r05_Size : Entry Sg := entC c_r05_Size r05_Size (fun _ _ => [])
theorem r05_Size_ok : EntryOk Dg Tryz.prog 42 e_r05_Size :=
  ent_ok Dg T_r04_Page_ok (I := []) Tryz.func42 mix (B := bodyOf Tryz.f42) (by kernel_rfl) rfl (by kernel_rfl) 400
    fun _ sh k hb hp => ⟨(r05_Size sh k), (.br (r05_Slots k == (0 : Int) || r04_Page (1 : Int) (4 : Int) sh == (0 : Int)) .t (.need (r05_Slots k ≠ (0 : Int)) .t)), fun _ _ _ => by kernel_rfl, ⟨fun z0 => trivial, fun z0 => ⟨(by first | omega | (simp_all; done)), fun z1 => trivial⟩⟩, rfl⟩
def T_r05_Size : List (Nat × Entry Sg) := (42, e_r05_Size) :: T_r04_Page
theorem T_r05_Size_ok : TableOk Dg Tryz.prog T_r05_Size := TableOk.cons Dg r05_Size_ok T_r04_Page_ok
def r06_Of (t : Int) (p : Int) (sh : Int) (g : Int) (o : Int) : Int × Bool := (bif !r04_Right t p sh || decide (g < (0 : Int)) || decide (g ≥ p) || decide (o < (0 : Int)) || decide (o ≥ r04_Page t p sh) then ((0 : Int), false) else (IntKind.wrap IntKind.i64 (IntKind.wrap IntKind.i64 (IntKind.wrap IntKind.i64 (g + (1 : Int)) * r04_Page t p sh) + o), true))
abbrev c_r06_Of : Ct Sg := ⟨none, false, [.agg [.i .i64, .i .i64, .i .i64], .i .i64, .i .i64], .tup [.i .i64, .b]⟩
def e_r06_Of : Entry Sg := entC c_r06_Of r06_Of (fun _ _ _ _ _ => [])
theorem r06_Of_ok : EntryOk Dg Tryz.prog 164 e_r06_Of :=
  ent_ok Dg T_r05_Size_ok (I := []) Tryz.func164 mix (B := bodyOf Tryz.f164) (by kernel_rfl) rfl (by kernel_rfl) 400
    fun _ t p sh g o hb hp => ⟨(r06_Of t p sh g o), .t, fun _ _ _ => by kernel_rfl, trivial, rfl⟩
def T_r06_Of : List (Nat × Entry Sg) := (164, e_r06_Of) :: T_r05_Size
theorem T_r06_Of_ok : TableOk Dg Tryz.prog T_r06_Of := TableOk.cons Dg r06_Of_ok T_r05_Size_ok
def r06_At (t : Int) (p : Int) (sh : Int) (k : Int) (g : Int) (j : Int) : Int × Bool := (bif decide (j < (0 : Int)) || decide (j ≥ r05_Slots k) then ((0 : Int), false) else (Prod.fst (r06_Of t p sh g (IntKind.wrap IntKind.i64 (j * r05_Size sh k))), Prod.snd (r06_Of t p sh g (IntKind.wrap IntKind.i64 (j * r05_Size sh k)))))
abbrev c_r06_At : Ct Sg := ⟨none, false, [.agg [.i .i64, .i .i64, .i .i64], .i .i64, .i .i64, .i .i64], .tup [.i .i64, .b]⟩
def e_r06_At : Entry Sg := entC c_r06_At r06_At (fun _ _ _ _ _ _ => [])
theorem r06_At_ok : EntryOk Dg Tryz.prog 100 e_r06_At :=
  ent_ok Dg T_r06_Of_ok (I := []) Tryz.func100 mix (B := bodyOf Tryz.f100) (by kernel_rfl) rfl (by kernel_rfl) 400
    fun _ t p sh k g j hb hp => ⟨(r06_At t p sh k g j), .t, fun _ _ _ => by kernel_rfl, trivial, rfl⟩
def T_r06_At : List (Nat × Entry Sg) := (100, e_r06_At) :: T_r06_Of
theorem T_r06_At_ok : TableOk Dg Tryz.prog T_r06_At := TableOk.cons Dg r06_At_ok T_r06_Of_ok
end Go.Proofs.YtnddjnnakkiidaaGreat
namespace Go.Proofs.YtnddjnnakkiidaaGreat
open Go.Sl
def x_feet (t : Int) (p : Int) (sh : Int) (xs : List Int) : Bool := feet ⟨t, p, sh⟩ xs
abbrev c_x_feet : Ct Sg := ⟨none, false, [.agg [.i .i64, .i .i64, .i .i64, .ro [some .u32]]], .b⟩
def e_x_feet : Entry Sg := entC c_x_feet x_feet (fun t p sh xs => [AGood ⟨t, p, sh⟩ xs, (starts ⟨t, p, sh⟩ xs).2 = true])
def x_feet_w (t : Int) (p : Int) (sh : Int) (xs : List Int) (Q0 : Int → Int → Nat → List Int → Prop) (R_ : Bool → Prop) : Prop := (∀ r1 : List Int × Bool, r1 = (x_starts t p sh xs) → ((AGood { t := t, p := p, s := sh } xs) ∧ ((AGood { t := t, p := p, s := sh } xs) → (Q0 ((0 : Int)) ((0 : Int)) (List.length (Prod.fst r1)) (Prod.fst r1)))))
def x_feet_w0 (t : Int) (p : Int) (sh : Int) (xs : List Int) (i : Int) (n : Int) (n1 : Nat) (ls : List Int) (Q0 : Int → Int → Nat → List Int → Prop) (R_ : Bool → Prop) : Prop := (((decide (i < p)) = true → ((decide (IntKind.wrap IntKind.i64 (n + (1 : Int)) < (↑n1 : Int)) = true → (0 : Int) ≤ IntKind.wrap IntKind.i64 (n + (1 : Int)) ∧ IntKind.wrap IntKind.i64 (n + (1 : Int)) < (↑n1 : Int)) ∧ ((decide (IntKind.wrap IntKind.i64 (n + (1 : Int)) < (↑n1 : Int)) = true → (0 : Int) ≤ IntKind.wrap IntKind.i64 (n + (1 : Int)) ∧ IntKind.wrap IntKind.i64 (n + (1 : Int)) < (↑n1 : Int)) → (((decide (IntKind.wrap IntKind.i64 (n + (1 : Int)) < (↑n1 : Int)) && List.getD ls (Int.toNat (IntKind.wrap IntKind.i64 (n + (1 : Int)))) (0 : Int) == i) = true → (((0 : Int) ≤ IntKind.wrap IntKind.i64 (n + (1 : Int)) ∧ IntKind.wrap IntKind.i64 (n + (1 : Int)) < (↑n1 : Int)) ∧ (((0 : Int) ≤ IntKind.wrap IntKind.i64 (n + (1 : Int)) ∧ IntKind.wrap IntKind.i64 (n + (1 : Int)) < (↑n1 : Int)) → (((0 : Int) ≤ IntKind.wrap IntKind.i64 (n + (1 : Int)) ∧ IntKind.wrap IntKind.i64 (n + (1 : Int)) < (↑n1 : Int)) ∧ (((0 : Int) ≤ IntKind.wrap IntKind.i64 (n + (1 : Int)) ∧ IntKind.wrap IntKind.i64 (n + (1 : Int)) < (↑n1 : Int)) → ((AGood { t := t, p := p, s := sh } xs) ∧ ((AGood { t := t, p := p, s := sh } xs) → (((0 : Int) ≤ List.getD ls (Int.toNat (IntKind.wrap IntKind.i64 (n + (1 : Int)))) (0 : Int) ∧ List.getD ls (Int.toNat (IntKind.wrap IntKind.i64 (n + (1 : Int)))) (0 : Int) < p) ∧ (((0 : Int) ≤ List.getD ls (Int.toNat (IntKind.wrap IntKind.i64 (n + (1 : Int)))) (0 : Int) ∧ List.getD ls (Int.toNat (IntKind.wrap IntKind.i64 (n + (1 : Int)))) (0 : Int) < p) → (((i == IntKind.wrap IntKind.i64 (IntKind.wrap IntKind.i64 (List.getD ls (Int.toNat (IntKind.wrap IntKind.i64 (n + (1 : Int)))) (0 : Int) + Prod.fst (If.l (aInfo { t := t, p := p, s := sh } xs (List.getD ls (Int.toNat (IntKind.wrap IntKind.i64 (n + (1 : Int)))) (0 : Int))), If.c (aInfo { t := t, p := p, s := sh } xs (List.getD ls (Int.toNat (IntKind.wrap IntKind.i64 (n + (1 : Int)))) (0 : Int))))) - (1 : Int))) = true → (((0 : Int) ≤ IntKind.wrap IntKind.i64 (n + (1 : Int)) ∧ IntKind.wrap IntKind.i64 (n + (1 : Int)) < (↑n1 : Int)) ∧ (((0 : Int) ≤ IntKind.wrap IntKind.i64 (n + (1 : Int)) ∧ IntKind.wrap IntKind.i64 (n + (1 : Int)) < (↑n1 : Int)) → (((0 : Int) ≤ r07_Foot t p sh i ∧ r07_Foot t p sh i < (↑(List.length xs) : Int)) ∧ (((0 : Int) ≤ r07_Foot t p sh i ∧ r07_Foot t p sh i < (↑(List.length xs) : Int)) → (((List.getD xs (Int.toNat (r07_Foot t p sh i)) (0 : Int) != IntKind.wrap IntKind.u32 (IntKind.wrap IntKind.i64 (List.getD ls (Int.toNat (IntKind.wrap IntKind.i64 (n + (1 : Int)))) (0 : Int) + (1 : Int)))) = true → (R_ (false))) ∧ ((List.getD xs (Int.toNat (r07_Foot t p sh i)) (0 : Int) != IntKind.wrap IntKind.u32 (IntKind.wrap IntKind.i64 (List.getD ls (Int.toNat (IntKind.wrap IntKind.i64 (n + (1 : Int)))) (0 : Int) + (1 : Int)))) = false → (Q0 (IntKind.wrap IntKind.i64 (i + (1 : Int))) (IntKind.wrap IntKind.i64 (n + (1 : Int))) (n1) (ls))))))))) ∧ ((i == IntKind.wrap IntKind.i64 (IntKind.wrap IntKind.i64 (List.getD ls (Int.toNat (IntKind.wrap IntKind.i64 (n + (1 : Int)))) (0 : Int) + Prod.fst (If.l (aInfo { t := t, p := p, s := sh } xs (List.getD ls (Int.toNat (IntKind.wrap IntKind.i64 (n + (1 : Int)))) (0 : Int))), If.c (aInfo { t := t, p := p, s := sh } xs (List.getD ls (Int.toNat (IntKind.wrap IntKind.i64 (n + (1 : Int)))) (0 : Int))))) - (1 : Int))) = false → (((0 : Int) ≤ r07_Foot t p sh i ∧ r07_Foot t p sh i < (↑(List.length xs) : Int)) ∧ (((0 : Int) ≤ r07_Foot t p sh i ∧ r07_Foot t p sh i < (↑(List.length xs) : Int)) → (((List.getD xs (Int.toNat (r07_Foot t p sh i)) (0 : Int) != (0 : Int)) = true → (R_ (false))) ∧ ((List.getD xs (Int.toNat (r07_Foot t p sh i)) (0 : Int) != (0 : Int)) = false → (Q0 (IntKind.wrap IntKind.i64 (i + (1 : Int))) (IntKind.wrap IntKind.i64 (n + (1 : Int))) (n1) (ls))))))))))))))))) ∧ ((decide (IntKind.wrap IntKind.i64 (n + (1 : Int)) < (↑n1 : Int)) && List.getD ls (Int.toNat (IntKind.wrap IntKind.i64 (n + (1 : Int)))) (0 : Int) == i) = false → (((0 : Int) ≤ n ∧ n < (↑n1 : Int)) ∧ (((0 : Int) ≤ n ∧ n < (↑n1 : Int)) → (((0 : Int) ≤ n ∧ n < (↑n1 : Int)) ∧ (((0 : Int) ≤ n ∧ n < (↑n1 : Int)) → ((AGood { t := t, p := p, s := sh } xs) ∧ ((AGood { t := t, p := p, s := sh } xs) → (((0 : Int) ≤ List.getD ls (Int.toNat n) (0 : Int) ∧ List.getD ls (Int.toNat n) (0 : Int) < p) ∧ (((0 : Int) ≤ List.getD ls (Int.toNat n) (0 : Int) ∧ List.getD ls (Int.toNat n) (0 : Int) < p) → (((i == IntKind.wrap IntKind.i64 (IntKind.wrap IntKind.i64 (List.getD ls (Int.toNat n) (0 : Int) + Prod.fst (If.l (aInfo { t := t, p := p, s := sh } xs (List.getD ls (Int.toNat n) (0 : Int))), If.c (aInfo { t := t, p := p, s := sh } xs (List.getD ls (Int.toNat n) (0 : Int))))) - (1 : Int))) = true → (((0 : Int) ≤ n ∧ n < (↑n1 : Int)) ∧ (((0 : Int) ≤ n ∧ n < (↑n1 : Int)) → (((0 : Int) ≤ r07_Foot t p sh i ∧ r07_Foot t p sh i < (↑(List.length xs) : Int)) ∧ (((0 : Int) ≤ r07_Foot t p sh i ∧ r07_Foot t p sh i < (↑(List.length xs) : Int)) → (((List.getD xs (Int.toNat (r07_Foot t p sh i)) (0 : Int) != IntKind.wrap IntKind.u32 (IntKind.wrap IntKind.i64 (List.getD ls (Int.toNat n) (0 : Int) + (1 : Int)))) = true → (R_ (false))) ∧ ((List.getD xs (Int.toNat (r07_Foot t p sh i)) (0 : Int) != IntKind.wrap IntKind.u32 (IntKind.wrap IntKind.i64 (List.getD ls (Int.toNat n) (0 : Int) + (1 : Int)))) = false → (Q0 (IntKind.wrap IntKind.i64 (i + (1 : Int))) (n) (n1) (ls))))))))) ∧ ((i == IntKind.wrap IntKind.i64 (IntKind.wrap IntKind.i64 (List.getD ls (Int.toNat n) (0 : Int) + Prod.fst (If.l (aInfo { t := t, p := p, s := sh } xs (List.getD ls (Int.toNat n) (0 : Int))), If.c (aInfo { t := t, p := p, s := sh } xs (List.getD ls (Int.toNat n) (0 : Int))))) - (1 : Int))) = false → (((0 : Int) ≤ r07_Foot t p sh i ∧ r07_Foot t p sh i < (↑(List.length xs) : Int)) ∧ (((0 : Int) ≤ r07_Foot t p sh i ∧ r07_Foot t p sh i < (↑(List.length xs) : Int)) → (((List.getD xs (Int.toNat (r07_Foot t p sh i)) (0 : Int) != (0 : Int)) = true → (R_ (false))) ∧ ((List.getD xs (Int.toNat (r07_Foot t p sh i)) (0 : Int) != (0 : Int)) = false → (Q0 (IntKind.wrap IntKind.i64 (i + (1 : Int))) (n) (n1) (ls))))))))))))))))))))) ∧ ((decide (i < p)) = false → (R_ (true))))
def x_feet_I0 (t : Int) (p : Int) (sh : Int) (xs : List Int) (i : Int) (n : Int) (n1 : Nat) (ls : List Int) (r_ : Bool) : Prop := 0 ≤ i ∧ i ≤ p ∧ 0 ≤ n ∧ n < ls.length ∧ n1 = ls.length ∧ ls = (starts ⟨t, p, sh⟩ xs).1 ∧ feetF ⟨t, p, sh⟩ xs ls (p - i).toNat n.toNat = r_
theorem x_feet_begin (t : Int) (p : Int) (sh : Int) (xs : List Int) (hp0 : AGood ⟨t, p, sh⟩ xs) (hp1 : (starts ⟨t, p, sh⟩ xs).2 = true) (hl0 : xs.length ≤ 9223372036854775807) : x_feet_w t p sh xs (fun i' n' n1' ls' => x_feet_I0 t p sh xs i' n' n1' ls' (x_feet t p sh xs)) (fun r__ => r__ = (x_feet t p sh xs)) := by
  unfold x_feet_w
  try unfold x_feet_I0
  have hok := Cf.ok_iff.1 hp0.ok
  simp only at hok
  have hne := starts_ne (c := ⟨t, p, sh⟩) (xs := xs) (by show 1 ≤ p; omega) hp1
  rintro r1 rfl
  refine ⟨hp0, fun _ => ⟨by omega, by omega, by omega, ?_, rfl, rfl, ?_⟩⟩
  · show (0 : Int) < ((starts ⟨t, p, sh⟩ xs).1.length : Int)
    omega
  · show feetF ⟨t, p, sh⟩ xs (starts ⟨t, p, sh⟩ xs).1 (p - 0).toNat (Int.toNat 0) = feet ⟨t, p, sh⟩ xs
    unfold feet
    rw [show (p - 0).toNat = p.toNat by omega]
    rfl
theorem x_feet_step0 (t : Int) (p : Int) (sh : Int) (xs : List Int) (hp0 : AGood ⟨t, p, sh⟩ xs) (hp1 : (starts ⟨t, p, sh⟩ xs).2 = true) (hl0 : xs.length ≤ 9223372036854775807) (i : Int) (n : Int) (n1 : Nat) (ls : List Int) {r_ : Bool} (hI : x_feet_I0 t p sh xs i n n1 ls r_) : x_feet_w0 t p sh xs i n n1 ls (fun i' n' n1' ls' => x_feet_I0 t p sh xs i' n' n1' ls' r_ ∧ lx ((p - i').toNat, 0, 0) ((p - i).toNat, 0, 0)) (fun r__ => r__ = r_) := by
  unfold x_feet_I0 at hI
  unfold x_feet_w0
  try unfold x_feet_I0
  obtain ⟨h0, h1, h2, h3, h4, h5, hr⟩ := hI
  have hok := Cf.ok_iff.1 hp0.ok
  simp only at hok
  have hlen : (ls.length : Int) ≤ p + 1 := by
    have := starts_len (c := ⟨t, p, sh⟩) (xs := xs)
    rw [← h5] at this
    simp only at this
    omega
  refine ⟨fun h => ?_, fun h => ?_⟩
  · simp only [decide_eq_true_eq] at h
    have hft := pc_in hp0 (g := i) (k := 1) ⟨h0, h⟩ (by omega)
    have e : (p - i).toNat = (p - (i + 1)).toNat + 1 := by omega
    have ei : (p : Int) - (((p - (i + 1)).toNat + 1 : Nat) : Int) = i := by omega
    rw [e] at hr
    simp only [feetF] at hr
    rw [ei] at hr
    have hmem : ∀ q : Nat, q < ls.length → 0 ≤ ls.getD q 0 ∧ ls.getD q 0 < p := fun q hq => starts_in (c := ⟨t, p, sh⟩) (xs := xs) _ (by rw [← h5]; exact getD_memA hq)
    have hw : ∀ x : Int, 0 ≤ x → x < p → IntKind.i64.wrap (IntKind.i64.wrap (x + (aInfo ⟨t, p, sh⟩ xs x).l) - 1) = x + (aInfo ⟨t, p, sh⟩ xs x).l - 1 := fun x a b => by
      have h7 := iGet_bd (cel xs (Cf.info ⟨t, p, sh⟩ x))
      have h8 : 0 ≤ (aInfo ⟨t, p, sh⟩ xs x).l ∧ (aInfo ⟨t, p, sh⟩ xs x).l ≤ 1024 := ⟨h7.2.2.1, h7.2.2.2.1⟩
      rw [w64 (n := x + (aInfo ⟨t, p, sh⟩ xs x).l) (by omega), w64 (by omega)]
    have hv : ∀ x : Int, 0 ≤ x → x < p → IntKind.u32.wrap (IntKind.i64.wrap (x + 1)) = nv (x + 1) := fun x a b => by rw [w64 (n := x + 1) (by omega), wrapu_nv]
    have hn1 : decide (n + 1 < (n1 : Int)) = decide (n.toNat + 1 < ls.length) := by rw [h4]; apply decide_eq_decide.2; omega
    have en : (n + 1).toNat = n.toNat + 1 := by omega
    rw [w64 (n := n + 1) (by omega), w64 (n := i + 1) (by omega), r07_Foot_eq, hn1, en]
    refine ⟨fun hh => (by simp only [decide_eq_true_eq] at hh; omega), fun _ => ⟨fun hc => ?_, fun hc => ?_⟩⟩
    · rw [hc, cond_true] at hr
      have hlt : n.toNat + 1 < ls.length := by simp only [Bool.and_eq_true, decide_eq_true_eq] at hc; exact hc.1
      have hq : 0 ≤ n + 1 ∧ n + 1 < (n1 : Int) := by omega
      have hm := hmem (n.toNat + 1) hlt
      refine ⟨hq, fun _ => ⟨hq, fun _ => ⟨hp0, fun _ => ⟨hm, fun _ => ⟨fun hcc => ⟨hq, fun _ => ⟨hft, fun _ => ⟨fun hz => ?_, fun hz => ?_⟩⟩⟩, fun hcc => ⟨hft, fun _ => ⟨fun hz => ?_, fun hz => ?_⟩⟩⟩⟩⟩⟩⟩
      · have hcc' : (i == ls.getD (n.toNat + 1) 0 + (aInfo ⟨t, p, sh⟩ xs (ls.getD (n.toNat + 1) 0)).l - 1) = true := by rw [← hw _ hm.1 hm.2]; exact hcc
        have hz' : (cel xs (Cf.foot ⟨t, p, sh⟩ i) != nv (ls.getD (n.toNat + 1) 0 + 1)) = true := by rw [← hv _ hm.1 hm.2]; exact hz
        rw [hcc', cond_true, hz', cond_true] at hr; exact hr
      · have hcc' : (i == ls.getD (n.toNat + 1) 0 + (aInfo ⟨t, p, sh⟩ xs (ls.getD (n.toNat + 1) 0)).l - 1) = true := by rw [← hw _ hm.1 hm.2]; exact hcc
        have hz' : (cel xs (Cf.foot ⟨t, p, sh⟩ i) != nv (ls.getD (n.toNat + 1) 0 + 1)) = false := by rw [← hv _ hm.1 hm.2]; exact hz
        rw [hcc', cond_true, hz', cond_false] at hr
        exact ⟨⟨by omega, by omega, by omega, by omega, h4, h5, by rw [en]; exact hr⟩, lxo_⟩
      · have hcc' : (i == ls.getD (n.toNat + 1) 0 + (aInfo ⟨t, p, sh⟩ xs (ls.getD (n.toNat + 1) 0)).l - 1) = false := by rw [← hw _ hm.1 hm.2]; exact hcc
        have hz' : (cel xs (Cf.foot ⟨t, p, sh⟩ i) != 0) = true := hz
        rw [hcc', cond_false, hz', cond_true] at hr; exact hr
      · have hcc' : (i == ls.getD (n.toNat + 1) 0 + (aInfo ⟨t, p, sh⟩ xs (ls.getD (n.toNat + 1) 0)).l - 1) = false := by rw [← hw _ hm.1 hm.2]; exact hcc
        have hz' : (cel xs (Cf.foot ⟨t, p, sh⟩ i) != 0) = false := hz
        rw [hcc', cond_false, hz', cond_false] at hr
        exact ⟨⟨by omega, by omega, by omega, by omega, h4, h5, by rw [en]; exact hr⟩, lxo_⟩
    · rw [hc, cond_false] at hr
      have hlt : n.toNat < ls.length := by omega
      have hq : 0 ≤ n ∧ n < (n1 : Int) := by omega
      have hm := hmem (n.toNat) hlt
      refine ⟨hq, fun _ => ⟨hq, fun _ => ⟨hp0, fun _ => ⟨hm, fun _ => ⟨fun hcc => ⟨hq, fun _ => ⟨hft, fun _ => ⟨fun hz => ?_, fun hz => ?_⟩⟩⟩, fun hcc => ⟨hft, fun _ => ⟨fun hz => ?_, fun hz => ?_⟩⟩⟩⟩⟩⟩⟩
      · have hcc' : (i == ls.getD (n.toNat) 0 + (aInfo ⟨t, p, sh⟩ xs (ls.getD (n.toNat) 0)).l - 1) = true := by rw [← hw _ hm.1 hm.2]; exact hcc
        have hz' : (cel xs (Cf.foot ⟨t, p, sh⟩ i) != nv (ls.getD (n.toNat) 0 + 1)) = true := by rw [← hv _ hm.1 hm.2]; exact hz
        rw [hcc', cond_true, hz', cond_true] at hr; exact hr
      · have hcc' : (i == ls.getD (n.toNat) 0 + (aInfo ⟨t, p, sh⟩ xs (ls.getD (n.toNat) 0)).l - 1) = true := by rw [← hw _ hm.1 hm.2]; exact hcc
        have hz' : (cel xs (Cf.foot ⟨t, p, sh⟩ i) != nv (ls.getD (n.toNat) 0 + 1)) = false := by rw [← hv _ hm.1 hm.2]; exact hz
        rw [hcc', cond_true, hz', cond_false] at hr
        exact ⟨⟨by omega, by omega, by omega, by omega, h4, h5, hr⟩, lxo_⟩
      · have hcc' : (i == ls.getD (n.toNat) 0 + (aInfo ⟨t, p, sh⟩ xs (ls.getD (n.toNat) 0)).l - 1) = false := by rw [← hw _ hm.1 hm.2]; exact hcc
        have hz' : (cel xs (Cf.foot ⟨t, p, sh⟩ i) != 0) = true := hz
        rw [hcc', cond_false, hz', cond_true] at hr; exact hr
      · have hcc' : (i == ls.getD (n.toNat) 0 + (aInfo ⟨t, p, sh⟩ xs (ls.getD (n.toNat) 0)).l - 1) = false := by rw [← hw _ hm.1 hm.2]; exact hcc
        have hz' : (cel xs (Cf.foot ⟨t, p, sh⟩ i) != 0) = false := hz
        rw [hcc', cond_false, hz', cond_false] at hr
        exact ⟨⟨by omega, by omega, by omega, by omega, h4, h5, hr⟩, lxo_⟩
  · simp only [decide_eq_false_iff_not] at h
    rw [show (p - i).toNat = 0 by omega] at hr
    exact hr
theorem x_feet_ok : EntryOk Dg Tryz.prog 118 e_x_feet :=
  ent_wp Dg T_r06_At_ok (I := [1643000000006, 1643000000005, 1643000000003, 1643000000001]) Tryz.func118 mix (B := bodyOf Tryz.f118) (by kernel_rfl) rfl (by kernel_rfl) 400
    fun p0 t p sh xs hb hp => have hl0 : xs.length ≤ 9223372036854775807 := hb.1.2.2.2.1; have hp0 : AGood ⟨t, p, sh⟩ xs := hp _ (.head _); have hp1 : (starts ⟨t, p, sh⟩ xs).2 = true := hp _ (.tail _ (.head _)); ⟨[⟨none, [0,1,0,1,1,1], [.blk 0, .code [1,1,1,1]], [6, 5, 3, 1], [.i .i64, .i .i64, .own 3 [some .i64], .box 55 [.ic .i64 (t), .ic .i64 (p), .ic .i64 (sh), .roc [.ints .u32 (xs)]]]⟩], fun j => List.getD [appC (Hd.kd (⟨none, [0,1,0,1,1,1], [.blk 0, .code [1,1,1,1]], [6, 5, 3, 1], [.i .i64, .i .i64, .own 3 [some .i64], .box 55 [.ic .i64 (t), .ic .i64 (p), .ic .i64 (sh), .roc [.ints .u32 (xs)]]]⟩ : Hd Sg)) (fun i' n' n1' ls' => x_feet_I0 t p sh xs i' n' n1' ls' (x_feet t p sh xs))] j (fun _ => False), fun j => List.getD [appC (Hd.kd (⟨none, [0,1,0,1,1,1], [.blk 0, .code [1,1,1,1]], [6, 5, 3, 1], [.i .i64, .i .i64, .own 3 [some .i64], .box 55 [.ic .i64 (t), .ic .i64 (p), .ic .i64 (sh), .roc [.ints .u32 (xs)]]]⟩ : Hd Sg)) (fun i' n' n1' ls' => ((p - i').toNat, 0, 0))] j (fun _ => (0, 0, 0)), by kernel_rfl, ⟨x_feet_w t p sh xs (fun i' n' n1' ls' => x_feet_I0 t p sh xs i' n' n1' ls' (x_feet t p sh xs)) (fun r__ => r__ = (x_feet t p sh xs)), fun _ _ _ => by kernel_rfl, x_feet_begin t p sh xs hp0 hp1 hl0 ⟩, ⟨fun i n n1 ls hI => ⟨x_feet_w0 t p sh xs i n n1 ls (fun i' n' n1' ls' => x_feet_I0 t p sh xs i' n' n1' ls' (x_feet t p sh xs) ∧ lx ((p - i').toNat, 0, 0) ((p - i).toNat, 0, 0)) (fun r__ => r__ = (x_feet t p sh xs)), fun _ _ _ => by kernel_rfl, x_feet_step0 t p sh xs hp0 hp1 hl0 i n n1 ls hI⟩, trivial⟩⟩
def T_x_feet : List (Nat × Entry Sg) := (118, e_x_feet) :: T_r06_At
theorem T_x_feet_ok : TableOk Dg Tryz.prog T_x_feet := TableOk.cons Dg x_feet_ok T_r06_At_ok
end Go.Proofs.YtnddjnnakkiidaaGreat
namespace Go.Sl
open Go.Proofs.YtnddjnnakkiidaaGreat
structure Pt where
  k : Int
  a : Int
  s : Int
deriving DecidableEq
def pgB (sh : Int) : Int := 2 ^ sh.toNat
def szB (sh k : Int) : Int := pgB sh / kSlots k - pgB sh / kSlots k % 16
theorem kSlots_bd (k : Int) : 0 ≤ kSlots k ∧ kSlots k ≤ 32 := by
  by_cases h : 0 ≤ k ∧ k ≤ 8
  · rcases (by omega : k = 0 ∨ k = 1 ∨ k = 2 ∨ k = 3 ∨ k = 4 ∨ k = 5 ∨ k = 6 ∨ k = 7 ∨ k = 8) with rfl | rfl | rfl | rfl | rfl | rfl | rfl | rfl | rfl <;> decide
  · unfold kSlots
    by_cases h0 : 0 ≤ k
    · have : decide (0 ≤ k) = true := by simpa using h0
      rw [this, cond_true, List.getD_eq_getElem?_getD, List.getElem?_eq_none (by simp; omega)]; decide
    · have : decide (0 ≤ k) = false := by simpa using h0
      rw [this]; simp
theorem szB_all : ∀ a : Fin 11, ∀ k : Fin 9, r05_Size ((a.val + 10 : Nat) : Int) (k.val : Int) = szB ((a.val + 10 : Nat) : Int) (k.val : Int) ∧ 16 ≤ szB ((a.val + 10 : Nat) : Int) (k.val : Int) ∧ szB ((a.val + 10 : Nat) : Int) (k.val : Int) * kSlots (k.val : Int) ≤ pgB ((a.val + 10 : Nat) : Int) ∧ 1 ≤ kSlots (k.val : Int) ∧ 1024 ≤ pgB ((a.val + 10 : Nat) : Int) ∧ pgB ((a.val + 10 : Nat) : Int) ≤ 1048576 ∧ szB ((a.val + 10 : Nat) : Int) (k.val : Int) % 16 = 0 := by decide +kernel
theorem szB_ok {sh k : Int} (h : 10 ≤ sh ∧ sh ≤ 20) (hk : 0 ≤ k ∧ k ≤ 8) : r05_Size sh k = szB sh k ∧ 16 ≤ szB sh k ∧ szB sh k * kSlots k ≤ pgB sh ∧ 1 ≤ kSlots k ∧ 1024 ≤ pgB sh ∧ pgB sh ≤ 1048576 ∧ szB sh k % 16 = 0 := by
  have := szB_all ⟨(sh - 10).toNat, by omega⟩ ⟨k.toNat, by omega⟩
  have e1 : (((sh - 10).toNat + 10 : Nat) : Int) = sh := by omega
  have e2 : ((k.toNat : Nat) : Int) = k := by omega
  simp only [e1, e2] at this
  exact this
theorem Cf.right {c : Cf} (h : c.ok = true) : r04_Right c.t c.p c.s = true := by
  have := Cf.ok_iff.1 h
  simp only [r04_Right, Bool.and_eq_true, decide_eq_true_eq]; omega
theorem page_pgB {c : Cf} (h : c.ok = true) : r04_Page c.t c.p c.s = pgB c.s := by
  unfold r04_Page pgB; rw [Cf.right h]; rfl
theorem of_pgB {c : Cf} (h : c.ok = true) {g o : Int} (hg : 0 ≤ g ∧ g < c.p) (ho : 0 ≤ o ∧ o < pgB c.s) : (r06_Of c.t c.p c.s g o).1 = (g + 1) * pgB c.s + o ∧ (r06_Of c.t c.p c.s g o).2 = true := by
  have h1 := Cf.ok_iff.1 h
  have h2 := (szB_ok h1.2.2 (k := 0) (by omega)).2.2.2.2
  have e : (!r04_Right c.t c.p c.s || decide (g < (0 : Int)) || decide (g ≥ c.p) || decide (o < (0 : Int)) || decide (o ≥ r04_Page c.t c.p c.s)) = false := by
    rw [Cf.right h, page_pgB h]
    simp only [Bool.not_true, Bool.false_or, Bool.or_eq_false_iff, decide_eq_false_iff_not]
    omega
  unfold r06_Of
  rw [e, page_pgB h]
  have h3 : (g + 1) * pgB c.s ≤ 1024 * 1048576 := Int.mul_le_mul (by omega) (by omega) (by omega) (by omega)
  have h4 : 0 ≤ (g + 1) * pgB c.s := Int.mul_nonneg (by omega) (by omega)
  rw [cond_false, w64 (n := g + 1) (by omega), w64 (n := (g + 1) * pgB c.s) (by omega), w64 (by omega)]
  exact ⟨rfl, rfl⟩
theorem at_pgB {c : Cf} (h : c.ok = true) {k g j : Int} (hk : 0 ≤ k ∧ k ≤ 8) (hg : 0 ≤ g ∧ g < c.p) (hj : 0 ≤ j ∧ j < kSlots k) : (r06_At c.t c.p c.s k g j).1 = (g + 1) * pgB c.s + j * szB c.s k ∧ (r06_At c.t c.p c.s k g j).2 = true := by
  have h1 := Cf.ok_iff.1 h
  obtain ⟨e, e2, e3, e4, e5, e6, _⟩ := szB_ok h1.2.2 hk
  have e0 : (decide (j < (0 : Int)) || decide (j ≥ r05_Slots k)) = false := by
    rw [r05_Slots_eq]
    simp only [Bool.or_eq_false_iff, decide_eq_false_iff_not]; omega
  have f1 : 0 ≤ j * szB c.s k := Int.mul_nonneg hj.1 (by omega)
  have f2 : (j + 1) * szB c.s k ≤ kSlots k * szB c.s k := Int.mul_le_mul_of_nonneg_right (by omega) (by omega)
  have f3 : (j + 1) * szB c.s k = j * szB c.s k + szB c.s k := by rw [Int.add_mul, Int.one_mul]
  have f4 : kSlots k * szB c.s k = szB c.s k * kSlots k := Int.mul_comm _ _
  unfold r06_At
  rw [e0, e, cond_false, w64 (n := j * szB c.s k) (by omega)]
  obtain ⟨g1, g2⟩ := of_pgB h hg (o := j * szB c.s k) (by omega)
  exact ⟨g1, g2⟩
section
variable (c : Cf) (xs : List Int)
def slabKind (g j : Int) : Int := bif bitAt (cel xs (c.slots g)) j then 2 else bif bitAt (cel xs (c.taken g)) j then 4 else 3
def slabPt (g k j : Int) : Pt := ⟨slabKind c xs g j, (g + 1) * pgB c.s + j * szB c.s k, szB c.s k⟩
def slabF (g k : Int) : Nat → List Pt
  | 0 => []
  | n + 1 => slabF g k n ++ [slabPt c xs g k n]
theorem slabF_len (g k : Int) : ∀ n, (slabF c xs g k n).length = n
  | 0 => rfl
  | n + 1 => by rw [slabF, List.length_append, slabF_len g k n]; rfl
def slabRest (k : Int) : Int := pgB c.s - szB c.s k * kSlots k
def slabL (g k : Int) : List Pt := bif decide (0 < slabRest c k) then slabF c xs g k (kSlots k).toNat ++ [⟨5, (g + 1) * pgB c.s + szB c.s k * kSlots k, slabRest c k⟩] else slabF c xs g k (kSlots k).toNat
def partsOf (g : Int) : List Pt :=
  let i := aInfo c xs g
  bif i.k == 1 || i.k == 2 then [⟨i.k, (g + 1) * pgB c.s, i.l * pgB c.s⟩] else bif i.k == 3 then slabL c xs g i.c else []
theorem slabKind_of {g j : Int} {b1 b2 : Bool} (h1 : bitAt (cel xs (c.slots g)) j = b1) (h2 : bitAt (cel xs (c.taken g)) j = b2) : slabKind c xs g j = bif b1 then 2 else bif b2 then 4 else 3 := by unfold slabKind; rw [h1, h2]
def partsF : Nat → List Pt
  | 0 => []
  | n + 1 => partsF n ++ partsOf c xs n
theorem slabL_len (g k : Int) : (slabL c xs g k).length ≤ 33 := by
  have := (kSlots_bd k).2
  unfold slabL
  cases decide (0 < slabRest c k) with
  | true => simp only [cond_true, List.length_append, slabF_len, List.length_singleton]; omega
  | false => simp only [cond_false, slabF_len]; omega
theorem partsOf_len (g : Int) : (partsOf c xs g).length ≤ 33 := by
  unfold partsOf
  simp only
  cases (aInfo c xs g).k == 1 || (aInfo c xs g).k == 2 with
  | true => simp
  | false =>
    simp only [cond_false]
    cases (aInfo c xs g).k == 3 with
    | true => exact slabL_len c xs g _
    | false => simp
theorem partsF_len : ∀ n : Nat, (partsF c xs n).length ≤ 33 * n
  | 0 => Nat.le_refl _
  | n + 1 => by
    have h1 := partsF_len n
    have h2 := partsOf_len c xs n
    rw [partsF, List.length_append]; omega
theorem partsOf_one {g : Int} (h : ((aInfo c xs g).k == 1 || (aInfo c xs g).k == 2) = true) : partsOf c xs g = [⟨(aInfo c xs g).k, (g + 1) * pgB c.s, (aInfo c xs g).l * pgB c.s⟩] := by simp only [partsOf, h, cond_true]
theorem partsOf_slab {g : Int} (h : ((aInfo c xs g).k == 3) = true) : partsOf c xs g = slabL c xs g (aInfo c xs g).c := by
  have e : ((aInfo c xs g).k == 1 || (aInfo c xs g).k == 2) = false := by
    simp only [beq_iff_eq] at h; rw [h]; rfl
  simp only [partsOf, e, h, cond_true, cond_false]
theorem partsOf_none {g : Int} (h1 : ((aInfo c xs g).k == 1) = false) (h2 : ((aInfo c xs g).k == 2) = false) (h3 : ((aInfo c xs g).k == 3) = false) : partsOf c xs g = [] := by simp only [partsOf, h1, h2, h3, Bool.or_self, cond_false]
def partsL : List Pt := partsF c xs c.p.toNat
def blocksL : List Pt := (partsL c xs).filter fun x => x.k == 2
def rootsF (l : List Int) : Nat → Bool
  | 0 => true
  | k + 1 =>
    let a := cel xs (cRoot (8 - (k + 1 : Nat)))
    bif a != 0 && !l.contains a then false else rootsF l k
def rootsOk : Bool := rootsF xs ((blocksL c xs).map (·.a)) 8
def checkA : Int × Bool :=
  bif !c.ok || ((xs.length : Int) != c.cells) then (1, false) else
  bif !tiles c xs then (2, false) else
  bif !feet c xs then (3, false) else
  bif !apart c xs then (4, false) else
  bif !slotsOk c xs then (5, false) else
  bif !bins c xs then (6, false) else
  bif !racks c xs then (7, false) else
  bif !loose c xs then (8, false) else
  bif !counts c xs then (9, false) else
  bif !rootsOk c xs then (10, false) else (0, true)
def soundA : Bool := (checkA c xs).2
theorem blk_step (P : List Pt) {i : Nat} (h : i < P.length) : (P.take (i + 1)).filter (fun x => x.k == 2) = (P.take i).filter (fun x => x.k == 2) ++ bif (P.map (·.k)).getD i 0 == 2 then [⟨(P.map (·.k)).getD i 0, (P.map (·.a)).getD i 0, (P.map (·.s)).getD i 0⟩] else [] := by
  have e : ∀ f : Pt → Int, (P.map f).getD i 0 = f P[i] := fun f => by
    rw [List.getD_eq_getElem?_getD, List.getElem?_map, List.getElem?_eq_getElem h]; rfl
  rw [List.take_add_one, List.filter_append, e, e, e, List.getElem?_eq_getElem h]
  congr 1
theorem partsL_len : (partsL c xs).length ≤ 33 * c.p.toNat := partsF_len c xs _
theorem blocksL_len : (blocksL c xs).length ≤ 33 * c.p.toNat := Nat.le_trans (List.length_filter_le _ _) (partsL_len c xs)
def bdAll (xs : List Int) : Prop := ∀ v ∈ xs, bd32 v
theorem rootA_eq (k : Int) (h : bdAll xs) : bd32 (cel xs k) := by
  unfold cel
  rw [List.getD_eq_getElem?_getD]
  cases e : xs[k.toNat]? with
  | none => exact ⟨by decide, by decide⟩
  | some v => exact h v (List.mem_of_getElem? e)
def rootA (k : Int) : Int := cel xs (cRoot k)
def stateA : List Int × List Int × Int × Int × Int × Int × Int × Int × Int × Int × Bool :=
  bif soundA c xs then ((blocksL c xs).map (·.a), (blocksL c xs).map (·.s), rootA xs 0, rootA xs 1, rootA xs 2, rootA xs 3, rootA xs 4, rootA xs 5, rootA xs 6, rootA xs 7, true) else ([], [], 0, 0, 0, 0, 0, 0, 0, 0, false)
def soundB : Bool := c.ok && (xs.length == c.cells) && tiles c xs && feet c xs && apart c xs && slotsOk c xs && bins c xs && racks c xs && loose c xs && counts c xs && rootsOk c xs
theorem soundA_eq : soundA c xs = soundB c xs := by
  unfold soundA checkA soundB bne
  cases c.ok <;> cases (xs.length : Int) == c.cells <;> cases tiles c xs <;> cases feet c xs <;> cases apart c xs <;> cases slotsOk c xs <;> cases bins c xs <;> cases racks c xs <;> cases loose c xs <;> cases counts c xs <;> cases rootsOk c xs <;> rfl
end
end Go.Sl

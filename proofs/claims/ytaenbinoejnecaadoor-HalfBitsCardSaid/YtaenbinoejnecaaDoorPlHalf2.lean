/-
  DERIVED. Plain laws of the fields of words.
-/
import Derived.Test.YtaenbinoejnecaaDoorSlHalf2
namespace Go.Proofs.YtaenbinoejnecaaDoor
open Go Go.Sl

theorem wrap_u32_nat {n : Nat} (h : n < 4294967296) : IntKind.wrap IntKind.u32 (n : Int) = (n : Int) := by rw [IntKind.wrap_u32]; omega
theorem wrap_i64_id {n : Int} (h : -9223372036854775808 ≤ n ∧ n < 9223372036854775808) : IntKind.wrap IntKind.i64 n = n := by rw [IntKind.wrap_i64]; omega
theorem wrap_i64_nat {n : Nat} (h : n < 9223372036854775808) : IntKind.wrap IntKind.i64 (n : Int) = (n : Int) := wrap_i64_id (by omega)

theorem half_mask_eq {y : Nat} (h : y ≤ 64) : half_mask (y : Int) = ((2 ^ y - 1 : Nat) : Int) := by
  have key : ∀ y : Fin 65, half_mask ((y.val : Nat) : Int) = ((2 ^ y.val - 1 : Nat) : Int) := by decide +kernel
  exact key ⟨y, by omega⟩

theorem ofInt_nat (n : Nat) : BitVec.ofInt 64 (n : Int) = BitVec.ofNat 64 n := by
  apply BitVec.eq_of_toNat_eq
  simp

theorem half_field_true {x y : Nat} (h1 : 1 ≤ y) (h : x + y ≤ 64) : half_field (x : Int) (y : Int) = true := half_field_iff.2 (by omega)

theorem min_toNat {x : Nat} (h : x ≤ 64) : min (Int.toNat (x : Int)) 64 = x := by simp; omega

theorem half_Get_eq {W x y : Nat} (hW : W < 18446744073709551616) (h1 : 1 ≤ y) (h : x + y ≤ 64) : half_Get (W : Int) (x : Int) (y : Int) = ((W / 2 ^ x % 2 ^ y : Nat) : Int) := by
  have hf := half_field_true h1 h
  unfold half_Get
  rw [hf]
  simp only [Bool.not_true, cond_false]
  rw [min_toNat (by omega), half_mask_eq (by omega)]
  have e1 : Int.fdiv (W : Int) (2 ^ x) = ((W / 2 ^ x : Nat) : Int) := by
    rw [Int.fdiv_eq_ediv_of_nonneg _ (by exact Int.le_of_lt (Int.pow_pos (by omega)))]
    push_cast; rfl
  rw [e1, ofInt_nat, ofInt_nat, BitVec.toNat_and, BitVec.toNat_ofNat, BitVec.toNat_ofNat]
  have h2 : 2 ^ y ≤ 2 ^ 64 := Nat.pow_le_pow_right (by omega) (by omega)
  have h3 : W / 2 ^ x < 2 ^ 64 := Nat.lt_of_le_of_lt (Nat.div_le_self _ _) (by omega)
  have h4 : 0 < 2 ^ y := Nat.pow_pos (by omega)
  rw [Nat.mod_eq_of_lt h3, Nat.mod_eq_of_lt (by omega : 2 ^ y - 1 < 2 ^ 64), Nat.and_two_pow_sub_one_eq_mod]
  refine wrap_u64_nat ?_
  have := Nat.mod_lt (W / 2 ^ x) h4
  omega

theorem half_Put_no {w x y v : Int} (h : half_field x y = false ∨ (half_field x y = true ∧ half_mask y < v)) : half_Put w x y v = (0, false) := by
  unfold half_Put
  rcases h with h | ⟨h, h'⟩
  · rw [h]; rfl
  · rw [h]; simp [h']

/-- The word that 'half.Put' gives. -/
def putW (W x y V : Nat) : Nat := ((BitVec.ofNat 64 W &&& ~~~BitVec.ofNat 64 ((2 ^ y - 1) * 2 ^ x)) ||| BitVec.ofNat 64 (V * 2 ^ x)).toNat

theorem putW_lt (W x y V : Nat) : putW W x y V < 18446744073709551616 := BitVec.isLt _

theorem putW_bit {W x y V : Nat} (hW : W < 18446744073709551616) (h : x + y ≤ 64) (hV : V < 2 ^ y) (i : Nat) : (putW W x y V).testBit i = if x ≤ i ∧ i < x + y then V.testBit (i - x) else W.testBit i := by
  unfold putW
  rw [BitVec.testBit_toNat]
  simp only [BitVec.getLsbD_or, BitVec.getLsbD_and, BitVec.getLsbD_not, BitVec.getLsbD_ofNat, Nat.testBit_mul_two_pow, Nat.testBit_two_pow_sub_one]
  by_cases hi : i < 64
  · by_cases hx : x ≤ i
    · by_cases hy : i - x < y
      · have : x ≤ i ∧ i < x + y := by omega
        simp [hi, hx, hy, this]
      · have : ¬ (x ≤ i ∧ i < x + y) := by omega
        have hv : V.testBit (i - x) = false := Nat.testBit_lt_two_pow (Nat.lt_of_lt_of_le hV (Nat.pow_le_pow_right (by omega) (by omega)))
        rw [if_neg this]; simp [hi, hx, hy, hv]
    · have : ¬ (x ≤ i ∧ i < x + y) := by omega
      rw [if_neg this]; simp [hi, hx]
  · have h2 : W.testBit i = false := Nat.testBit_lt_two_pow (Nat.lt_of_lt_of_le hW (by
      have : 2 ^ 64 ≤ 2 ^ i := Nat.pow_le_pow_right (by omega) (by omega)
      omega))
    have : ¬ (x ≤ i ∧ i < x + y) := by omega
    rw [if_neg this]; simp [hi, h2]

theorem half_Put_eq {W x y V : Nat} (h1 : 1 ≤ y) (h : x + y ≤ 64) (hV : V < 2 ^ y) : half_Put (W : Int) (x : Int) (y : Int) (V : Int) = (((putW W x y V : Nat) : Int), true) := by
  have hf := half_field_true h1 h
  have hp : 2 ^ y ≤ 2 ^ 64 := Nat.pow_le_pow_right (by omega) (by omega)
  have hpos : 0 < 2 ^ y := Nat.pow_pos (by omega)
  unfold half_Put
  rw [hf, half_mask_eq (by omega)]
  have hd : decide ((V : Int) > ((2 ^ y - 1 : Nat) : Int)) = false := by simp; omega
  rw [hd]
  simp only [Bool.not_true, Bool.or_false, cond_false, Prod.mk.injEq, and_true]
  rw [min_toNat (by omega)]
  have e : ∀ n : Nat, n * 2 ^ x < 18446744073709551616 → IntKind.wrap IntKind.u64 ((n : Int) * 2 ^ x) = ((n * 2 ^ x : Nat) : Int) := fun n hn => by
    rw [show ((n : Int) * 2 ^ x) = ((n * 2 ^ x : Nat) : Int) by push_cast; rfl]
    exact wrap_u64_nat hn
  have b : ∀ n, n < 2 ^ y → n * 2 ^ x < 18446744073709551616 := fun n hn => by
    have h2 : n * 2 ^ x < 2 ^ y * 2 ^ x := Nat.mul_lt_mul_of_pos_right hn (Nat.pow_pos (by omega))
    rw [← Nat.pow_add] at h2
    have h3 : 2 ^ (y + x) ≤ 2 ^ 64 := Nat.pow_le_pow_right (by omega) (by omega)
    omega
  rw [e _ (b _ (by omega)), e _ (b _ hV), ofInt_nat, ofInt_nat, ofInt_nat]
  have hand : (BitVec.ofNat 64 W &&& ~~~BitVec.ofNat 64 ((2 ^ y - 1) * 2 ^ x)).toNat < 18446744073709551616 := BitVec.isLt _
  rw [wrap_u64_nat hand, ofInt_nat, BitVec.ofNat_toNat, BitVec.setWidth_eq]
  exact wrap_u64_nat (putW_lt W x y V)


theorem fld_bit (W x y i : Nat) : (W / 2 ^ x % 2 ^ y).testBit i = (decide (i < y) && W.testBit (x + i)) := by
  rw [Nat.testBit_mod_two_pow, Nat.testBit_div_two_pow, Nat.add_comm i x]

theorem put_got {W x y V : Nat} (hW : W < 18446744073709551616) (h : x + y ≤ 64) (hV : V < 2 ^ y) : putW W x y V / 2 ^ x % 2 ^ y = V := by
  apply Nat.eq_of_testBit_eq
  intro i
  rw [fld_bit, putW_bit hW h hV]
  by_cases hi : i < y
  · rw [if_pos (by omega), show x + i - x = i by omega]; simp [hi]
  · rw [Nat.testBit_lt_two_pow (Nat.lt_of_lt_of_le hV (Nat.pow_le_pow_right (by omega) (by omega : y ≤ i)))]; simp [hi]

theorem put_back {W x y V : Nat} (hW : W < 18446744073709551616) (h : x + y ≤ 64) (hV : V < 2 ^ y) : putW (putW W x y V) x y (W / 2 ^ x % 2 ^ y) = W := by
  apply Nat.eq_of_testBit_eq
  intro i
  rw [putW_bit (putW_lt W x y V) h (Nat.mod_lt _ (Nat.pow_pos (by omega))), putW_bit hW h hV]
  by_cases hi : x ≤ i ∧ i < x + y
  · rw [if_pos hi, fld_bit, show x + (i - x) = i by omega]
    have : i - x < y := by omega
    simp [this]
  · rw [if_neg hi, if_neg hi]

theorem put_apart {W x y V p q : Nat} (hW : W < 18446744073709551616) (h : x + y ≤ 64) (hV : V < 2 ^ y) (hd : x + y ≤ p ∨ p + q ≤ x) : putW W x y V / 2 ^ p % 2 ^ q = W / 2 ^ p % 2 ^ q := by
  apply Nat.eq_of_testBit_eq
  intro i
  rw [fld_bit, fld_bit]
  by_cases hi : i < q
  · rw [putW_bit hW h hV, if_neg (by omega)]
  · simp [hi]

theorem HalfBack_true {w x y v x2 y2 v2 : Int} (hw : 0 ≤ w ∧ w < 18446744073709551616) (hx : -9223372036854775808 ≤ x ∧ x < 9223372036854775808) (hy : -9223372036854775808 ≤ y ∧ y < 9223372036854775808) (hv : 0 ≤ v ∧ v < 18446744073709551616)
    (hx2 : -9223372036854775808 ≤ x2 ∧ x2 < 9223372036854775808) (hy2 : -9223372036854775808 ≤ y2 ∧ y2 < 9223372036854775808) : HalfBack w x y v x2 y2 v2 = true := by
  by_cases hok : half_field x y = true ∧ v ≤ half_mask y
  · obtain ⟨hf, hm⟩ := hok
    have hf' := half_field_iff.1 hf
    obtain ⟨W, rfl⟩ : ∃ n : Nat, w = n := ⟨w.toNat, by omega⟩
    obtain ⟨X, rfl⟩ : ∃ n : Nat, x = n := ⟨x.toNat, by omega⟩
    obtain ⟨Y, rfl⟩ : ∃ n : Nat, y = n := ⟨y.toNat, by omega⟩
    obtain ⟨V, rfl⟩ : ∃ n : Nat, v = n := ⟨v.toNat, by omega⟩
    rw [half_mask_eq (by omega)] at hm
    have hp : 0 < 2 ^ Y := Nat.pow_pos (by omega)
    have hV : V < 2 ^ Y := by omega
    have hU : W / 2 ^ X % 2 ^ Y < 2 ^ Y := Nat.mod_lt _ hp
    have e1 := half_Put_eq (W := W) (x := X) (y := Y) (V := V) (by omega) (by omega) hV
    have e2 := half_Get_eq (W := putW W X Y V) (x := X) (y := Y) (putW_lt _ _ _ _) (by omega) (by omega)
    rw [put_got (by omega) (by omega) hV] at e2
    have e3 := half_Get_eq (W := W) (x := X) (y := Y) (by omega) (by omega) (by omega)
    have e4 := half_Put_eq (W := putW W X Y V) (x := X) (y := Y) (V := W / 2 ^ X % 2 ^ Y) (by omega) (by omega) hU
    rw [put_back (by omega) (by omega) hV] at e4
    unfold HalfBack
    rw [e1]
    simp only [e2, e3, e4]
    simp only [Bool.not_true, cond_false, bne_self_eq_false, Bool.or_self, Bool.and_true]
    generalize hc : (decide (x2 < 0) || decide (x2 > 63) || decide (y2 < 1) || decide (y2 > IntKind.wrap IntKind.i64 (64 - x2)) || decide (x2 < IntKind.wrap IntKind.i64 ((X : Int) + Y)) && decide ((X : Int) < IntKind.wrap IntKind.i64 (x2 + y2))) = c
    cases c with
    | true => rfl
    | false =>
      simp only [Bool.or_eq_false_iff, Bool.and_eq_false_iff, decide_eq_false_iff_not, IntKind.wrap_i64] at hc
      obtain ⟨X2, rfl⟩ : ∃ n : Nat, x2 = n := ⟨x2.toNat, by omega⟩
      obtain ⟨Y2, rfl⟩ : ∃ n : Nat, y2 = n := ⟨y2.toNat, by omega⟩
      rw [cond_false, half_Get_eq (putW_lt _ _ _ _) (by omega) (by omega), half_Get_eq (by omega) (by omega) (by omega), put_apart (by omega) (by omega) hV (by omega)]
      simp
  · have e : half_Put w x y v = (0, false) := half_Put_no (by
      cases hf : half_field x y with
      | false => exact .inl rfl
      | true => exact .inr ⟨rfl, by
          exact Int.not_le.1 fun h => hok ⟨hf, h⟩⟩)
    unfold HalfBack
    rw [e]
    rfl
end Go.Proofs.YtaenbinoejnecaaDoor

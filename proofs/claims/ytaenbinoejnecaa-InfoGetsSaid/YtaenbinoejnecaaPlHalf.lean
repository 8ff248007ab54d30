/-
  DERIVED. Plain arithmetic of the fields of words: what half's functions come to.
-/
import Derived.Test.YtaenbinoejnecaaSlInfo
namespace Go.Proofs.Ytaenbinoejnecaa
open Go

theorem wrap_u64_nat {n : Nat} (h : n < 18446744073709551616) : IntKind.wrap IntKind.u64 (n : Int) = (n : Int) := by rw [IntKind.wrap_u64]; omega
theorem wrap_u32_nat {n : Nat} (h : n < 4294967296) : IntKind.wrap IntKind.u32 (n : Int) = (n : Int) := by rw [IntKind.wrap_u32]; omega
theorem wrap_i64_id {n : Int} (h : -9223372036854775808 ≤ n ∧ n < 9223372036854775808) : IntKind.wrap IntKind.i64 n = n := by rw [IntKind.wrap_i64]; omega
theorem wrap_i64_nat {n : Nat} (h : n < 9223372036854775808) : IntKind.wrap IntKind.i64 (n : Int) = (n : Int) := wrap_i64_id (by omega)

theorem half_mask_eq {y : Nat} (h : y ≤ 64) : half_mask (y : Int) = ((2 ^ y - 1 : Nat) : Int) := by
  have key : ∀ y : Fin 65, half_mask ((y.val : Nat) : Int) = ((2 ^ y.val - 1 : Nat) : Int) := by decide +kernel
  exact key ⟨y, by omega⟩

theorem ofInt_nat (n : Nat) : BitVec.ofInt 64 (n : Int) = BitVec.ofNat 64 n := by
  apply BitVec.eq_of_toNat_eq
  simp

theorem half_field_true {x y : Nat} (h1 : 1 ≤ y) (h : x + y ≤ 64) : half_field (x : Int) (y : Int) = true := half_field_iff.2 (by omega)

theorem min_toNat {x : Nat} (h : x ≤ 64) : min (Int.toNat (x : Int)) 64 = x := by simp; omega

theorem half_Get_eq {W x y : Nat} (hW : W < 18446744073709551616) (h1 : 1 ≤ y) (h : x + y ≤ 64) : half_Get (W : Int) (x : Int) (y : Int) = ((W / 2 ^ x % 2 ^ y : Nat) : Int) := by
  have hf := half_field_true h1 h
  unfold half_Get
  rw [hf]
  simp only [Bool.not_true, cond_false]
  rw [min_toNat (by omega), half_mask_eq (by omega)]
  have e1 : Int.fdiv (W : Int) (2 ^ x) = ((W / 2 ^ x : Nat) : Int) := by
    rw [Int.fdiv_eq_ediv_of_nonneg _ (by exact Int.le_of_lt (Int.pow_pos (by omega)))]
    push_cast; rfl
  rw [e1, ofInt_nat, ofInt_nat, BitVec.toNat_and, BitVec.toNat_ofNat, BitVec.toNat_ofNat]
  have h2 : 2 ^ y ≤ 2 ^ 64 := Nat.pow_le_pow_right (by omega) (by omega)
  have h3 : W / 2 ^ x < 2 ^ 64 := Nat.lt_of_le_of_lt (Nat.div_le_self _ _) (by omega)
  have h4 : 0 < 2 ^ y := Nat.pow_pos (by omega)
  rw [Nat.mod_eq_of_lt h3, Nat.mod_eq_of_lt (by omega : 2 ^ y - 1 < 2 ^ 64), Nat.and_two_pow_sub_one_eq_mod]
  refine wrap_u64_nat ?_
  have := Nat.mod_lt (W / 2 ^ x) h4
  omega

theorem half_Put_no {w x y v : Int} (h : half_field x y = false ∨ (half_field x y = true ∧ half_mask y < v)) : half_Put w x y v = (0, false) := by
  unfold half_Put
  rcases h with h | ⟨h, h'⟩
  · rw [h]; rfl
  · rw [h]; simp [h']

/-- The word that 'half.Put' gives. -/
def putW (W x y V : Nat) : Nat := ((BitVec.ofNat 64 W &&& ~~~BitVec.ofNat 64 ((2 ^ y - 1) * 2 ^ x)) ||| BitVec.ofNat 64 (V * 2 ^ x)).toNat

theorem putW_lt (W x y V : Nat) : putW W x y V < 18446744073709551616 := BitVec.isLt _

theorem putW_bit {W x y V : Nat} (hW : W < 18446744073709551616) (h : x + y ≤ 64) (hV : V < 2 ^ y) (i : Nat) : (putW W x y V).testBit i = if x ≤ i ∧ i < x + y then V.testBit (i - x) else W.testBit i := by
  unfold putW
  rw [BitVec.testBit_toNat]
  simp only [BitVec.getLsbD_or, BitVec.getLsbD_and, BitVec.getLsbD_not, BitVec.getLsbD_ofNat, Nat.testBit_mul_two_pow, Nat.testBit_two_pow_sub_one]
  by_cases hi : i < 64
  · by_cases hx : x ≤ i
    · by_cases hy : i - x < y
      · have : x ≤ i ∧ i < x + y := by omega
        simp [hi, hx, hy, this]
      · have : ¬ (x ≤ i ∧ i < x + y) := by omega
        have hv : V.testBit (i - x) = false := Nat.testBit_lt_two_pow (Nat.lt_of_lt_of_le hV (Nat.pow_le_pow_right (by omega) (by omega)))
        rw [if_neg this]; simp [hi, hx, hy, hv]
    · have : ¬ (x ≤ i ∧ i < x + y) := by omega
      rw [if_neg this]; simp [hi, hx]
  · have h2 : W.testBit i = false := Nat.testBit_lt_two_pow (Nat.lt_of_lt_of_le hW (by
      have : 2 ^ 64 ≤ 2 ^ i := Nat.pow_le_pow_right (by omega) (by omega)
      omega))
    have : ¬ (x ≤ i ∧ i < x + y) := by omega
    rw [if_neg this]; simp [hi, h2]

theorem half_Put_eq {W x y V : Nat} (h1 : 1 ≤ y) (h : x + y ≤ 64) (hV : V < 2 ^ y) : half_Put (W : Int) (x : Int) (y : Int) (V : Int) = (((putW W x y V : Nat) : Int), true) := by
  have hf := half_field_true h1 h
  have hp : 2 ^ y ≤ 2 ^ 64 := Nat.pow_le_pow_right (by omega) (by omega)
  have hpos : 0 < 2 ^ y := Nat.pow_pos (by omega)
  unfold half_Put
  rw [hf, half_mask_eq (by omega)]
  have hd : decide ((V : Int) > ((2 ^ y - 1 : Nat) : Int)) = false := by simp; omega
  rw [hd]
  simp only [Bool.not_true, Bool.or_false, cond_false, Prod.mk.injEq, and_true]
  rw [min_toNat (by omega)]
  have e : ∀ n : Nat, n * 2 ^ x < 18446744073709551616 → IntKind.wrap IntKind.u64 ((n : Int) * 2 ^ x) = ((n * 2 ^ x : Nat) : Int) := fun n hn => by
    rw [show ((n : Int) * 2 ^ x) = ((n * 2 ^ x : Nat) : Int) by push_cast; rfl]
    exact wrap_u64_nat hn
  have b : ∀ n, n < 2 ^ y → n * 2 ^ x < 18446744073709551616 := fun n hn => by
    have h2 : n * 2 ^ x < 2 ^ y * 2 ^ x := Nat.mul_lt_mul_of_pos_right hn (Nat.pow_pos (by omega))
    rw [← Nat.pow_add] at h2
    have h3 : 2 ^ (y + x) ≤ 2 ^ 64 := Nat.pow_le_pow_right (by omega) (by omega)
    omega
  rw [e _ (b _ (by omega)), e _ (b _ hV), ofInt_nat, ofInt_nat, ofInt_nat]
  have hand : (BitVec.ofNat 64 W &&& ~~~BitVec.ofNat 64 ((2 ^ y - 1) * 2 ^ x)).toNat < 18446744073709551616 := BitVec.isLt _
  rw [wrap_u64_nat hand, ofInt_nat, BitVec.ofNat_toNat, BitVec.setWidth_eq]
  exact wrap_u64_nat (putW_lt W x y V)

theorem putW_add {W x y V : Nat} (hW : W < 2 ^ x) (h : x + y ≤ 64) (hV : V < 2 ^ y) : putW W x y V = V * 2 ^ x + W := by
  have hW' : W < 18446744073709551616 := by
    have : 2 ^ x ≤ 2 ^ 64 := Nat.pow_le_pow_right (by omega) (by omega)
    omega
  apply Nat.eq_of_testBit_eq
  intro i
  rw [putW_bit hW' h hV, Nat.mul_comm, Nat.testBit_two_pow_mul_add _ hW]
  by_cases hi : i < x
  · rw [if_neg (by omega), if_pos hi]
  · rw [if_neg hi]
    by_cases hy : i < x + y
    · rw [if_pos (by omega)]
    · rw [if_neg (by omega)]
      rw [Nat.testBit_lt_two_pow (Nat.lt_of_lt_of_le hW (Nat.pow_le_pow_right (by omega) (by omega))),
        Nat.testBit_lt_two_pow (Nat.lt_of_lt_of_le hV (Nat.pow_le_pow_right (by omega) (by omega)))]
end Go.Proofs.Ytaenbinoejnecaa

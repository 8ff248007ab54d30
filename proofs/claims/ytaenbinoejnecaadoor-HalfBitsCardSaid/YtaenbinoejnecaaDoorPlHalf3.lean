/-
  DERIVED. Plain laws of the fields of words, as the document tells them.
-/
import Derived.Test.YtaenbinoejnecaaDoorSlHalf3
namespace Go.Proofs.YtaenbinoejnecaaDoor
open Go Go.Sl

theorem field_same (p q : Int) (hp : -9223372036854775808 ≤ p ∧ p < 9223372036854775808) (hq : -9223372036854775808 ≤ q ∧ q < 9223372036854775808) : r01_field p q = half_field p q := by
  apply Bool.eq_iff_iff.2
  rw [half_field_iff]
  simp only [r01_field, Bool.and_eq_true, decide_eq_true_eq, IntKind.wrap_i64]
  omega

theorem r01_bit_eq {W i : Nat} (_ : W < 18446744073709551616) (hi : i < 64) : r01_bit (W : Int) (i : Int) = ((W / 2 ^ i % 2 : Nat) : Int) := by
  unfold r01_bit
  rw [wrap_u64_nat (by omega), min_toNat (by omega)]
  have e1 : Int.fdiv (W : Int) (2 ^ i) = ((W / 2 ^ i : Nat) : Int) := by
    rw [Int.fdiv_eq_ediv_of_nonneg _ (by exact Int.le_of_lt (Int.pow_pos (by omega)))]
    push_cast; rfl
  rw [e1, Int.tmod_eq_emod_of_nonneg (Int.natCast_nonneg _)]
  push_cast; rfl

theorem step_word {m b : Nat} (hm : 2 * m + b < 18446744073709551616) : IntKind.wrap IntKind.u64 (IntKind.wrap IntKind.u64 ((m : Int) * 2) + (b : Int)) = ((2 * m + b : Nat) : Int) := by
  rw [show ((m : Int) * 2) = ((2 * m : Nat) : Int) by omega, wrap_u64_nat (by omega), show (((2 * m : Nat) : Int) + (b : Int)) = ((2 * m + b : Nat) : Int) by omega, wrap_u64_nat hm]

theorem bit_lt (n k : Nat) : n / 2 ^ k % 2 < 2 := Nat.mod_lt _ (by omega)

theorem gN_eq {W X : Nat} (hW : W < 18446744073709551616) : ∀ (k m : Nat), X + k ≤ 64 → (m + 1) * 2 ^ k ≤ 18446744073709551616 → gN (W : Int) (X : Int) k (m : Int) = ((m * 2 ^ k + W / 2 ^ X % 2 ^ k : Nat) : Int)
  | 0, m, _, _ => by simp [gN, Nat.mod_one]
  | k + 1, m, hk, hm => by
    have hp : 0 < 2 ^ k := Nat.pow_pos (by omega)
    have hb := bit_lt W (X + k)
    have hm2 : (2 * m + 2) * 2 ^ k ≤ 18446744073709551616 := by
      rw [Nat.pow_succ, Nat.mul_comm (2 ^ k) 2, ← Nat.mul_assoc] at hm
      rw [show 2 * m + 2 = (m + 1) * 2 by omega]; exact hm
    have hle : 2 * m + 2 ≤ (2 * m + 2) * 2 ^ k := Nat.le_mul_of_pos_right _ hp
    rw [gN, wrap_i64_id (by omega), show ((X : Int) + (k : Int)) = ((X + k : Nat) : Int) by omega, r01_bit_eq hW (by omega), step_word (by omega), gN_eq hW k _ (by omega)]
    · congr 1
      rw [Nat.pow_succ, Nat.mod_mul, Nat.div_div_eq_div_mul, ← Nat.pow_add, Nat.add_mul, Nat.mul_comm (W / 2 ^ (X + k) % 2)]
      rw [show 2 * m * 2 ^ k = m * (2 ^ k * 2) by rw [Nat.mul_comm 2 m, Nat.mul_assoc, Nat.mul_comm 2]]
      omega
    · refine Nat.le_trans (Nat.mul_le_mul_right _ ?_) hm2
      omega

theorem get_same {W X Y : Nat} (hW : W < 18446744073709551616) (h1 : 1 ≤ Y) (h : X + Y ≤ 64) : gN (W : Int) (X : Int) Y 0 = half_Get (W : Int) (X : Int) (Y : Int) := by
  have := gN_eq (X := X) hW Y 0 h (by
    rw [Nat.zero_add, Nat.one_mul]
    exact Nat.pow_le_pow_right (n := 2) (by omega) (by omega : Y ≤ 64))
  rw [half_Get_eq hW h1 h, show ((0 : Nat) : Int) = 0 by rfl] at *
  rw [this]; simp

theorem hB_eq {V : Nat} (hV : V < 18446744073709551616) : ∀ k : Nat, k ≤ 64 → hB (V : Int) k = decide (2 ^ (64 - k) ≤ V)
  | 0, _ => by simp [hB]; omega
  | k + 1, hk => by
    have e : (63 - (k : Int)) = ((63 - k : Nat) : Int) := by omega
    rw [hB, e, r01_bit_eq hV (by omega), hB_eq hV k (by omega)]
    have hp : 0 < 2 ^ (63 - k) := Nat.pow_pos (by omega)
    have e2 : 2 ^ (64 - k) = 2 * 2 ^ (63 - k) := by
      rw [show 64 - k = (63 - k) + 1 by omega, Nat.pow_succ, Nat.mul_comm]
    rw [e2, show 64 - (k + 1) = 63 - k by omega]
    generalize 2 ^ (63 - k) = c at hp
    apply Bool.eq_iff_iff.2
    simp only [Bool.or_eq_true, beq_iff_eq, decide_eq_true_eq]
    constructor
    · rintro (h | h)
      · have h' : V / c % 2 = 1 := by omega
        apply Classical.byContradiction
        intro hn
        rw [Nat.div_eq_of_lt (by omega)] at h'
        omega
      · omega
    · intro h
      by_cases h2 : 2 * c ≤ V
      · exact .inr h2
      · left
        have : V / c = 1 := by
          apply Nat.div_eq_of_lt_le <;> omega
        rw [this]; rfl

theorem pN_eq {W X Y V : Nat} (hW : W < 18446744073709551616) (hV : V < 2 ^ Y) (hxy : X + Y ≤ 64) : ∀ (k m : Nat), k ≤ 64 → (m + 1) * 2 ^ k ≤ 18446744073709551616 → pN (W : Int) (X : Int) (Y : Int) (V : Int) k (m : Int) = ((m * 2 ^ k + putW W X Y V % 2 ^ k : Nat) : Int)
  | 0, m, _, _ => by simp [pN, Nat.mod_one]
  | k + 1, m, hk, hm => by
    have hV' : V < 18446744073709551616 := by
      have : 2 ^ Y ≤ 2 ^ 64 := Nat.pow_le_pow_right (by omega) (by omega)
      omega
    have hp : 0 < 2 ^ k := Nat.pow_pos (by omega)
    have hb := bit_lt (putW W X Y V) k
    have hm2 : (2 * m + 2) * 2 ^ k ≤ 18446744073709551616 := by
      rw [Nat.pow_succ, Nat.mul_comm (2 ^ k) 2, ← Nat.mul_assoc] at hm
      rw [show 2 * m + 2 = (m + 1) * 2 by omega]; exact hm
    have hle : 2 * m + 2 ≤ (2 * m + 2) * 2 ^ k := Nat.le_mul_of_pos_right _ hp
    have key : (bif decide ((k : Int) ≥ (X : Int)) && decide ((k : Int) < IntKind.wrap IntKind.i64 ((X : Int) + (Y : Int))) then IntKind.wrap IntKind.u64 (IntKind.wrap IntKind.u64 ((m : Int) * 2) + r01_bit (V : Int) (IntKind.wrap IntKind.i64 ((k : Int) - (X : Int)))) else IntKind.wrap IntKind.u64 (IntKind.wrap IntKind.u64 ((m : Int) * 2) + r01_bit (W : Int) (k : Int))) = ((2 * m + putW W X Y V / 2 ^ k % 2 : Nat) : Int) := by
      rw [wrap_i64_id (n := (X : Int) + (Y : Int)) (by omega), ← Nat.toNat_testBit, putW_bit hW hxy hV]
      by_cases hc : X ≤ k ∧ k < X + Y
      · have hd : (decide ((k : Int) ≥ (X : Int)) && decide ((k : Int) < (X : Int) + (Y : Int))) = true := by simp; omega
        rw [hd, cond_true, if_pos hc, wrap_i64_id (n := (k : Int) - (X : Int)) (by omega), show ((k : Int) - (X : Int)) = ((k - X : Nat) : Int) by omega, r01_bit_eq hV' (by omega), Nat.toNat_testBit]
        have := bit_lt V (k - X)
        exact step_word (by omega)
      · have hd : (decide ((k : Int) ≥ (X : Int)) && decide ((k : Int) < (X : Int) + (Y : Int))) = false := by simp; omega
        rw [hd, cond_false, if_neg hc, r01_bit_eq hW (by omega), Nat.toNat_testBit]
        have := bit_lt W k
        exact step_word (by omega)
    rw [pN, key, pN_eq hW hV hxy k _ (by omega)]
    · congr 1
      rw [Nat.pow_succ, Nat.mod_mul, Nat.add_mul, Nat.mul_comm (putW W X Y V / 2 ^ k % 2)]
      rw [show 2 * m * 2 ^ k = m * (2 ^ k * 2) by rw [Nat.mul_comm 2 m, Nat.mul_assoc, Nat.mul_comm 2]]
      omega
    · refine Nat.le_trans (Nat.mul_le_mul_right _ ?_) hm2
      omega

theorem HalfFields_true {w p q v : Int} (hw : 0 ≤ w ∧ w < 18446744073709551616) (hp : -9223372036854775808 ≤ p ∧ p < 9223372036854775808) (hq : -9223372036854775808 ≤ q ∧ q < 9223372036854775808) (hv : 0 ≤ v ∧ v < 18446744073709551616) : HalfFields w p q v = true := by
  have hs := field_same p q hp hq
  have hg : half_Get w p q = r01_Get w p q := by
    unfold r01_Get
    rw [hs]
    cases hf : half_field p q with
    | false => simp [half_Get, hf]
    | true =>
      have hf' := half_field_iff.1 hf
      obtain ⟨W, rfl⟩ : ∃ n : Nat, w = n := ⟨w.toNat, by omega⟩
      obtain ⟨X, rfl⟩ : ∃ n : Nat, p = n := ⟨p.toNat, by omega⟩
      obtain ⟨Y, rfl⟩ : ∃ n : Nat, q = n := ⟨q.toNat, by omega⟩
      rw [cond_true, Int.toNat_natCast, get_same (by omega) (by omega) (by omega)]
  have hput : half_Put w p q v = r01_Put w p q v := by
    unfold r01_Put
    rw [hs]
    cases hf : half_field p q with
    | false => exact half_Put_no (.inl hf)
    | true =>
      have hf' := half_field_iff.1 hf
      obtain ⟨W, rfl⟩ : ∃ n : Nat, w = n := ⟨w.toNat, by omega⟩
      obtain ⟨X, rfl⟩ : ∃ n : Nat, p = n := ⟨p.toNat, by omega⟩
      obtain ⟨Y, rfl⟩ : ∃ n : Nat, q = n := ⟨q.toNat, by omega⟩
      obtain ⟨V, rfl⟩ : ∃ n : Nat, v = n := ⟨v.toNat, by omega⟩
      rw [cond_true, show (64 - (Y : Int)).toNat = 64 - Y by omega, hB_eq (by omega) (64 - Y) (by omega), show 64 - (64 - Y) = Y by omega]
      by_cases hV : 2 ^ Y ≤ V
      · rw [decide_eq_true hV, cond_true]
        refine half_Put_no (.inr ⟨hf, ?_⟩)
        rw [half_mask_eq (by omega)]
        have : 0 < 2 ^ Y := Nat.pow_pos (by omega)
        omega
      · rw [decide_eq_false hV, cond_false, half_Put_eq (by omega) (by omega) (by omega)]
        have := pN_eq (X := X) (Y := Y) (V := V) (W := W) (by omega) (by omega) (by omega) 64 0 (by omega) (by decide)
        rw [show ((0 : Nat) : Int) = 0 by rfl] at this
        rw [this]
        have hlt := putW_lt W X Y V
        rw [Nat.zero_mul, Nat.zero_add, Nat.mod_eq_of_lt (by omega)]
  unfold HalfFields
  rw [hg, hput]
  simp
end Go.Proofs.YtaenbinoejnecaaDoor

/-
  DERIVED. Plain laws of the bits of numbers: how many are 1, which is the lowest, which are 0; logarithms.
-/
import Derived.Test.YtaenbinoejnecaaDoorSlHalf4
namespace Go.Proofs.YtaenbinoejnecaaDoor
open Go Go.Sl
set_option maxRecDepth 100000

/-! ### Logarithms -/
def lenN (n : Nat) : Int := if n = 0 then 0 else (Nat.log2 n : Int) + 1
theorem lenN_tab : ∀ i : Fin 256, sAt SlHalf_bytes0 (i.val : Int) = lenN i.val := by decide +kernel
theorem lenN_div {n k : Nat} (h : 2 ^ k ≤ n) : lenN n = lenN (n / 2 ^ k) + k := by
  induction k generalizing n with
  | zero => simp
  | succ k ih =>
    have hp : 0 < 2 ^ k := Nat.pow_pos (by decide)
    rw [Nat.pow_succ] at h
    have h1 : 2 ^ k ≤ n / 2 := by omega
    have h2 := ih h1
    have e : n / 2 ^ (k + 1) = n / 2 / 2 ^ k := by rw [Nat.pow_succ, Nat.mul_comm, Nat.div_div_eq_div_mul]
    rw [e]
    have h3 : lenN n = lenN (n / 2) + 1 := by
      unfold lenN
      rw [if_neg (by omega), if_neg (by omega), Nat.log2_def, if_pos (by omega)]
      push_cast; rfl
    rw [h3, h2]; push_cast; omega
theorem tab_eq {z : Int} (h0 : 0 ≤ z) (h1 : z < 256) : sAt SlHalf_bytes0 (IntKind.wrap IntKind.u8 z) = lenN z.toNat := by
  have e : IntKind.wrap IntKind.u8 z = z := by rw [IntKind.wrap_u8]; omega
  rw [e]
  obtain ⟨m, rfl⟩ : ∃ m : Nat, z = m := ⟨z.toNat, by omega⟩
  rw [Int.toNat_natCast]
  exact lenN_tab ⟨m, by omega⟩
theorem fdiv_nat (z : Int) (k : Nat) (h0 : 0 ≤ z) (hk : 0 < k) : Int.fdiv z (k : Int) = ((z.toNat / k : Nat) : Int) := by
  rw [Int.fdiv_eq_ediv_of_nonneg _ (by omega)]
  obtain ⟨m, rfl⟩ : ∃ m : Nat, z = m := ⟨z.toNat, by omega⟩
  simp
theorem lenN_le {n : Nat} : lenN n ≤ n ∧ 0 ≤ lenN n := by
  unfold lenN
  split
  · omega
  · have := @Nat.log2_lt n n (by omega)
    have h := this.2 Nat.lt_two_pow_self
    omega
theorem lenN_b {n k : Nat} (h : n < 2 ^ k) : lenN n ≤ k := by
  unfold lenN
  split
  · omega
  · have := (@Nat.log2_lt n k (by omega)).2 h
    omega
theorem len64_tail {c x : Int} {n : Nat} (hx : x = (n : Int)) (hn : n < 65536) (hc : 0 ≤ c ∧ c ≤ 48) :
    (bif decide (x ≥ 256) then IntKind.wrap IntKind.i64 ((c + 8) + IntKind.wrap IntKind.i64 (sAt SlHalf_bytes0 (IntKind.wrap IntKind.u8 (Int.fdiv x 256)))) else IntKind.wrap IntKind.i64 (c + IntKind.wrap IntKind.i64 (sAt SlHalf_bytes0 (IntKind.wrap IntKind.u8 x)))) = c + lenN n := by
  subst hx
  have hb := lenN_b (n := n) (k := 16) (by omega)
  have hb0 := (lenN_le (n := n)).2
  by_cases h : 256 ≤ n
  · have e : decide ((n : Int) ≥ 256) = true := by simp; omega
    rw [e, cond_true]
    have e2 : Int.fdiv (n : Int) 256 = ((n / 256 : Nat) : Int) := fdiv_nat (n : Int) 256 (by omega) (by decide)
    rw [e2, tab_eq (by omega) (by omega)]
    have e3 : ((n / 256 : Nat) : Int).toNat = n / 256 := by omega
    rw [e3]
    have h8 := lenN_div (n := n) (k := 8) (by omega)
    have hb2 := (lenN_le (n := n / 256)).2
    have : (2 : Nat) ^ 8 = 256 := rfl
    rw [this] at h8
    rw [w64 (n := lenN (n / 256)) (by omega), w64 (by omega)]
    omega
  · have e : decide ((n : Int) ≥ 256) = false := by simp; omega
    rw [e, cond_false, tab_eq (by omega) (by omega), Int.toNat_natCast, w64 (n := lenN n) (by omega), w64 (by omega)]
theorem bits_Len64_eq {x : Int} (h0 : 0 ≤ x) (h1 : x < 18446744073709551616) : bits_Len64 x = lenN x.toNat := by
  obtain ⟨n, rfl⟩ : ∃ n : Nat, x = n := ⟨x.toNat, by omega⟩
  rw [Int.toNat_natCast]
  unfold bits_Len64
  have f32 : ∀ m : Nat, Int.fdiv (m : Int) 4294967296 = ((m / 4294967296 : Nat) : Int) := fun m => fdiv_nat (m : Int) 4294967296 (by omega) (by decide)
  have f16 : ∀ m : Nat, Int.fdiv (m : Int) 65536 = ((m / 65536 : Nat) : Int) := fun m => fdiv_nat (m : Int) 65536 (by omega) (by decide)
  by_cases hA : 4294967296 ≤ n
  · have e : decide ((n : Int) ≥ 4294967296) = true := by simp; omega
    rw [e, cond_true, f32]
    have h32 := lenN_div (n := n) (k := 32) (by omega)
    have : (2 : Nat) ^ 32 = 4294967296 := rfl
    rw [this] at h32
    generalize hm : n / 4294967296 = m at *
    have hmb : m < 4294967296 := by omega
    by_cases hB : 65536 ≤ m
    · have e : decide ((m : Int) ≥ 65536) = true := by simp; omega
      rw [e, cond_true, f16]
      have h16 := lenN_div (n := m) (k := 16) (by omega)
      have : (2 : Nat) ^ 16 = 65536 := rfl
      rw [this] at h16
      have := len64_tail (c := 48) (x := ((m / 65536 : Nat) : Int)) rfl (by omega) (by omega)
      rw [h32, h16]
      exact this.trans (by push_cast; omega)
    · have e : decide ((m : Int) ≥ 65536) = false := by simp; omega
      rw [e, cond_false]
      have := len64_tail (c := 32) (x := (m : Int)) rfl (by omega) (by omega)
      rw [h32]
      exact this.trans (by push_cast; omega)
  · have e : decide ((n : Int) ≥ 4294967296) = false := by simp; omega
    rw [e, cond_false]
    by_cases hB : 65536 ≤ n
    · have e : decide ((n : Int) ≥ 65536) = true := by simp; omega
      rw [e, cond_true, f16]
      have h16 := lenN_div (n := n) (k := 16) (by omega)
      have : (2 : Nat) ^ 16 = 65536 := rfl
      rw [this] at h16
      have := len64_tail (c := 16) (x := ((n / 65536 : Nat) : Int)) rfl (by omega) (by omega)
      rw [h16]
      exact this.trans (by push_cast; omega)
    · have e : decide ((n : Int) ≥ 65536) = false := by simp; omega
      rw [e, cond_false]
      have := len64_tail (c := 0) (x := (n : Int)) rfl (by omega) (by omega)
      have h2 := this.trans (Int.zero_add _)
      rw [← h2]
      by_cases h8 : 256 ≤ n
      · have e : decide ((n : Int) ≥ 256) = true := by simp; omega
        rw [e]; rfl
      · have e : decide ((n : Int) ≥ 256) = false := by simp; omega
        rw [e]; simp
theorem half_Log_eq {n : Int} (h : n ≤ 9223372036854775807) : half_Log n = logI n := by
  unfold half_Log
  by_cases h1 : n < 1
  · rw [logI_lt h1]; simp [h1]
  · have e : decide (n < 1) = false := by simp; omega
    rw [e, cond_false, wu64 (by omega), bits_Len64_eq (by omega) (by omega)]
    unfold lenN logI
    rw [if_neg (by omega), if_neg (by omega), w64]
    · omega
    · have := (@Nat.log2_lt n.toNat 63 (by omega)).2 (by omega)
      omega

/-! ### Bits -/
theorem ofInt32 (n : Nat) : BitVec.ofInt 32 (n : Int) = BitVec.ofNat 32 n := by apply BitVec.eq_of_toNat_eq; simp
theorem minNat {i : Nat} (h : i < 32) : min (Int.toNat (i : Int)) 32 = i := by simp; omega
theorem fdiv_pow {V i : Nat} : Int.fdiv (V : Int) (2 ^ i) = ((V / 2 ^ i : Nat) : Int) := by
  rw [Int.fdiv_eq_ediv_of_nonneg _ (by exact Int.le_of_lt (Int.pow_pos (by omega)))]
  push_cast; rfl
theorem r01_Bit_eq {V i : Nat} (hi : i < 32) : r01_Bit (V : Int) (i : Int) = V.testBit i := by
  unfold r01_Bit
  have e1 : decide ((i : Int) ≥ 0) = true := by simp
  have e2 : decide ((i : Int) < 32) = true := by simp; omega
  rw [e1, e2, Bool.true_and, Bool.true_and, wrap_u64_nat (by omega), minNat hi, fdiv_pow, Int.tmod_eq_emod_of_nonneg (Int.natCast_nonneg _), Nat.testBit_eq_decide_div_mod_eq]
  apply Bool.eq_iff_iff.2
  rw [beq_iff_eq, decide_eq_true_eq]
  omega
theorem zeroAt_eq {V i : Nat} (hV : V < 4294967296) (hi : i < 32) : zeroAt (V : Int) i = !V.testBit i := by
  unfold zeroAt
  rw [minNat hi, fdiv_pow, Nat.testBit_eq_decide_div_mod_eq]
  have h3 : V / 2 ^ i < 2 ^ 32 := Nat.lt_of_le_of_lt (Nat.div_le_self _ _) (by omega)
  have e : (BitVec.ofInt 32 ((V / 2 ^ i : Nat) : Int) &&& BitVec.ofInt 32 1).toNat = V / 2 ^ i % 2 := by
    rw [ofInt32, BitVec.toNat_and, BitVec.toNat_ofNat, Nat.mod_eq_of_lt h3]
    show _ &&& 1 = _
    rw [Nat.and_one_is_mod]
  rw [e]
  have := Nat.mod_lt (V / 2 ^ i) (show 2 > 0 by omega)
  rw [wrap_u32_nat (by omega)]
  apply Bool.eq_iff_iff.2
  simp only [beq_iff_eq, Bool.not_eq_true', decide_eq_false_iff_not]
  omega
theorem free_same {V : Nat} (hV : V < 4294967296) (n : Int) : half_Free (V : Int) n = r01_Free (V : Int) n := by
  unfold half_Free r01_Free freeN
  congr 1
  apply List.filter_congr
  intro i hi
  have hi' : i < 32 := by have := List.mem_range.1 hi; omega
  rw [zeroAt_eq hV hi', r01_Bit_eq hi']

/-- How many of the lowest bits are 1. -/
def cb (V : Nat) : Nat → Nat
  | 0 => 0
  | k + 1 => (V.testBit k).toNat + cb V k
theorem cb_le (V : Nat) : ∀ k, cb V k ≤ k
  | 0 => Nat.le_refl _
  | k + 1 => by
    have := cb_le V k
    have := Bool.toNat_le (V.testBit k)
    simp only [cb]; omega
theorem oN_eq {V : Nat} : ∀ (k m : Nat), k ≤ 32 → oN (V : Int) k (m : Int) + (cb V (32 - k) : Int) = (m : Int) + (cb V 32 : Int)
  | 0, m, _ => rfl
  | k + 1, m, hk => by
    have e : (31 - (k : Int)) = ((31 - k : Nat) : Int) := by omega
    have hc : cb V (32 - k) = (V.testBit (31 - k)).toNat + cb V (31 - k) := by
      rw [show 32 - k = (31 - k) + 1 by omega]; rfl
    rw [oN, e, r01_Bit_eq (by omega), show 32 - (k + 1) = 31 - k by omega]
    cases hb : V.testBit (31 - k) with
    | true =>
      rw [hb] at hc
      have := oN_eq (V := V) k (m + 1) (by omega)
      simp only [cond_true, Bool.toNat_true] at hc ⊢
      rw [show ((m : Int) + 1) = ((m + 1 : Nat) : Int) by omega]
      omega
    | false =>
      rw [hb] at hc
      have := oN_eq (V := V) k m (by omega)
      simp only [cond_false, Bool.toNat_false] at hc ⊢
      omega
theorem cb_byte (V k : Nat) : cb V (k + 8) = cb (V / 2 ^ k % 256) 8 + cb V k := by
  have h : ∀ j, j < 8 → (V / 2 ^ k % 256).testBit j = V.testBit (k + j) := fun j hj => by
    rw [show (256 : Nat) = 2 ^ 8 by rfl, Nat.testBit_mod_two_pow, Nat.testBit_div_two_pow, Nat.add_comm j k]
    simp [hj]
  simp only [cb]
  rw [h 7 (by omega), h 6 (by omega), h 5 (by omega), h 4 (by omega), h 3 (by omega), h 2 (by omega), h 1 (by omega), h 0 (by omega)]
  simp only [Nat.add_zero]
  omega
theorem pop_tab : ∀ i : Fin 256, sAt SlHalf4_bytes0 (i.val : Int) = (cb i.val 8 : Int) := by decide +kernel
theorem pop_nat {b : Nat} (h : b < 256) : sAt SlHalf4_bytes0 (b : Int) = (cb b 8 : Int) := pop_tab ⟨b, h⟩
theorem and255_eq (m : Nat) (hm : m < 4294967296) : IntKind.u32.wrap ((BitVec.ofInt 32 (m : Int) &&& BitVec.ofInt 32 255).toNat : Int) = ((m % 256 : Nat) : Int) := by
  have e : (BitVec.ofInt 32 (m : Int) &&& BitVec.ofInt 32 255).toNat = m % 256 := by
    rw [ofInt32, BitVec.toNat_and, BitVec.toNat_ofNat, Nat.mod_eq_of_lt hm]
    show m &&& (2 ^ 8 - 1) = _
    rw [Nat.and_two_pow_sub_one_eq_mod]
  rw [e, wrap_u32_nat (by omega)]
theorem bits_Ones_eq {V : Nat} (hV : V < 4294967296) : bits_Ones (V : Int) = (cb V 32 : Int) := by
  have c3 : cb V 32 = cb (V / 2 ^ 24 % 256) 8 + cb V 24 := cb_byte V 24
  have c2 : cb V 24 = cb (V / 2 ^ 16 % 256) 8 + cb V 16 := cb_byte V 16
  have c1 : cb V 16 = cb (V / 2 ^ 8 % 256) 8 + cb V 8 := cb_byte V 8
  have c0 : cb V 8 = cb (V / 2 ^ 0 % 256) 8 + cb V 0 := cb_byte V 0
  have z : cb V 0 = 0 := rfl
  have b3 := cb_le (V / 2 ^ 24 % 256) 8
  have b2 := cb_le (V / 2 ^ 16 % 256) 8
  have b1 := cb_le (V / 2 ^ 8 % 256) 8
  have b0 := cb_le (V / 2 ^ 0 % 256) 8
  have f : ∀ k : Nat, 0 < k → Int.fdiv (V : Int) (k : Int) = ((V / k : Nat) : Int) := fun k hk => by
    rw [fdiv_nat _ _ (by omega) hk, Int.toNat_natCast]
  have f3 := f 16777216 (by omega)
  have f2 := f 65536 (by omega)
  have f1 := f 256 (by omega)
  have h3 : V / 16777216 < 256 := by omega
  unfold bits_Ones
  rw [show (16777216 : Int) = ((16777216 : Nat) : Int) by rfl, show (65536 : Int) = ((65536 : Nat) : Int) by rfl, show Int.fdiv (V : Int) (256 : Int) = Int.fdiv (V : Int) ((256 : Nat) : Int) by rfl, f3, f2, f1]
  rw [and255_eq _ (by omega), and255_eq _ (by omega), and255_eq _ hV, pop_nat h3, pop_nat (by omega), pop_nat (by omega), pop_nat (by omega)]
  have g3 : cb (V / 2 ^ 24 % 256) 8 = cb (V / 16777216) 8 := by rw [show (2 : Nat) ^ 24 = 16777216 by rfl, Nat.mod_eq_of_lt h3]
  have g2 : cb (V / 2 ^ 16 % 256) 8 = cb (V / 65536 % 256) 8 := rfl
  have g1 : cb (V / 2 ^ 8 % 256) 8 = cb (V / 256 % 256) 8 := rfl
  have g0 : cb (V / 2 ^ 0 % 256) 8 = cb (V % 256) 8 := by rw [Nat.pow_zero, Nat.div_one]
  simp only [IntKind.wrap_u8]
  rw [w64 (by omega)]
  omega
theorem half_Ones_eq {V : Nat} (hV : V < 4294967296) : half_Ones (V : Int) = (cb V 32 : Int) := bits_Ones_eq hV
theorem r01_Ones_eq {V : Nat} : r01_Ones (V : Int) = (cb V 32 : Int) := by
  have := oN_eq (V := V) 32 0 (by omega)
  simp only [Nat.sub_self, cb, Int.natCast_zero, Int.add_zero, Int.zero_add] at this
  exact this
theorem free_len (V : Nat) : ∀ k : Nat, k ≤ 32 → ((List.range k).filter (fun (j : Nat) => !r01_Bit (V : Int) (j : Int))).length + cb V k = k
  | 0, _ => rfl
  | k + 1, hk => by
    have ih := free_len V k (by omega)
    rw [frange_snoc, List.length_append, cb, r01_Bit_eq (by omega)]
    cases V.testBit k with
    | true => simp; omega
    | false => simp; omega

/-! ### The lowest one -/
theorem odd_part : ∀ V : Nat, 0 < V → ∃ k q, V = 2 ^ k * (2 * q + 1) := by
  intro V
  induction V using Nat.strongRecOn with
  | _ V ih =>
    intro h
    by_cases ho : V % 2 = 1
    · exact ⟨0, V / 2, by omega⟩
    · obtain ⟨k, q, e⟩ := ih (V / 2) (by omega) (by omega)
      refine ⟨k + 1, q, ?_⟩
      rw [Nat.pow_succ, Nat.mul_comm (2 ^ k) 2, Nat.mul_assoc, ← e]
      omega
theorem low_bit (k q i : Nat) : (2 ^ k * (2 * q + 1)).testBit i = if i < k then false else (2 * q + 1).testBit (i - k) := by
  have := Nat.testBit_two_pow_mul_add (i := k) (b := 0) (2 * q + 1) (Nat.pow_pos (by omega)) i
  rw [Nat.add_zero] at this
  rw [this]
  simp
theorem and_neg {k q : Nat} (hV : 2 ^ k * (2 * q + 1) < 4294967296) : (2 ^ k * (2 * q + 1)) &&& (2 ^ 32 - 2 ^ k * (2 * q + 1)) = 2 ^ k := by
  have hp : 0 < 2 ^ k := Nat.pow_pos (by omega)
  have hVp : 0 < 2 ^ k * (2 * q + 1) := Nat.mul_pos hp (by omega)
  have hk : k < 32 := by
    rcases Nat.lt_or_ge k 32 with h | h
    · exact h
    · have h1 : 2 ^ 32 ≤ 2 ^ k := Nat.pow_le_pow_right (by omega) h
      have h2 : 2 ^ k ≤ 2 ^ k * (2 * q + 1) := Nat.le_mul_of_pos_right _ (by omega)
      omega
  have e1 : 2 ^ k * (2 * q + 1) = (2 ^ k * (2 * q) + (2 ^ k - 1)) + 1 := by rw [Nat.mul_add, Nat.mul_one]; omega
  apply Nat.eq_of_testBit_eq
  intro i
  rw [Nat.testBit_and, low_bit]
  have e2 : (2 ^ 32 - 2 ^ k * (2 * q + 1)).testBit i = (decide (i < 32) && !(2 ^ k * (2 * q) + (2 ^ k - 1)).testBit i) := by
    rw [e1]
    exact Nat.testBit_two_pow_sub_succ (by omega) i
  rw [e2, Nat.testBit_two_pow_mul_add _ (by omega), Nat.testBit_two_pow]
  by_cases h : i < k
  · simp [h]; omega
  · simp only [if_neg h]
    by_cases hik : i = k
    · subst hik
      simp [hk]
    · have e3 : (2 * q + 1).testBit (i - k) = (2 * q).testBit (i - k) := by
        rw [show i - k = (i - k - 1) + 1 by omega, Nat.testBit_succ, Nat.testBit_succ, show (2 * q + 1) / 2 = 2 * q / 2 by omega]
      rw [e3]
      have : ¬ k = i := fun e => hik e.symm
      cases (2 * q).testBit (i - k) <;> simp [this]
theorem lN_eq {V k : Nat} (hk : V.testBit k = true) (hk32 : k < 32) (hlow : ∀ i, i < k → V.testBit i = false) : ∀ j : Nat, j ≤ k → lN (V : Int) (32 - (k - j)) = (k : Int)
  | 0, _ => by
    rw [show 32 - (k - 0) = (31 - k) + 1 by omega, lN, show (31 - ((31 - k : Nat) : Int)) = (k : Int) by omega, r01_Bit_eq hk32, hk]; rfl
  | j + 1, hj => by
    have h1 : k - (j + 1) < k := by omega
    rw [show 32 - (k - (j + 1)) = (32 - (k - j)) + 1 by omega, lN, show (31 - ((32 - (k - j) : Nat) : Int)) = ((k - (j + 1) : Nat) : Int) by omega, r01_Bit_eq (by omega), hlow _ h1, cond_false]
    exact lN_eq hk hk32 hlow j (by omega)
theorem tz_tab : ∀ k : Fin 32, IntKind.wrap IntKind.i64 (List.getD tab32 (Int.toNat (Int.fdiv (IntKind.wrap IntKind.u32 (((2 ^ k.val : Nat) : Int) * 125613361)) 134217728)) 0) = (k.val : Int) := by decide +kernel
theorem lowest_eq {V : Nat} (h0 : 0 < V) (hV : V < 4294967296) :
    IntKind.wrap IntKind.i64 (List.getD tab32 (Int.toNat (Int.fdiv (IntKind.wrap IntKind.u32 (IntKind.wrap IntKind.u32 (↑(BitVec.toNat (BitVec.ofInt 32 (V : Int) &&& BitVec.ofInt 32 (IntKind.wrap IntKind.u32 (0 - (V : Int))))) : Int) * 125613361)) 134217728)) 0) = r01_Lowest (V : Int) := by
  obtain ⟨k, q, e⟩ := odd_part V h0
  have hk : k < 32 := by
    rcases Nat.lt_or_ge k 32 with h | h
    · exact h
    · have h1 : 2 ^ 32 ≤ 2 ^ k := Nat.pow_le_pow_right (by omega) h
      have h2 : 2 ^ k ≤ 2 ^ k * (2 * q + 1) := Nat.le_mul_of_pos_right _ (by omega)
      omega
  have hneg : IntKind.wrap IntKind.u32 (0 - (V : Int)) = ((2 ^ 32 - V : Nat) : Int) := by rw [IntKind.wrap_u32]; omega
  have ha : (BitVec.ofInt 32 (V : Int) &&& BitVec.ofInt 32 ((2 ^ 32 - V : Nat) : Int)).toNat = 2 ^ k := by
    rw [ofInt32, ofInt32, BitVec.toNat_and, BitVec.toNat_ofNat, BitVec.toNat_ofNat, Nat.mod_eq_of_lt (by omega), Nat.mod_eq_of_lt (by omega), e]
    exact and_neg (by omega)
  have hpk : 2 ^ k ≤ 2 ^ 31 := Nat.pow_le_pow_right (by omega) (by omega)
  rw [hneg, ha, wrap_u32_nat (by omega)]
  have h1 := tz_tab ⟨k, hk⟩
  refine h1.trans ?_
  unfold r01_Lowest
  have hb : V.testBit k = true := by rw [e, low_bit, if_neg (by omega), Nat.sub_self]; simp
  have hl : ∀ i, i < k → V.testBit i = false := fun i hi => by rw [e, low_bit, if_pos hi]
  have := lN_eq hb hk hl k (Nat.le_refl _)
  rw [Nat.sub_self, Nat.sub_zero] at this
  exact this.symm
theorem lowest_zero : r01_Lowest 0 = -1 := by decide +kernel

theorem HalfBits_true {v n : Int} (hv : 0 ≤ v ∧ v < 4294967296) (hn : n ≤ 9223372036854775807) : HalfBits v n = true := by
  obtain ⟨V, rfl⟩ : ∃ V : Nat, v = V := ⟨v.toNat, by omega⟩
  have hV : V < 4294967296 := by omega
  have ho : (half_Ones (V : Int) == r01_Ones (V : Int)) = true := by rw [half_Ones_eq hV, r01_Ones_eq]; simp
  have hl : (half_Log n == r01_Log n) = true := by rw [half_Log_eq hn]; simp [r01_Log]
  have hf : r01_Ints (half_Free (V : Int) n) (r01_Free (V : Int) n) = true := by rw [free_same hV]; simp [r01_Ints]
  have hlen : (IntKind.wrap IntKind.i64 (half_Ones (V : Int) + ((half_Free (V : Int) 32).length : Int)) == 32) = true := by
    rw [free_same hV, half_Ones_eq hV]
    have h1 := free_len V 32 (by omega)
    have h2 : (r01_Free (V : Int) 32).length = ((List.range 32).filter (fun (j : Nat) => !r01_Bit (V : Int) (j : Int))).length := by
      unfold r01_Free freeN
      rw [List.length_map]; rfl
    rw [h2, w64 (by omega), beq_iff_eq]
    omega
  unfold HalfBits
  rw [ho, cond_true]
  by_cases h0 : V = 0
  · subst h0
    have e : (((0 : Nat) : Int) == 0) = true := rfl
    rw [e, cond_true, hl]
    have e2 : ((-1 : Int) == r01_Lowest ((0 : Nat) : Int)) = true := by decide +kernel
    rw [e2]
    simp only [Bool.and_self, cond_true, hf, hlen]
  · have e : ((V : Int) == 0) = false := by simp; omega
    rw [e, cond_false, cond_false]
    have e2 := lowest_eq (V := V) (by omega) hV
    unfold tab32 at e2
    rw [e2, hl]
    simp only [BEq.rfl, Bool.and_self, cond_true, hf, hlen]
end Go.Proofs.YtaenbinoejnecaaDoor

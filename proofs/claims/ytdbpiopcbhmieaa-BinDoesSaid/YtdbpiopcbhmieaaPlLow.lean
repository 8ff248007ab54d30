/-
  DERIVED. Plain arithmetic of the fields of words: what half's functions come to.
-/
import Derived.Test.YtdbpiopcbhmieaaSlLow
namespace Go.Proofs.Ytdbpiopcbhmieaa
open Go Go.Sl

theorem wrap_u64_nat {n : Nat} (h : n < 18446744073709551616) : IntKind.wrap IntKind.u64 (n : Int) = (n : Int) := by rw [IntKind.wrap_u64]; omega
theorem wrap_u32_nat {n : Nat} (h : n < 4294967296) : IntKind.wrap IntKind.u32 (n : Int) = (n : Int) := by rw [IntKind.wrap_u32]; omega
theorem wrap_i64_id {n : Int} (h : -9223372036854775808 ≤ n ∧ n < 9223372036854775808) : IntKind.wrap IntKind.i64 n = n := by rw [IntKind.wrap_i64]; omega
theorem wrap_i64_nat {n : Nat} (h : n < 9223372036854775808) : IntKind.wrap IntKind.i64 (n : Int) = (n : Int) := wrap_i64_id (by omega)

theorem half_mask_eq {y : Nat} (h : y ≤ 64) : half_mask (y : Int) = ((2 ^ y - 1 : Nat) : Int) := by
  have key : ∀ y : Fin 65, half_mask ((y.val : Nat) : Int) = ((2 ^ y.val - 1 : Nat) : Int) := by decide +kernel
  exact key ⟨y, by omega⟩

theorem ofInt_nat (n : Nat) : BitVec.ofInt 64 (n : Int) = BitVec.ofNat 64 n := by
  apply BitVec.eq_of_toNat_eq
  simp

theorem half_field_true {x y : Nat} (h1 : 1 ≤ y) (h : x + y ≤ 64) : half_field (x : Int) (y : Int) = true := half_field_iff.2 (by omega)

theorem min_toNat {x : Nat} (h : x ≤ 64) : min (Int.toNat (x : Int)) 64 = x := by simp; omega

theorem half_Get_eq {W x y : Nat} (hW : W < 18446744073709551616) (h1 : 1 ≤ y) (h : x + y ≤ 64) : half_Get (W : Int) (x : Int) (y : Int) = ((W / 2 ^ x % 2 ^ y : Nat) : Int) := by
  have hf := half_field_true h1 h
  unfold half_Get
  rw [hf]
  simp only [Bool.not_true, cond_false]
  rw [min_toNat (by omega), half_mask_eq (by omega)]
  have e1 : Int.fdiv (W : Int) (2 ^ x) = ((W / 2 ^ x : Nat) : Int) := by
    rw [Int.fdiv_eq_ediv_of_nonneg _ (by exact Int.le_of_lt (Int.pow_pos (by omega)))]
    push_cast; rfl
  rw [e1, ofInt_nat, ofInt_nat, BitVec.toNat_and, BitVec.toNat_ofNat, BitVec.toNat_ofNat]
  have h2 : 2 ^ y ≤ 2 ^ 64 := Nat.pow_le_pow_right (by omega) (by omega)
  have h3 : W / 2 ^ x < 2 ^ 64 := Nat.lt_of_le_of_lt (Nat.div_le_self _ _) (by omega)
  have h4 : 0 < 2 ^ y := Nat.pow_pos (by omega)
  rw [Nat.mod_eq_of_lt h3, Nat.mod_eq_of_lt (by omega : 2 ^ y - 1 < 2 ^ 64), Nat.and_two_pow_sub_one_eq_mod]
  refine wrap_u64_nat ?_
  have := Nat.mod_lt (W / 2 ^ x) h4
  omega

theorem half_Put_no {w x y v : Int} (h : half_field x y = false ∨ (half_field x y = true ∧ half_mask y < v)) : half_Put w x y v = (0, false) := by
  unfold half_Put
  rcases h with h | ⟨h, h'⟩
  · rw [h]; rfl
  · rw [h]; simp [h']

/-- The word that 'half.Put' gives. -/
def putW (W x y V : Nat) : Nat := ((BitVec.ofNat 64 W &&& ~~~BitVec.ofNat 64 ((2 ^ y - 1) * 2 ^ x)) ||| BitVec.ofNat 64 (V * 2 ^ x)).toNat

theorem putW_lt (W x y V : Nat) : putW W x y V < 18446744073709551616 := BitVec.isLt _

theorem putW_bit {W x y V : Nat} (hW : W < 18446744073709551616) (h : x + y ≤ 64) (hV : V < 2 ^ y) (i : Nat) : (putW W x y V).testBit i = if x ≤ i ∧ i < x + y then V.testBit (i - x) else W.testBit i := by
  unfold putW
  rw [BitVec.testBit_toNat]
  simp only [BitVec.getLsbD_or, BitVec.getLsbD_and, BitVec.getLsbD_not, BitVec.getLsbD_ofNat, Nat.testBit_mul_two_pow, Nat.testBit_two_pow_sub_one]
  by_cases hi : i < 64
  · by_cases hx : x ≤ i
    · by_cases hy : i - x < y
      · have : x ≤ i ∧ i < x + y := by omega
        simp [hi, hx, hy, this]
      · have : ¬ (x ≤ i ∧ i < x + y) := by omega
        have hv : V.testBit (i - x) = false := Nat.testBit_lt_two_pow (Nat.lt_of_lt_of_le hV (Nat.pow_le_pow_right (by omega) (by omega)))
        rw [if_neg this]; simp [hi, hx, hy, hv]
    · have : ¬ (x ≤ i ∧ i < x + y) := by omega
      rw [if_neg this]; simp [hi, hx]
  · have h2 : W.testBit i = false := Nat.testBit_lt_two_pow (Nat.lt_of_lt_of_le hW (by
      have : 2 ^ 64 ≤ 2 ^ i := Nat.pow_le_pow_right (by omega) (by omega)
      omega))
    have : ¬ (x ≤ i ∧ i < x + y) := by omega
    rw [if_neg this]; simp [hi, h2]

theorem half_Put_eq {W x y V : Nat} (h1 : 1 ≤ y) (h : x + y ≤ 64) (hV : V < 2 ^ y) : half_Put (W : Int) (x : Int) (y : Int) (V : Int) = (((putW W x y V : Nat) : Int), true) := by
  have hf := half_field_true h1 h
  have hp : 2 ^ y ≤ 2 ^ 64 := Nat.pow_le_pow_right (by omega) (by omega)
  have hpos : 0 < 2 ^ y := Nat.pow_pos (by omega)
  unfold half_Put
  rw [hf, half_mask_eq (by omega)]
  have hd : decide ((V : Int) > ((2 ^ y - 1 : Nat) : Int)) = false := by simp; omega
  rw [hd]
  simp only [Bool.not_true, Bool.or_false, cond_false, Prod.mk.injEq, and_true]
  rw [min_toNat (by omega)]
  have e : ∀ n : Nat, n * 2 ^ x < 18446744073709551616 → IntKind.wrap IntKind.u64 ((n : Int) * 2 ^ x) = ((n * 2 ^ x : Nat) : Int) := fun n hn => by
    rw [show ((n : Int) * 2 ^ x) = ((n * 2 ^ x : Nat) : Int) by push_cast; rfl]
    exact wrap_u64_nat hn
  have b : ∀ n, n < 2 ^ y → n * 2 ^ x < 18446744073709551616 := fun n hn => by
    have h2 : n * 2 ^ x < 2 ^ y * 2 ^ x := Nat.mul_lt_mul_of_pos_right hn (Nat.pow_pos (by omega))
    rw [← Nat.pow_add] at h2
    have h3 : 2 ^ (y + x) ≤ 2 ^ 64 := Nat.pow_le_pow_right (by omega) (by omega)
    omega
  rw [e _ (b _ (by omega)), e _ (b _ hV), ofInt_nat, ofInt_nat, ofInt_nat]
  have hand : (BitVec.ofNat 64 W &&& ~~~BitVec.ofNat 64 ((2 ^ y - 1) * 2 ^ x)).toNat < 18446744073709551616 := BitVec.isLt _
  rw [wrap_u64_nat hand, ofInt_nat, BitVec.ofNat_toNat, BitVec.setWidth_eq]
  exact wrap_u64_nat (putW_lt W x y V)

theorem putW_add {W x y V : Nat} (hW : W < 2 ^ x) (h : x + y ≤ 64) (hV : V < 2 ^ y) : putW W x y V = V * 2 ^ x + W := by
  have hW' : W < 18446744073709551616 := by
    have : 2 ^ x ≤ 2 ^ 64 := Nat.pow_le_pow_right (by omega) (by omega)
    omega
  apply Nat.eq_of_testBit_eq
  intro i
  rw [putW_bit hW' h hV, Nat.mul_comm, Nat.testBit_two_pow_mul_add _ hW]
  by_cases hi : i < x
  · rw [if_neg (by omega), if_pos hi]
  · rw [if_neg hi]
    by_cases hy : i < x + y
    · rw [if_pos (by omega)]
    · rw [if_neg (by omega)]
      rw [Nat.testBit_lt_two_pow (Nat.lt_of_lt_of_le hW (Nat.pow_le_pow_right (by omega) (by omega))),
        Nat.testBit_lt_two_pow (Nat.lt_of_lt_of_le hV (Nat.pow_le_pow_right (by omega) (by omega)))]
theorem info_right_iff {k l c : Int} : info_right k l c = true ↔ (k = 0 ∧ l = 0 ∧ c = 0) ∨ ((k = 1 ∨ k = 2) ∧ 1 ≤ l ∧ l ≤ 1024 ∧ c = 0) ∨ (k = 3 ∧ l = 1 ∧ 0 ≤ c ∧ c ≤ 8) := by
  unfold info_right
  by_cases h0 : k = 0
  · subst h0; simp
  · by_cases h3 : k = 3
    · subst h3
      by_cases hc : c < 0 ∨ 9 ≤ c
      · rcases hc with hc | hc <;> simp [hc] <;> omega
      · simp [show ¬ c < 0 by omega, show ¬ c ≥ 9 by omega]; omega
    · by_cases h1 : k = 1
      · subst h1; simp; omega
      · by_cases h2 : k = 2
        · subst h2; simp; omega
        · simp [h0, h1, h2, h3]
theorem r09_Right_iff {k l c : Int} : r09_Right k l c = true ↔ (k = 0 ∧ l = 0 ∧ c = 0) ∨ ((k = 1 ∨ k = 2) ∧ 1 ≤ l ∧ l ≤ 1024 ∧ c = 0) ∨ (k = 3 ∧ l = 1 ∧ 0 ≤ c ∧ c ≤ 8) := by
  unfold r09_Right
  by_cases h0 : k = 0
  · subst h0; simp
  · by_cases h1 : k = 1
    · subst h1; simp; omega
    · by_cases h2 : k = 2
      · subst h2; simp; omega
      · by_cases h3 : k = 3
        · subst h3; simp; omega
        · simp [h0, h1, h2, h3]
theorem right_same (k l c : Int) : info_right k l c = r09_Right k l c := by
  rw [Bool.eq_iff_iff, info_right_iff, r09_Right_iff]

theorem info_Put_eq {k l c : Int} (h : info_right k l c = true) : info_Put k l c = (k + 16 * l + 65536 * c, true) := by
  have hr := info_right_iff.1 h
  unfold info_Put
  rw [h]
  obtain ⟨K, rfl⟩ : ∃ K : Nat, k = K := ⟨k.toNat, by omega⟩
  obtain ⟨L, rfl⟩ : ∃ L : Nat, l = L := ⟨l.toNat, by omega⟩
  obtain ⟨C, rfl⟩ : ∃ C : Nat, c = C := ⟨c.toNat, by omega⟩
  rw [wrap_u64_nat (by omega), wrap_u64_nat (by omega), wrap_u64_nat (by omega)]
  have e1 : half_Put (K : Int) 4 12 (L : Int) = (((putW K 4 12 L : Nat) : Int), true) := half_Put_eq (W := K) (x := 4) (y := 12) (V := L) (by omega) (by omega) (by omega)
  have e2 : putW K 4 12 L = L * 16 + K := putW_add (W := K) (x := 4) (y := 12) (V := L) (by omega) (by omega) (by omega)
  have e3 : half_Put ((L * 16 + K : Nat) : Int) 16 4 (C : Int) = (((putW (L * 16 + K) 16 4 C : Nat) : Int), true) := half_Put_eq (W := L * 16 + K) (x := 16) (y := 4) (V := C) (by omega) (by omega) (by omega)
  have e4 : putW (L * 16 + K) 16 4 C = C * 65536 + (L * 16 + K) := putW_add (W := L * 16 + K) (x := 16) (y := 4) (V := C) (by omega) (by omega) (by omega)
  rw [e1, e2]
  show (bif !true then _ else (half_Lo (half_Put ((L * 16 + K : Nat) : Int) 16 4 (C : Int)).1, true)) = _
  rw [e3, e4]
  refine Prod.ext ?_ rfl
  show IntKind.wrap IntKind.u32 _ = _
  rw [wrap_u32_nat (by omega)]
  show _ = (K : Int) + 16 * L + 65536 * C
  omega
theorem info_Put_no {k l c : Int} (h : info_right k l c = false) : info_Put k l c = (0, false) := by unfold info_Put; rw [h]; rfl
theorem r09_Put_eq {k l c : Int} (h : info_right k l c = true) : r09_Put k l c = (k + 16 * l + 65536 * c, true) := by
  have hr := info_right_iff.1 h
  unfold r09_Put
  rw [← right_same, h]
  simp only [Bool.not_true, cond_false, Prod.mk.injEq, and_true]
  rw [wrap_i64_id (n := 16 * l) (by omega), wrap_i64_id (n := 65536 * c) (by omega), wrap_i64_id (n := k + 16 * l) (by omega), wrap_i64_id (by omega), IntKind.wrap_u32]
  omega
theorem r09_Put_no {k l c : Int} (h : info_right k l c = false) : r09_Put k l c = (0, false) := by unfold r09_Put; rw [← right_same, h]; rfl
theorem put_same (k l c : Int) : info_Put k l c = r09_Put k l c := by
  cases h : info_right k l c
  · rw [info_Put_no h, r09_Put_no h]
  · rw [info_Put_eq h, r09_Put_eq h]

theorem info_Get_eq {v : Int} (h0 : 0 ≤ v) (hv : v < 4294967296) : info_Get v = bif info_right (v % 16) (v / 16 % 4096) (v / 65536) then (v % 16, v / 16 % 4096, v / 65536, true) else (0, 0, 0, false) := by
  obtain ⟨n, rfl⟩ : ∃ n : Nat, v = n := ⟨v.toNat, by omega⟩
  have g1 : half_Get (n : Int) 20 44 = ((n / 2 ^ 20 % 2 ^ 44 : Nat) : Int) := half_Get_eq (W := n) (x := 20) (y := 44) (by omega) (by omega) (by omega)
  have g2 : half_Get (n : Int) 0 4 = ((n / 2 ^ 0 % 2 ^ 4 : Nat) : Int) := half_Get_eq (W := n) (x := 0) (y := 4) (by omega) (by omega) (by omega)
  have g3 : half_Get (n : Int) 4 12 = ((n / 2 ^ 4 % 2 ^ 12 : Nat) : Int) := half_Get_eq (W := n) (x := 4) (y := 12) (by omega) (by omega) (by omega)
  have g4 : half_Get (n : Int) 16 4 = ((n / 2 ^ 16 % 2 ^ 4 : Nat) : Int) := half_Get_eq (W := n) (x := 16) (y := 4) (by omega) (by omega) (by omega)
  have e1 : ((n / 2 ^ 20 % 2 ^ 44 : Nat) : Int) = (n : Int) / 1048576 := by omega
  have e2 : ((n / 2 ^ 0 % 2 ^ 4 : Nat) : Int) = (n : Int) % 16 := by omega
  have e3 : ((n / 2 ^ 4 % 2 ^ 12 : Nat) : Int) = (n : Int) / 16 % 4096 := by omega
  have e4 : ((n / 2 ^ 16 % 2 ^ 4 : Nat) : Int) = (n : Int) / 65536 % 16 := by omega
  rw [e1] at g1; rw [e2] at g2; rw [e3] at g3; rw [e4] at g4
  unfold info_Get
  rw [wrap_u64_nat (by omega), g1, g2, g3, g4, wrap_i64_id (n := (n : Int) % 16) (by omega), wrap_i64_id (n := (n : Int) / 16 % 4096) (by omega), wrap_i64_id (n := (n : Int) / 65536 % 16) (by omega)]
  by_cases hz : (n : Int) / 1048576 = 0
  · have : (n : Int) / 65536 % 16 = n / 65536 := by omega
    rw [this, hz]
    cases info_right ((n : Int) % 16) ((n : Int) / 16 % 4096) ((n : Int) / 65536) <;> rfl
  · have hr : info_right ((n : Int) % 16) ((n : Int) / 16 % 4096) ((n : Int) / 65536) = false := by
      rw [Bool.eq_false_iff, Ne, info_right_iff]; omega
    have hb : (((n : Int) / 1048576) != 0) = true := bne_iff_ne.2 hz
    rw [hr, hb]
    rfl
theorem r09_Get_eq {v : Int} (h0 : 0 ≤ v) (hv : v < 4294967296) : r09_Get v = bif info_right (v % 16) (v / 16 % 4096) (v / 65536) then (v % 16, v / 16 % 4096, v / 65536, true) else (0, 0, 0, false) := by
  unfold r09_Get
  have t1 : Int.tmod v 16 = v % 16 := Int.tmod_eq_emod_of_nonneg h0
  have t2 : Int.tdiv v 16 = v / 16 := Int.tdiv_eq_ediv_of_nonneg h0
  have t3 : Int.tdiv v 65536 = v / 65536 := Int.tdiv_eq_ediv_of_nonneg h0
  have t4 : Int.tmod (v / 16) 4096 = v / 16 % 4096 := Int.tmod_eq_emod_of_nonneg (by omega)
  have w1 : IntKind.wrap IntKind.u32 (v / 16) = v / 16 := by rw [IntKind.wrap_u32]; omega
  have w2 : IntKind.wrap IntKind.u32 (v / 65536) = v / 65536 := by rw [IntKind.wrap_u32]; omega
  rw [t1, t2, t3, w1, w2, t4, wrap_i64_id (n := v % 16) (by omega), wrap_i64_id (n := v / 16 % 4096) (by omega), wrap_i64_id (n := v / 65536) (by omega), ← right_same]
  cases info_right (v % 16) (v / 16 % 4096) (v / 65536) <;> rfl


/-! ### Places, infos, logarithms: what the two texts say alike -/
theorem r04_Right_eq (t p s : Int) : r04_Right t p s = Cf.ok ⟨t, p, s⟩ := by
  apply Bool.eq_iff_iff.2
  rw [Cf.ok_iff]
  simp only [r04_Right, Bool.and_eq_true, decide_eq_true_eq]
  omega
theorem lay_ok (t p s : Int) : (place_lay t p s).2.2.2.2 = Cf.ok ⟨t, p, s⟩ ∧ (Cf.ok ⟨t, p, s⟩ = true → (place_lay t p s).1 = t ∧ (place_lay t p s).2.1 = p) := by
  unfold place_lay
  rw [conf_Check_eq, r04_Right_eq]
  cases h : Cf.ok ⟨t, p, s⟩ with
  | true => exact ⟨rfl, fun _ => ⟨rfl, rfl⟩⟩
  | false => exact ⟨rfl, fun h => by cases h⟩
theorem place_of_eq {t p s g k : Int} (hk : 0 ≤ k ∧ k ≤ 5) : place_of t p s g k = Cf.pc ⟨t, p, s⟩ g k := by
  obtain ⟨h1, h2⟩ := lay_ok t p s
  unfold place_of Cf.pc Cf.page
  rw [h1]
  cases h : Cf.ok ⟨t, p, s⟩ with
  | false => simp
  | true =>
    obtain ⟨e1, e2⟩ := h2 h
    rw [e1, e2]
    have := Cf.ok_iff.1 h
    simp only at this
    by_cases hg : 0 ≤ g ∧ g < p
    · have a1 : decide (g < 0) = false := by simp; omega
      have a2 : decide (g ≥ p) = false := by simp; omega
      have a3 : decide (0 ≤ g) = true := by simp; omega
      have a4 : decide (g < p) = true := by simp; omega
      simp only [a1, a2, a3, a4, Bool.not_true, Bool.or_self, cond_false, Bool.and_self, cond_true]
      rw [w64 (n := 4 * t) (by omega), w64 (n := 30 + 4 * t) (by omega), w64 (n := 6 * g) (by omega), w64 (n := 30 + 4 * t + 6 * g) (by omega), w64 (by omega)]
    · have a3 : (decide (0 ≤ g) && decide (g < p)) = false := by simp; omega
      have a1 : (!true || decide (g < 0) || decide (g ≥ p)) = true := by simp; omega
      rw [a3, a1]; simp
theorem r07_Page_eq {t p s g k : Int} (hk : 0 ≤ k ∧ k ≤ 5) : r07_Page t p s g k = Cf.pc ⟨t, p, s⟩ g k := by
  unfold r07_Page Cf.pc Cf.page
  rw [r04_Right_eq]
  cases h : Cf.ok ⟨t, p, s⟩ with
  | false => simp
  | true =>
    have := Cf.ok_iff.1 h
    simp only at this
    by_cases hg : 0 ≤ g ∧ g < p
    · have a1 : decide (g < 0) = false := by simp; omega
      have a2 : decide (g ≥ p) = false := by simp; omega
      have a3 : decide (0 ≤ g) = true := by simp; omega
      have a4 : decide (g < p) = true := by simp; omega
      simp only [a1, a2, a3, a4, Bool.not_true, Bool.or_self, cond_false, Bool.and_self, cond_true]
      rw [w64 (n := 4 * t) (by omega), w64 (n := 30 + 4 * t) (by omega), w64 (n := 6 * g) (by omega), w64 (n := 30 + 4 * t + 6 * g) (by omega), w64 (by omega)]
    · have a3 : (decide (0 ≤ g) && decide (g < p)) = false := by simp; omega
      have a1 : (!true || decide (g < 0) || decide (g ≥ p)) = true := by simp; omega
      rw [a3, a1]; simp
theorem place_Info_eq (t p s g : Int) : place_Info t p s g = Cf.info ⟨t, p, s⟩ g := place_of_eq (by omega)
theorem place_Foot_eq (t p s g : Int) : place_Foot t p s g = Cf.foot ⟨t, p, s⟩ g := place_of_eq (by omega)
theorem place_Next_eq (t p s g : Int) : place_Next t p s g = Cf.next ⟨t, p, s⟩ g := place_of_eq (by omega)
theorem place_Prev_eq (t p s g : Int) : place_Prev t p s g = Cf.prev ⟨t, p, s⟩ g := place_of_eq (by omega)
theorem r07_Info_eq (t p s g : Int) : r07_Info t p s g = Cf.info ⟨t, p, s⟩ g := r07_Page_eq (by omega)
theorem r07_Foot_eq (t p s g : Int) : r07_Foot t p s g = Cf.foot ⟨t, p, s⟩ g := r07_Page_eq (by omega)
theorem r07_Next_eq (t p s g : Int) : r07_Next t p s g = Cf.next ⟨t, p, s⟩ g := r07_Page_eq (by omega)
theorem r07_Prev_eq (t p s g : Int) : r07_Prev t p s g = Cf.prev ⟨t, p, s⟩ g := r07_Page_eq (by omega)
theorem place_Bin_eq (k : Int) : place_Bin k = cBin k := by
  unfold place_Bin place_within cBin
  by_cases hg : 0 ≤ k ∧ k < 11
  · have a1 : (decide (k < 0) || decide (k ≥ 11)) = false := by simp; omega
    have a2 : (decide (0 ≤ k) && decide (k < 11)) = true := by simp; omega
    rw [a1, a2, w64 (by omega)]; rfl
  · have a1 : (decide (k < 0) || decide (k ≥ 11)) = true := by simp; omega
    have a2 : (decide (0 ≤ k) && decide (k < 11)) = false := by simp; omega
    rw [a1, a2]; rfl
theorem r07_Bin_eq (k : Int) : r07_Bin k = cBin k := by
  unfold r07_Bin cBin
  by_cases hg : 0 ≤ k ∧ k < 11
  · have a1 : (decide (k < 0) || decide (k > 10)) = false := by simp; omega
    have a2 : (decide (0 ≤ k) && decide (k < 11)) = true := by simp; omega
    rw [a1, a2, w64 (by omega)]; rfl
  · have a1 : (decide (k < 0) || decide (k > 10)) = true := by simp; omega
    have a2 : (decide (0 ≤ k) && decide (k < 11)) = false := by simp; omega
    rw [a1, a2]; rfl
theorem place_Root_eq (k : Int) : place_Root k = cRoot k := by
  unfold place_Root place_within cRoot
  by_cases hg : 0 ≤ k ∧ k < 8
  · have a1 : (decide (k < 0) || decide (k ≥ 8)) = false := by simp; omega
    have a2 : (decide (0 ≤ k) && decide (k < 8)) = true := by simp; omega
    rw [a1, a2, w64 (by omega)]; rfl
  · have a1 : (decide (k < 0) || decide (k ≥ 8)) = true := by simp; omega
    have a2 : (decide (0 ≤ k) && decide (k < 8)) = false := by simp; omega
    rw [a1, a2]; rfl
theorem r07_Root_eq (k : Int) : r07_Root k = cRoot k := by
  unfold r07_Root cRoot
  by_cases hg : 0 ≤ k ∧ k < 8
  · have a1 : (decide (k < 0) || decide (k > 7)) = false := by simp; omega
    have a2 : (decide (0 ≤ k) && decide (k < 8)) = true := by simp; omega
    rw [a1, a2, w64 (by omega)]; rfl
  · have a1 : (decide (k < 0) || decide (k > 7)) = true := by simp; omega
    have a2 : (decide (0 ≤ k) && decide (k < 8)) = false := by simp; omega
    rw [a1, a2]; rfl
theorem iRight_eq (k l c : Int) : info_right k l c = iRight k l c := by
  apply Bool.eq_iff_iff.2
  rw [info_right_iff]
  unfold iRight
  by_cases h0 : k = 0
  · subst h0; simp
  · by_cases h1 : k = 1
    · subst h1; simp [and_assoc]
    · by_cases h2 : k = 2
      · subst h2; simp [and_assoc]
      · by_cases h3 : k = 3
        · subst h3; simp
        · simp [h0, h1, h2, h3]
theorem info_Put_val (k l c : Int) : (info_Put k l c).1 = iVal k l c := by
  unfold iVal
  rw [← iRight_eq]
  cases h : info_right k l c with
  | true => rw [info_Put_eq h]; rfl
  | false => rw [info_Put_no h]; rfl
theorem r09_Value_eq (k l c : Int) : r09_Value k l c = iVal k l c := by
  unfold r09_Value iVal
  rw [← iRight_eq]
  cases h : info_right k l c with
  | true => rw [r09_Put_eq h]; rfl
  | false => rw [r09_Put_no h]; rfl
theorem iVal_bd (k l c : Int) : bd32 (iVal k l c) := by
  unfold iVal
  cases h : iRight k l c with
  | false => exact (⟨by decide, by decide⟩ : (0 : Int) ≤ 0 ∧ (0 : Int) < 4294967296)
  | true =>
    rw [← iRight_eq, info_right_iff] at h
    simp only [cond_true]
    unfold bd32
    omega
theorem info_Get_i {v : Int} (h : bd32 v) : (info_Get v).1 = (iGet v).k ∧ (info_Get v).2.1 = (iGet v).l ∧ (info_Get v).2.2.1 = (iGet v).c := by
  rw [info_Get_eq h.1 h.2]
  unfold iGet
  rw [← iRight_eq]
  cases info_right (v % 16) (v / 16 % 4096) (v / 65536) <;> exact ⟨rfl, rfl, rfl⟩
theorem r09_Get_i {v : Int} (h : bd32 v) : (r09_Get v).1 = (iGet v).k ∧ (r09_Get v).2.1 = (iGet v).l ∧ (r09_Get v).2.2.1 = (iGet v).c := by
  rw [r09_Get_eq h.1 h.2]
  unfold iGet
  rw [← iRight_eq]
  cases info_right (v % 16) (v / 16 % 4096) (v / 65536) <;> exact ⟨rfl, rfl, rfl⟩
/-- What an info says is an info. -/
theorem iGet_right (v : Int) : iRight (iGet v).k (iGet v).l (iGet v).c = true := by
  unfold iGet
  cases h : iRight (v % 16) (v / 16 % 4096) (v / 65536) with
  | true => exact h
  | false => rfl
theorem iGet_cases (v : Int) : ((iGet v).k = 0 ∧ (iGet v).l = 0 ∧ (iGet v).c = 0) ∨ (((iGet v).k = 1 ∨ (iGet v).k = 2) ∧ 1 ≤ (iGet v).l ∧ (iGet v).l ≤ 1024 ∧ (iGet v).c = 0) ∨ ((iGet v).k = 3 ∧ (iGet v).l = 1 ∧ 0 ≤ (iGet v).c ∧ (iGet v).c ≤ 8) := by
  have := iGet_right v
  rw [← iRight_eq, info_right_iff] at this
  exact this

/-! ### Logarithms -/
def lenN (n : Nat) : Int := if n = 0 then 0 else (Nat.log2 n : Int) + 1
theorem lenN_tab : ∀ i : Fin 256, sAt SlLow_bytes0 (i.val : Int) = lenN i.val := by decide +kernel
theorem lenN_div {n k : Nat} (h : 2 ^ k ≤ n) : lenN n = lenN (n / 2 ^ k) + k := by
  induction k generalizing n with
  | zero => simp
  | succ k ih =>
    have hp : 0 < 2 ^ k := Nat.pow_pos (by decide)
    rw [Nat.pow_succ] at h
    have h1 : 2 ^ k ≤ n / 2 := by omega
    have h2 := ih h1
    have e : n / 2 ^ (k + 1) = n / 2 / 2 ^ k := by rw [Nat.pow_succ, Nat.mul_comm, Nat.div_div_eq_div_mul]
    rw [e]
    have h3 : lenN n = lenN (n / 2) + 1 := by
      unfold lenN
      rw [if_neg (by omega), if_neg (by omega), Nat.log2_def, if_pos (by omega)]
      push_cast; rfl
    rw [h3, h2]; push_cast; omega
theorem tab_eq {z : Int} (h0 : 0 ≤ z) (h1 : z < 256) : sAt SlLow_bytes0 (IntKind.wrap IntKind.u8 z) = lenN z.toNat := by
  have e : IntKind.wrap IntKind.u8 z = z := by rw [IntKind.wrap_u8]; omega
  rw [e]
  obtain ⟨m, rfl⟩ : ∃ m : Nat, z = m := ⟨z.toNat, by omega⟩
  rw [Int.toNat_natCast]
  exact lenN_tab ⟨m, by omega⟩
theorem fdiv_nat (z : Int) (k : Nat) (h0 : 0 ≤ z) (hk : 0 < k) : Int.fdiv z (k : Int) = ((z.toNat / k : Nat) : Int) := by
  rw [Int.fdiv_eq_ediv_of_nonneg _ (by omega)]
  obtain ⟨m, rfl⟩ : ∃ m : Nat, z = m := ⟨z.toNat, by omega⟩
  simp
theorem lenN_le {n : Nat} : lenN n ≤ n ∧ 0 ≤ lenN n := by
  unfold lenN
  split
  · omega
  · have := @Nat.log2_lt n n (by omega)
    have h := this.2 Nat.lt_two_pow_self
    omega
theorem lenN_b {n k : Nat} (h : n < 2 ^ k) : lenN n ≤ k := by
  unfold lenN
  split
  · omega
  · have := (@Nat.log2_lt n k (by omega)).2 h
    omega
theorem len64_tail {c x : Int} {n : Nat} (hx : x = (n : Int)) (hn : n < 65536) (hc : 0 ≤ c ∧ c ≤ 48) :
    (bif decide (x ≥ 256) then IntKind.wrap IntKind.i64 ((c + 8) + IntKind.wrap IntKind.i64 (sAt SlLow_bytes0 (IntKind.wrap IntKind.u8 (Int.fdiv x 256)))) else IntKind.wrap IntKind.i64 (c + IntKind.wrap IntKind.i64 (sAt SlLow_bytes0 (IntKind.wrap IntKind.u8 x)))) = c + lenN n := by
  subst hx
  have hb := lenN_b (n := n) (k := 16) (by omega)
  have hb0 := (lenN_le (n := n)).2
  by_cases h : 256 ≤ n
  · have e : decide ((n : Int) ≥ 256) = true := by simp; omega
    rw [e, cond_true]
    have e2 : Int.fdiv (n : Int) 256 = ((n / 256 : Nat) : Int) := fdiv_nat (n : Int) 256 (by omega) (by decide)
    rw [e2, tab_eq (by omega) (by omega)]
    have e3 : ((n / 256 : Nat) : Int).toNat = n / 256 := by omega
    rw [e3]
    have h8 := lenN_div (n := n) (k := 8) (by omega)
    have hb2 := (lenN_le (n := n / 256)).2
    have : (2 : Nat) ^ 8 = 256 := rfl
    rw [this] at h8
    rw [w64 (n := lenN (n / 256)) (by omega), w64 (by omega)]
    omega
  · have e : decide ((n : Int) ≥ 256) = false := by simp; omega
    rw [e, cond_false, tab_eq (by omega) (by omega), Int.toNat_natCast, w64 (n := lenN n) (by omega), w64 (by omega)]
theorem bits_Len64_eq {x : Int} (h0 : 0 ≤ x) (h1 : x < 18446744073709551616) : bits_Len64 x = lenN x.toNat := by
  obtain ⟨n, rfl⟩ : ∃ n : Nat, x = n := ⟨x.toNat, by omega⟩
  rw [Int.toNat_natCast]
  unfold bits_Len64
  have f32 : ∀ m : Nat, Int.fdiv (m : Int) 4294967296 = ((m / 4294967296 : Nat) : Int) := fun m => fdiv_nat (m : Int) 4294967296 (by omega) (by decide)
  have f16 : ∀ m : Nat, Int.fdiv (m : Int) 65536 = ((m / 65536 : Nat) : Int) := fun m => fdiv_nat (m : Int) 65536 (by omega) (by decide)
  by_cases hA : 4294967296 ≤ n
  · have e : decide ((n : Int) ≥ 4294967296) = true := by simp; omega
    rw [e, cond_true, f32]
    have h32 := lenN_div (n := n) (k := 32) (by omega)
    have : (2 : Nat) ^ 32 = 4294967296 := rfl
    rw [this] at h32
    generalize hm : n / 4294967296 = m at *
    have hmb : m < 4294967296 := by omega
    by_cases hB : 65536 ≤ m
    · have e : decide ((m : Int) ≥ 65536) = true := by simp; omega
      rw [e, cond_true, f16]
      have h16 := lenN_div (n := m) (k := 16) (by omega)
      have : (2 : Nat) ^ 16 = 65536 := rfl
      rw [this] at h16
      have := len64_tail (c := 48) (x := ((m / 65536 : Nat) : Int)) rfl (by omega) (by omega)
      rw [h32, h16]
      exact this.trans (by push_cast; omega)
    · have e : decide ((m : Int) ≥ 65536) = false := by simp; omega
      rw [e, cond_false]
      have := len64_tail (c := 32) (x := (m : Int)) rfl (by omega) (by omega)
      rw [h32]
      exact this.trans (by push_cast; omega)
  · have e : decide ((n : Int) ≥ 4294967296) = false := by simp; omega
    rw [e, cond_false]
    by_cases hB : 65536 ≤ n
    · have e : decide ((n : Int) ≥ 65536) = true := by simp; omega
      rw [e, cond_true, f16]
      have h16 := lenN_div (n := n) (k := 16) (by omega)
      have : (2 : Nat) ^ 16 = 65536 := rfl
      rw [this] at h16
      have := len64_tail (c := 16) (x := ((n / 65536 : Nat) : Int)) rfl (by omega) (by omega)
      rw [h16]
      exact this.trans (by push_cast; omega)
    · have e : decide ((n : Int) ≥ 65536) = false := by simp; omega
      rw [e, cond_false]
      have := len64_tail (c := 0) (x := (n : Int)) rfl (by omega) (by omega)
      have h2 := this.trans (Int.zero_add _)
      rw [← h2]
      by_cases h8 : 256 ≤ n
      · have e : decide ((n : Int) ≥ 256) = true := by simp; omega
        rw [e]; rfl
      · have e : decide ((n : Int) ≥ 256) = false := by simp; omega
        rw [e]; simp
theorem half_Log_eq {n : Int} (h : n ≤ 9223372036854775807) : half_Log n = logI n := by
  unfold half_Log
  by_cases h1 : n < 1
  · rw [logI_lt h1]; simp [h1]
  · have e : decide (n < 1) = false := by simp; omega
    rw [e, cond_false, wu64 (by omega), bits_Len64_eq (by omega) (by omega)]
    unfold lenN logI
    rw [if_neg (by omega), if_neg (by omega), w64]
    · omega
    · have := (@Nat.log2_lt n.toNat 63 (by omega)).2 (by omega)
      omega
end Go.Proofs.Ytdbpiopcbhmieaa

/-
  DERIVED. The laws of the addresses, in plain Lean.
-/
import Derived.Test.YtaenbinoejnecaaSlAddrL
import Derived.Test.YtaenbinoejnecaaSlClassL
namespace Go.Proofs.Ytaenbinoejnecaa
open Go.Sl

theorem ofInt_toNat {w : Nat} {x : Int} (h0 : 0 ≤ x) (h1 : x < 2 ^ w) : (BitVec.ofInt w x).toNat = x.toNat := by
  rw [BitVec.toNat_ofInt]
  congr 1
  exact Int.emod_eq_of_lt h0 (by simpa using h1)
theorem or_add {m y : Int} {s : Nat} (hm : 0 ≤ m) (h0 : 0 ≤ y) (h1 : y < 2 ^ s) (hlt : m * 2 ^ s + y < 9223372036854775808) :
    IntKind.wrap IntKind.i64 (↑(BitVec.toNat (BitVec.ofInt 64 (m * 2 ^ s) ||| BitVec.ofInt 64 y)) : Int) = m * 2 ^ s + y := by
  have hp := pow2_pos s
  have hms : 0 ≤ m * 2 ^ s := Int.mul_nonneg hm (by omega)
  rw [BitVec.toNat_or, ofInt_toNat hms (by omega), ofInt_toNat h0 (by omega)]
  have e : (m * 2 ^ s).toNat = 2 ^ s * m.toNat := by
    rw [Int.toNat_mul hm (by omega), Nat.mul_comm]
    congr 1
  have hy : y.toNat < 2 ^ s := by
    have : ((2 ^ s : Nat) : Int) = 2 ^ s := by simp
    omega
  rw [e, ← Nat.two_pow_add_eq_or_of_lt hy, ← e]
  rw [w64 (by omega)]
  omega
theorem and_mod {a : Int} {s : Nat} (h0 : 0 ≤ a) (hlt : a < 9223372036854775808) (hs : s ≤ 20) : IntKind.wrap IntKind.i64 (↑(BitVec.toNat (BitVec.ofInt 64 a &&& BitVec.ofInt 64 (2 ^ s - 1))) : Int) = a % 2 ^ s := by
  have hp := pow2_pos s
  have hp2 := pow2_le hs
  rw [BitVec.toNat_and, ofInt_toNat h0 (by omega), ofInt_toNat (by omega) (by omega)]
  have e : ((2 : Int) ^ s - 1).toNat = 2 ^ s - 1 := by
    have : ((2 ^ s : Nat) : Int) = 2 ^ s := by simp
    omega
  rw [e, Nat.and_two_pow_sub_one_eq_mod]
  have e2 : ((a.toNat % 2 ^ s : Nat) : Int) = a % 2 ^ s := by
    rw [Int.natCast_emod]
    simp [Int.toNat_of_nonneg h0]
  rw [e2]
  have h3 := Int.emod_lt_of_pos a hp
  have h4 := Int.emod_nonneg a (show (2 : Int) ^ s ≠ 0 by omega)
  exact w64 (by omega)

/-- What is known of a configuration that is right. -/
structure Rt (t p s P : Int) : Prop where
  r : r04_Right t p s = true
  tp : 1 ≤ t ∧ t ≤ 16
  pp : 4 ≤ p ∧ p ≤ 1024
  ss : 10 ≤ s ∧ s ≤ 20
  eP : P = 2 ^ s.toNat
  P0 : 1024 ≤ P ∧ P ≤ 1048576
  pg : r04_Page t p s = P
theorem rt_of {t p s : Int} (h : r04_Right t p s = true) : Rt t p s (2 ^ s.toNat) := by
  have h' := right_iff.1 h
  refine ⟨h, h'.1, h'.2.1, h'.2.2, rfl, ⟨?_, ?_⟩, page_in h⟩
  · have := pow2_le (show 10 ≤ s.toNat by omega); omega
  · have := pow2_le (show s.toNat ≤ 20 by omega); omega
theorem mul_le_pages {p P : Int} (hp : 4 ≤ p ∧ p ≤ 1024) (hP : 1024 ≤ P ∧ P ≤ 1048576) : 4096 ≤ P * p ∧ P * p ≤ 1073741824 := by
  constructor
  · have := Int.mul_le_mul hP.1 hp.1 (by decide) (by omega); omega
  · have := Int.mul_le_mul hP.2 hp.2 (by omega) (by decide); omega
theorem bytes_in {t p s P : Int} (h : Rt t p s P) : conf_Bytes t p s = P * p ∧ r04_Bytes t p s = P * p := by
  have := mul_le_pages h.pp h.P0
  unfold conf_Bytes r04_Bytes
  rw [conf_Page_eq, h.pg, h.r, w64 (by omega)]
  exact ⟨rfl, rfl⟩
theorem bytes_out {t p s : Int} (h : r04_Right t p s = false) : conf_Bytes t p s = 0 ∧ r04_Bytes t p s = 0 := by
  unfold conf_Bytes r04_Bytes
  rw [conf_Page_eq, page_zero h, h, Int.zero_mul]
  exact ⟨rfl, rfl⟩
theorem check_in {t p s P : Int} (h : Rt t p s P) : conf_Check t p s = 0 := by rw [conf_Check_eq, h.r]; rfl
theorem check_out {t p s : Int} (h : r04_Right t p s = false) : conf_Check t p s = 1 := by rw [conf_Check_eq, h]; rfl
theorem there_iff {pg off t p s : Int} : spot_there pg off t p s = true ↔ r04_Right t p s = true ∧ 0 ≤ pg ∧ pg < p ∧ 0 ≤ off ∧ off < r04_Page t p s := by
  unfold spot_there
  rw [conf_Check_eq, conf_Page_eq]
  cases hr : r04_Right t p s with
  | true => simp; omega
  | false => simp
theorem there_in {pg off t p s P : Int} (h : Rt t p s P) (h1 : 0 ≤ pg ∧ pg < p) (h2 : 0 ≤ off ∧ off < P) : spot_there pg off t p s = true := there_iff.2 ⟨h.r, h1.1, h1.2, h2.1, by rw [h.pg]; exact h2.2⟩
theorem spot_le {pg p P off : Int} (hp : 4 ≤ p ∧ p ≤ 1024) (hP : 1024 ≤ P ∧ P ≤ 1048576) (h1 : 0 ≤ pg ∧ pg < p) (h2 : 0 ≤ off ∧ off < P) : P ≤ (pg + 1) * P + off ∧ (pg + 1) * P + off < (pg + 2) * P ∧ (pg + 2) * P ≤ 1075838976 := by
  refine ⟨?_, ?_, ?_⟩
  · have := Int.mul_le_mul_of_nonneg_right (show (1 : Int) ≤ pg + 1 by omega) (show 0 ≤ P by omega); omega
  · rw [Int.add_mul, Int.add_mul]; omega
  · have := Int.mul_le_mul (show pg + 2 ≤ 1025 by omega) hP.2 (by omega) (by decide); omega

theorem of_in {t p s P pg off : Int} (h : Rt t p s P) (h1 : 0 ≤ pg ∧ pg < p) (h2 : 0 ≤ off ∧ off < P) : addr_Of t p s pg off = ((pg + 1) * P + off, true) ∧ r06_Of t p s pg off = ((pg + 1) * P + off, true) := by
  have hb := spot_le h.pp h.P0 h1 h2
  have hpp := h.pp
  have hss := h.ss
  have hP0 := h.P0
  constructor
  · unfold addr_Of
    rw [there_in h h1 h2]
    simp only [Bool.not_true, cond_false]
    rw [w64 (n := pg + 1) (by omega), show min s.toNat 64 = s.toNat by omega, ← h.eP, w64 (n := (pg + 1) * P) (by omega), h.eP, or_add (by omega) h2.1 (by rw [← h.eP]; exact h2.2) (by rw [← h.eP]; omega)]
  · have hc : (!r04_Right t p s || decide (pg < 0) || decide (pg ≥ p) || decide (off < 0) || decide (off ≥ r04_Page t p s)) = false := by
      rw [h.pg, h.r]; simp; omega
    unfold r06_Of
    rw [hc]
    simp only [cond_false]
    rw [w64 (n := pg + 1) (by omega), h.pg, w64 (n := (pg + 1) * P) (by omega), w64 (by omega)]
theorem of_out {t p s pg off : Int} (h : ¬ (r04_Right t p s = true ∧ 0 ≤ pg ∧ pg < p ∧ 0 ≤ off ∧ off < r04_Page t p s)) : addr_Of t p s pg off = (0, false) ∧ r06_Of t p s pg off = (0, false) := by
  constructor
  · have : spot_there pg off t p s = false := by
      cases hs : spot_there pg off t p s with
      | false => rfl
      | true => exact absurd (there_iff.1 hs) h
    simp [addr_Of, this]
  · have hc : (!r04_Right t p s || decide (pg < 0) || decide (pg ≥ p) || decide (off < 0) || decide (off ≥ r04_Page t p s)) = true := by
      cases hr : r04_Right t p s with
      | false => simp
      | true =>
        rw [hr] at h
        have h' : ¬ (0 ≤ pg ∧ pg < p ∧ 0 ≤ off ∧ off < r04_Page t p s) := fun h' => h ⟨rfl, h'⟩
        simp only [Bool.not_true, Bool.false_or, Bool.or_eq_true, decide_eq_true_eq]; omega
    unfold r06_Of
    rw [hc]; rfl
theorem Of_eq (t p s pg off : Int) : addr_Of t p s pg off = r06_Of t p s pg off := by
  by_cases h : r04_Right t p s = true ∧ 0 ≤ pg ∧ pg < p ∧ 0 ≤ off ∧ off < r04_Page t p s
  · have hr := rt_of h.1
    rw [hr.pg] at h
    obtain ⟨a, b⟩ := of_in hr ⟨h.2.1, h.2.2.1⟩ ⟨h.2.2.2.1, h.2.2.2.2⟩
    rw [a, b]
  · obtain ⟨a, b⟩ := of_out h
    rw [a, b]

theorem page_in' {t p s P a : Int} (h : Rt t p s P) (ha : P ≤ a ∧ a < P * p + P) : addr_Page t p s a = (a / P - 1, a % P, true) ∧ r06_Page t p s a = (a / P - 1, a % P, true) := by
  have hm := mul_le_pages h.pp h.P0
  have hP0 := h.P0
  have hd1 : 1 ≤ a / P := by rw [Int.le_ediv_iff_mul_le (by omega)]; omega
  have hd2 : a / P ≤ p := by
    have : a / P < p + 1 := by rw [Int.ediv_lt_iff_lt_mul (by omega), Int.add_mul, Int.mul_comm p P]; omega
    omega
  have hpp := h.pp
  have hss := h.ss
  have e1 : Int.fdiv a P = a / P := Int.fdiv_eq_ediv_of_nonneg _ (by omega)
  have e2 : Int.tdiv a P = a / P := Int.tdiv_eq_ediv_of_nonneg (by omega)
  have e3 : Int.tmod a P = a % P := Int.tmod_eq_emod_of_nonneg (by omega)
  have h4 := Int.emod_nonneg a (show P ≠ 0 by omega)
  constructor
  · have hc : (conf_Page t p s == 0 || decide (a < conf_Page t p s) || decide (a > IntKind.wrap IntKind.i64 (IntKind.wrap IntKind.i64 (conf_Bytes t p s + conf_Page t p s) - 1))) = false := by
      rw [conf_Page_eq, h.pg, (bytes_in h).1, w64 (n := P * p + P) (by omega), w64 (n := P * p + P - 1) (by omega)]
      simp; omega
    unfold addr_Page
    rw [hc]
    simp only [cond_false]
    rw [show min s.toNat 64 = s.toNat by omega, ← h.eP, e1, w64 (n := a / P - 1) (by omega), conf_Page_eq, h.pg, w64 (n := P - 1) (by omega), h.eP, and_mod (by omega) (by omega) (by omega)]
  · have hc : (!r04_Right t p s || decide (a < 0) || decide (IntKind.wrap IntKind.i64 (Int.tdiv a (r04_Page t p s)) < 1) || decide (IntKind.wrap IntKind.i64 (Int.tdiv a (r04_Page t p s)) > p)) = false := by
      rw [h.r, h.pg, e2, w64 (by omega)]
      simp; omega
    unfold r06_Page
    rw [hc]
    simp only [cond_false]
    rw [h.pg, e2, e3, w64 (n := a / P) (by omega), w64 (by omega)]
theorem page_out' {t p s a : Int} (ha64 : -9223372036854775808 ≤ a ∧ a < 9223372036854775808) (h : ¬ (r04_Right t p s = true ∧ r04_Page t p s ≤ a ∧ a < r04_Page t p s * p + r04_Page t p s)) : addr_Page t p s a = (0, 0, false) ∧ r06_Page t p s a = (0, 0, false) := by
  cases hr : r04_Right t p s with
  | false =>
    have hz := page_zero hr
    constructor
    · have hc : (conf_Page t p s == 0 || decide (a < conf_Page t p s) || decide (a > IntKind.wrap IntKind.i64 (IntKind.wrap IntKind.i64 (conf_Bytes t p s + conf_Page t p s) - 1))) = true := by
        rw [conf_Page_eq, hz]; simp
      unfold addr_Page
      rw [hc]; rfl
    · unfold r06_Page
      rw [hr]; rfl
  | true =>
    have hR := rt_of hr
    generalize (2 : Int) ^ s.toNat = P at hR
    rw [hr, hR.pg] at h
    have h : a < P ∨ P * p + P ≤ a := by
      rcases Int.lt_or_le a P with h1 | h1
      · exact .inl h1
      · rcases Int.lt_or_le a (P * p + P) with h2 | h2
        · exact absurd ⟨rfl, h1, h2⟩ h
        · exact .inr h2
    have hm := mul_le_pages hR.pp hR.P0
    have hP0 := hR.P0
    constructor
    · have hc : (conf_Page t p s == 0 || decide (a < conf_Page t p s) || decide (a > IntKind.wrap IntKind.i64 (IntKind.wrap IntKind.i64 (conf_Bytes t p s + conf_Page t p s) - 1))) = true := by
        rw [conf_Page_eq, hR.pg, (bytes_in hR).1, w64 (n := P * p + P) (by omega), w64 (n := P * p + P - 1) (by omega)]
        simp; omega
      unfold addr_Page
      rw [hc]; rfl
    · have hc : (!r04_Right t p s || decide (a < 0) || decide (IntKind.wrap IntKind.i64 (Int.tdiv a (r04_Page t p s)) < 1) || decide (IntKind.wrap IntKind.i64 (Int.tdiv a (r04_Page t p s)) > p)) = true := by
        rw [hr, hR.pg]
        rcases Int.lt_or_le a 0 with h0 | h0
        · simp [h0]
        · have e2 : Int.tdiv a P = a / P := Int.tdiv_eq_ediv_of_nonneg (by omega)
          have h5 : 0 ≤ a / P := Int.ediv_nonneg h0 (by omega)
          have h6 : a / P ≤ a := Int.ediv_le_self _ h0
          rw [e2, w64 (by omega)]
          rcases h with h | h
          · have : a / P = 0 := Int.ediv_eq_zero_of_lt h0 h
            simp [this]
          · have : p + 1 ≤ a / P := by rw [Int.le_ediv_iff_mul_le (by omega), Int.add_mul, Int.mul_comm p P]; omega
            simp; omega
      unfold r06_Page
      rw [hc]; rfl
theorem Page_eq {t p s a : Int} (ha64 : -9223372036854775808 ≤ a ∧ a < 9223372036854775808) : addr_Page t p s a = r06_Page t p s a := by
  by_cases h : r04_Right t p s = true ∧ r04_Page t p s ≤ a ∧ a < r04_Page t p s * p + r04_Page t p s
  · have hr := rt_of h.1
    rw [hr.pg] at h
    obtain ⟨a, b⟩ := page_in' hr ⟨h.2.1, h.2.2⟩
    rw [a, b]
  · obtain ⟨a, b⟩ := page_out' ha64 h
    rw [a, b]

theorem At_eq (t p s k pg x : Int) : addr_At t p s k pg x = r06_At t p s k pg x := by
  unfold addr_At r06_At addr_first
  rw [slots_same, size_same]
  cases hc : (decide (x < 0) || decide (x ≥ r05_Slots k)) with
  | true => rfl
  | false => simp only [cond_false, Bool.not_true, Of_eq]
theorem pages_in {t p s P z : Int} (h : Rt t p s P) (hz : 1 ≤ z ∧ z ≤ P * p) : addr_Pages t p s z = ((z - 1) / P + 1, true) ∧ r06_Pages t p s z = ((z - 1) / P + 1, true) := by
  have hm := mul_le_pages h.pp h.P0
  have hP0 := h.P0
  have hss := h.ss
  have e1 : Int.fdiv (z - 1) P = (z - 1) / P := Int.fdiv_eq_ediv_of_nonneg _ (by omega)
  have e2 : Int.tdiv z P = z / P := Int.tdiv_eq_ediv_of_nonneg (by omega)
  have e3 : Int.tmod z P = z % P := Int.tmod_eq_emod_of_nonneg (by omega)
  have h4 := Int.emod_nonneg z (show P ≠ 0 by omega)
  have h5 := Int.emod_lt_of_pos z (show 0 < P by omega)
  have h6 := Int.mul_ediv_add_emod z P
  have h7 : 0 ≤ z / P := Int.ediv_nonneg (by omega) (by omega)
  have h8 : z / P ≤ z := Int.ediv_le_self _ (by omega)
  have key : (z - 1) / P + 1 = if 0 < z % P then z / P + 1 else z / P := by
    split
    · congr 1
      have e : z - 1 = P * (z / P) + (z % P - 1) := by omega
      rw [e, Int.mul_add_ediv_left _ _ (by omega), Int.ediv_eq_zero_of_lt (a := z % P - 1) (by omega) (by omega)]; omega
    · have e : z - 1 = P * (z / P - 1) + (P - 1) := by rw [Int.mul_sub]; omega
      rw [e, Int.mul_add_ediv_left _ _ (by omega), Int.ediv_eq_zero_of_lt (a := P - 1) (by omega) (by omega)]; omega
  have hk1 : 0 ≤ (z - 1) / P := Int.ediv_nonneg (by omega) (by omega)
  have hk2 : (z - 1) / P ≤ z - 1 := Int.ediv_le_self _ (by omega)
  constructor
  · have hc : (decide (z < 1) || decide (z > conf_Bytes t p s)) = false := by
      rw [(bytes_in h).1]; simp; omega
    unfold addr_Pages
    rw [hc]
    simp only [cond_false]
    rw [show min s.toNat 64 = s.toNat by omega, ← h.eP, w64 (n := z - 1) (by omega), e1, w64 (by omega)]
  · have hc : (!r04_Right t p s || decide (z < 1) || decide (z > r04_Bytes t p s)) = false := by
      rw [(bytes_in h).2, h.r]; simp; omega
    unfold r06_Pages
    rw [hc]
    simp only [cond_false]
    rw [h.pg, e2, e3, key, w64 (n := z / P) (by omega), w64 (n := z / P + 1) (by omega)]
    by_cases hg : 0 < z % P
    · simp [hg]
    · simp [hg]
theorem pages_out {t p s z : Int} (h : ¬ (r04_Right t p s = true ∧ 1 ≤ z ∧ z ≤ r04_Bytes t p s)) : addr_Pages t p s z = (0, false) ∧ r06_Pages t p s z = (0, false) := by
  have hb : conf_Bytes t p s = r04_Bytes t p s := by
    cases hr : r04_Right t p s with
    | false => rw [(bytes_out hr).1, (bytes_out hr).2]
    | true => rw [(bytes_in (rt_of hr)).1, (bytes_in (rt_of hr)).2]
  have hz : r04_Right t p s = false → r04_Bytes t p s = 0 := fun hr => (bytes_out hr).2
  constructor
  · have hc : (decide (z < 1) || decide (z > conf_Bytes t p s)) = true := by
      rw [hb]
      simp only [Bool.or_eq_true, decide_eq_true_eq]
      cases hr : r04_Right t p s with
      | false => have := hz hr; omega
      | true => have : ¬ (1 ≤ z ∧ z ≤ r04_Bytes t p s) := fun h' => h ⟨hr, h'⟩
                omega
    unfold addr_Pages
    rw [hc]; rfl
  · have hc : (!r04_Right t p s || decide (z < 1) || decide (z > r04_Bytes t p s)) = true := by
      cases hr : r04_Right t p s with
      | false => simp
      | true => have : ¬ (1 ≤ z ∧ z ≤ r04_Bytes t p s) := fun h' => h ⟨hr, h'⟩
                simp only [Bool.not_true, Bool.false_or, Bool.or_eq_true, decide_eq_true_eq]; omega
    unfold r06_Pages
    rw [hc]; rfl
theorem Pages_eq (t p s z : Int) : addr_Pages t p s z = r06_Pages t p s z := by
  by_cases h : r04_Right t p s = true ∧ 1 ≤ z ∧ z ≤ r04_Bytes t p s
  · have hr := rt_of h.1
    rw [(bytes_in hr).2] at h
    obtain ⟨a, b⟩ := pages_in hr h.2
    rw [a, b]
  · obtain ⟨a, b⟩ := pages_out h
    rw [a, b]

/-- What is known of a class. -/
theorem cls {t p s P k : Int} (h : Rt t p s P) (hk : 0 ≤ k ∧ k < 9) : 16 ≤ class_Size s k ∧ class_Size s k * class_Slots k ≤ P ∧ 2 ≤ class_Slots k ∧ class_Slots k ≤ 32 ∧ class_Size s k ≤ 1048576 := by
  have hss := h.ss
  obtain ⟨_, h2, h3, _, h5, _⟩ := facts_in h.ss hk
  have hs := r05_slots_le k
  rw [← slots_same] at hs
  have h6 : class_Size s k ≤ 1048576 := by
    have := pow2_le (show (s - 1).toNat ≤ 20 by omega); omega
  have h7 : 0 ≤ class_Size s k * class_Slots k := Int.mul_nonneg (by omega) (by omega)
  have h8 : class_Size s k * class_Slots k ≤ 1048576 * 32 := Int.mul_le_mul h6 hs.2 (by omega) (by decide)
  rw [w64 (by omega), ← h.eP] at h3
  refine ⟨h2, h3, ?_, hs.2, h6⟩
  rcases (by omega : k = 0 ∨ k = 1 ∨ k = 2 ∨ k = 3 ∨ k = 4 ∨ k = 5 ∨ k = 6 ∨ k = 7 ∨ k = 8) with rfl | rfl | rfl | rfl | rfl | rfl | rfl | rfl | rfl <;> decide
theorem slots_out {k : Int} (h : ¬ (0 ≤ k ∧ k < 9)) : class_Slots k = 0 := by
  have := class_Slots_zero (k := k)
  rw [show decide (k < 0 ∨ 9 ≤ k) = true by simp; omega] at this
  simpa using this
/-- A slot begins there. -/
theorem slot_in {t p s P k i : Int} (h : Rt t p s P) (hk : 0 ≤ k ∧ k < 9) (hi : 0 ≤ i ∧ i < class_Slots k) : addr_Slot t p s k (i * class_Size s k) = (i, true) ∧ r06_Slot t p s k (i * class_Size s k) = (i, true) := by
  obtain ⟨h2, h3, h4, h5, h6⟩ := cls h hk
  have hp0 := h.P0
  have hpp := h.pp
  have hle : ∀ j : Int, 0 ≤ j ∧ j < class_Slots k → 0 ≤ j * class_Size s k ∧ j * class_Size s k + class_Size s k ≤ P := fun j hj => by
    refine ⟨Int.mul_nonneg hj.1 (by omega), ?_⟩
    have : (j + 1) * class_Size s k ≤ class_Slots k * class_Size s k := Int.mul_le_mul_of_nonneg_right (by omega) (by omega)
    rw [Int.add_mul, Int.one_mul, Int.mul_comm (class_Slots k)] at this; omega
  have hi' := hle i hi
  have e : Int.tdiv (i * class_Size s k) (class_Size s k) = i := by
    rw [Int.tdiv_eq_ediv_of_nonneg hi'.1, Int.mul_ediv_cancel _ (by omega)]
  have ef : addr_first t p s k i = (0, i * class_Size s k, true) := by
    have hc : (decide (i < 0) || decide (i ≥ class_Slots k)) = false := by simp; omega
    unfold addr_first
    rw [hc]
    simp only [cond_false]
    rw [w64 (by omega)]
  constructor
  · have hc : (class_Size s k == 0 || !spot_there 0 (i * class_Size s k) t p s) = false := by
      rw [there_in h (by omega) (by omega)]; simp; omega
    unfold addr_Slot
    rw [hc]
    simp only [cond_false]
    rw [e, w64 (n := i) (by omega), ef]
    simp
  · have hf : firstP (r05_Slots k).toNat (fun j => (i * class_Size s k) == IntKind.wrap IntKind.i64 ((j : Int) * r05_Size s k)) = some i.toNat := by
      rw [← slots_same, ← size_same]
      refine firstP_some.2 ⟨?_, by omega, fun j hj => ?_⟩
      · rw [Int.toNat_of_nonneg hi.1, w64 (by omega)]; simp
      · have := hle j (by omega)
        rw [w64 (by omega)]
        simp only [beq_eq_false_iff_ne, ne_eq]
        intro heq
        have := Int.eq_of_mul_eq_mul_right (by omega) heq
        omega
    unfold r06_Slot
    rw [hf, h.r]
    simp only [Bool.not_true, cond_false, ofOpt]
    rw [Int.toNat_of_nonneg hi.1]
theorem slot_out {t p s k off : Int} (h : ¬ (r04_Right t p s = true ∧ (0 ≤ k ∧ k < 9) ∧ ∃ i, (0 ≤ i ∧ i < class_Slots k) ∧ off = i * class_Size s k)) : addr_Slot t p s k off = (0, false) ∧ r06_Slot t p s k off = (0, false) := by
  cases hr : r04_Right t p s with
  | false =>
    constructor
    · have : spot_there 0 off t p s = false := by
        cases hs : spot_there 0 off t p s with
        | false => rfl
        | true => rw [(there_iff.1 hs).1] at hr; cases hr
      simp [addr_Slot, this]
    · simp [r06_Slot, hr]
  | true =>
    have hR := rt_of hr
    generalize (2 : Int) ^ s.toNat = P at hR
    by_cases hk : 0 ≤ k ∧ k < 9
    · obtain ⟨h2, h3, h4, h5, h6⟩ := cls hR hk
      have hp0 := hR.P0
      have hle : ∀ j : Int, 0 ≤ j ∧ j < class_Slots k → 0 ≤ j * class_Size s k ∧ j * class_Size s k + class_Size s k ≤ P := fun j hj => by
        refine ⟨Int.mul_nonneg hj.1 (by omega), ?_⟩
        have : (j + 1) * class_Size s k ≤ class_Slots k * class_Size s k := Int.mul_le_mul_of_nonneg_right (by omega) (by omega)
        rw [Int.add_mul, Int.one_mul, Int.mul_comm (class_Slots k)] at this; omega
      constructor
      · unfold addr_Slot
        cases hc : (class_Size s k == 0 || !spot_there 0 off t p s) with
        | true => rfl
        | false =>
          simp only [Bool.or_eq_false_iff, Bool.not_eq_false'] at hc
          have ht := (there_iff.1 hc.2)
          simp only [cond_false]
          have hd : 0 ≤ Int.tdiv off (class_Size s k) := Int.tdiv_nonneg ht.2.2.2.1 (by omega)
          rw [Int.tdiv_eq_ediv_of_nonneg ht.2.2.2.1] at hd ⊢
          have hd2 := Int.ediv_le_self (class_Size s k) ht.2.2.2.1
          have ht3 := ht.2.2.2
          rw [hR.pg] at ht3
          rw [w64 (by omega)]
          unfold addr_first
          cases hc2 : (decide (off / class_Size s k < 0) || decide (off / class_Size s k ≥ class_Slots k)) with
          | true => rfl
          | false =>
            simp only [Bool.or_eq_false_iff, decide_eq_false_iff_not] at hc2
            have := hle (off / class_Size s k) (by omega)
            simp only [cond_false]
            rw [w64 (by omega)]
            have hne : (off / class_Size s k * class_Size s k == off) = false := by
              simp only [beq_eq_false_iff_ne, ne_eq]
              intro he
              exact h ⟨hr, hk, _, by omega, he.symm⟩
            simp [hne]
      · have hf : firstP (r05_Slots k).toNat (fun j => off == IntKind.wrap IntKind.i64 ((j : Int) * r05_Size s k)) = none := by
          rw [← slots_same, ← size_same]
          refine firstP_none.2 fun j hj => ?_
          have := hle j (by omega)
          rw [w64 (by omega)]
          simp only [beq_eq_false_iff_ne, ne_eq]
          intro he
          exact h ⟨hr, hk, j, by omega, he⟩
        unfold r06_Slot
        rw [hf, hr]
        rfl
    · have hz := (class_Size_zero (s := s) (k := k) (by omega)).1
      have hs := slots_out hk
      constructor
      · simp [addr_Slot, hz]
      · have hf : firstP (r05_Slots k).toNat (fun j => off == IntKind.wrap IntKind.i64 ((j : Int) * r05_Size s k)) = none := by
          rw [← slots_same, hs]; rfl
        unfold r06_Slot
        rw [hf, hr]
        rfl
theorem Slot_eq (t p s k off : Int) : addr_Slot t p s k off = r06_Slot t p s k off := by
  by_cases h : r04_Right t p s = true ∧ (0 ≤ k ∧ k < 9) ∧ ∃ i, (0 ≤ i ∧ i < class_Slots k) ∧ off = i * class_Size s k
  · obtain ⟨h1, h2, i, h3, rfl⟩ := h
    obtain ⟨a, b⟩ := slot_in (rt_of h1) h2 h3
    rw [a, b]
  · obtain ⟨a, b⟩ := slot_out h
    rw [a, b]

theorem AddrOf_true {t p s pg n : Int} (h : -9223372036854775808 ≤ n ∧ n < 9223372036854775808) : AddrOf t p s pg n = true := by
  simp [AddrOf, Of_eq, Page_eq h, l06_live]
theorem AddrSlots_true (t p s k pg x n : Int) : AddrSlots t p s k pg x n = true := by
  simp [AddrSlots, At_eq, Slot_eq, Pages_eq, l06_live]

theorem sh_eq {s : Int} (h : 10 ≤ s ∧ s ≤ 20) : min (Int.toNat (IntKind.wrap IntKind.u64 s)) (IntKind.bits IntKind.i64) = s.toNat := by
  rw [wu64 (by omega)]
  show min s.toNat 64 = _
  omega
theorem back1 {t p s pg n : Int} (h : (addr_Of t p s pg n).2 = true) : addr_Page t p s (addr_Of t p s pg n).1 = (pg, n, true) ∧ 1024 ≤ (addr_Of t p s pg n).1 := by
  by_cases hc : r04_Right t p s = true ∧ 0 ≤ pg ∧ pg < p ∧ 0 ≤ n ∧ n < r04_Page t p s
  · have hr := rt_of hc.1
    generalize (2 : Int) ^ s.toNat = P at hr
    rw [hr.pg] at hc
    have hb := spot_le hr.pp hr.P0 ⟨hc.2.1, hc.2.2.1⟩ hc.2.2.2
    have hP0 := hr.P0
    have hup : (pg + 1) * P + n < P * p + P := by
      have : (pg + 2) * P ≤ (p + 1) * P := Int.mul_le_mul_of_nonneg_right (by omega) (by omega)
      rw [Int.add_mul p, Int.one_mul, Int.mul_comm p] at this; omega
    rw [(of_in hr ⟨hc.2.1, hc.2.2.1⟩ hc.2.2.2).1]
    simp only
    rw [(page_in' hr ⟨hb.1, hup⟩).1]
    have e1 : ((pg + 1) * P + n) / P = pg + 1 := by
      rw [Int.add_comm, Int.add_mul_ediv_right _ _ (by omega), Int.ediv_eq_zero_of_lt hc.2.2.2.1 hc.2.2.2.2]; omega
    have e2 : ((pg + 1) * P + n) % P = n := by
      rw [Int.add_comm, Int.add_mul_emod_self_right, Int.emod_eq_of_lt hc.2.2.2.1 hc.2.2.2.2]
    rw [e1, e2]
    exact ⟨by simp, by omega⟩
  · rw [(of_out hc).1] at h; cases h
theorem back2 {t p s n : Int} (hn : -9223372036854775808 ≤ n ∧ n < 9223372036854775808) (h : (addr_Page t p s n).2.2 = true) : addr_Of t p s (addr_Page t p s n).1 (addr_Page t p s n).2.1 = (n, true) := by
  by_cases hc : r04_Right t p s = true ∧ r04_Page t p s ≤ n ∧ n < r04_Page t p s * p + r04_Page t p s
  · have hr := rt_of hc.1
    generalize (2 : Int) ^ s.toNat = P at hr
    rw [hr.pg] at hc
    have hP0 := hr.P0
    rw [(page_in' hr ⟨hc.2.1, hc.2.2⟩).1]
    simp only
    have hd1 : 1 ≤ n / P := by rw [Int.le_ediv_iff_mul_le (by omega)]; omega
    have hd2 : n / P < p + 1 := by rw [Int.ediv_lt_iff_lt_mul (by omega), Int.add_mul, Int.mul_comm p P]; omega
    rw [(of_in hr (pg := n / P - 1) (off := n % P) (by omega) ⟨Int.emod_nonneg _ (by omega), Int.emod_lt_of_pos _ (by omega)⟩).1]
    have := Int.mul_ediv_add_emod n P
    rw [Int.mul_comm] at this
    rw [show n / P - 1 + 1 = n / P by omega, this]
  · rw [(page_out' hn hc).1] at h; cases h
theorem back3 {t p s n : Int} (h : (addr_Pages t p s n).2 = true) : (addr_Pages t p s n).1 ≤ 1024 ∧ n ≤ IntKind.wrap IntKind.i64 ((addr_Pages t p s n).1 * 2 ^ min (Int.toNat (IntKind.wrap IntKind.u64 s)) (IntKind.bits IntKind.i64)) ∧
    IntKind.wrap IntKind.i64 (IntKind.wrap IntKind.i64 ((addr_Pages t p s n).1 - 1) * 2 ^ min (Int.toNat (IntKind.wrap IntKind.u64 s)) (IntKind.bits IntKind.i64)) < n := by
  by_cases hc : r04_Right t p s = true ∧ 1 ≤ n ∧ n ≤ r04_Bytes t p s
  · have hr := rt_of hc.1
    rw [sh_eq hr.ss, ← hr.eP]
    have heP := hr.eP
    generalize (2 : Int) ^ s.toNat = P at hr heP
    rw [(bytes_in hr).2] at hc
    have hP0 := hr.P0
    have hpp := hr.pp
    have hm := mul_le_pages hr.pp hr.P0
    rw [(pages_in hr hc.2).1]
    simp only
    have h1 : 0 ≤ (n - 1) / P := Int.ediv_nonneg (by omega) (by omega)
    have h2 : (n - 1) / P < p := by rw [Int.ediv_lt_iff_lt_mul (by omega), Int.mul_comm]; omega
    have h3 := Int.mul_ediv_add_emod (n - 1) P
    have h4 := Int.emod_lt_of_pos (n - 1) (show 0 < P by omega)
    have h5 := Int.emod_nonneg (n - 1) (show P ≠ 0 by omega)
    have e : ((n - 1) / P + 1) * P = P * ((n - 1) / P) + P := by rw [Int.add_mul, Int.one_mul, Int.mul_comm]
    have e2 : (n - 1) / P * P = P * ((n - 1) / P) := Int.mul_comm _ _
    have h6 : 0 ≤ P * ((n - 1) / P) := Int.mul_nonneg (by omega) h1
    rw [show (n - 1) / P + 1 - 1 = (n - 1) / P by omega, w64 (show -9223372036854775808 ≤ (n - 1) / P ∧ _ by omega), e, e2, w64 (by omega), w64 (by omega)]
    omega
  · rw [(pages_out hc).1] at h; cases h
theorem AddrBack_true {t p s pg n : Int} (hn : -9223372036854775808 ≤ n ∧ n < 9223372036854775808) : AddrBack t p s pg n = true := by
  have end3 : (bif (addr_Pages t p s n).2 && (decide ((addr_Pages t p s n).1 > 1024) || decide (IntKind.wrap IntKind.i64 ((addr_Pages t p s n).1 * 2 ^ min (Int.toNat (IntKind.wrap IntKind.u64 s)) (IntKind.bits IntKind.i64)) < n) ||
      decide (IntKind.wrap IntKind.i64 (IntKind.wrap IntKind.i64 ((addr_Pages t p s n).1 - 1) * 2 ^ min (Int.toNat (IntKind.wrap IntKind.u64 s)) (IntKind.bits IntKind.i64)) ≥ n)) then false else l06_live) = true := by
    cases h : (addr_Pages t p s n).2 with
    | false => rfl
    | true =>
      have := back3 h
      rw [show decide ((addr_Pages t p s n).1 > 1024) = false by simp; omega]
      simp only [Bool.true_and, Bool.false_or]
      rw [show decide (IntKind.wrap IntKind.i64 ((addr_Pages t p s n).1 * 2 ^ min (Int.toNat (IntKind.wrap IntKind.u64 s)) (IntKind.bits IntKind.i64)) < n) = false by simp only [decide_eq_false_iff_not]; omega]
      rw [show decide (IntKind.wrap IntKind.i64 (IntKind.wrap IntKind.i64 ((addr_Pages t p s n).1 - 1) * 2 ^ min (Int.toNat (IntKind.wrap IntKind.u64 s)) (IntKind.bits IntKind.i64)) ≥ n) = false by simp only [decide_eq_false_iff_not]; omega]
      rfl
  have end2 : ∀ x : Bool, x = true → (bif (addr_Page t p s n).2.2 then (bif !(addr_Of t p s (addr_Page t p s n).1 (addr_Page t p s n).2.1).2 || (addr_Of t p s (addr_Page t p s n).1 (addr_Page t p s n).2.1).1 != n then false else x) else x) = true := by
    intro x hx
    cases h : (addr_Page t p s n).2.2 with
    | false => exact hx
    | true => rw [back2 hn h]; simp [hx]
  unfold AddrBack
  cases h : (addr_Of t p s pg n).2 with
  | false => exact end2 _ end3
  | true =>
    obtain ⟨h1, h2⟩ := back1 h
    rw [h1, show decide ((addr_Of t p s pg n).1 < 1024) = false by simp only [decide_eq_false_iff_not]; omega]
    simp only [Bool.not_true, bne_self_eq_false, Bool.or_self, cond_false, cond_true]
    exact end2 _ end3

theorem at_in {t p s P k pg x : Int} (h : Rt t p s P) (hk : 0 ≤ k ∧ k < 9) (hx : 0 ≤ x ∧ x < class_Slots k) (hpg : 0 ≤ pg ∧ pg < p) : addr_At t p s k pg x = ((pg + 1) * P + x * class_Size s k, true) ∧ 0 ≤ x * class_Size s k ∧ x * class_Size s k + class_Size s k ≤ P := by
  obtain ⟨h2, h3, h4, h5, h6⟩ := cls h hk
  have hp0 := h.P0
  have hle : 0 ≤ x * class_Size s k ∧ x * class_Size s k + class_Size s k ≤ P := by
    refine ⟨Int.mul_nonneg hx.1 (by omega), ?_⟩
    have : (x + 1) * class_Size s k ≤ class_Slots k * class_Size s k := Int.mul_le_mul_of_nonneg_right (by omega) (by omega)
    rw [Int.add_mul, Int.one_mul, Int.mul_comm (class_Slots k)] at this; omega
  refine ⟨?_, hle⟩
  have ef : addr_first t p s k x = (0, x * class_Size s k, true) := by
    have hc : (decide (x < 0) || decide (x ≥ class_Slots k)) = false := by simp; omega
    unfold addr_first
    rw [hc]
    simp only [cond_false]
    rw [w64 (by omega)]
  unfold addr_At
  rw [ef]
  simp only [Bool.not_true, cond_false]
  rw [(of_in h hpg (off := x * class_Size s k) (by omega)).1]
theorem at_ok {t p s k pg x : Int} (h : (addr_At t p s k pg x).2 = true) : r04_Right t p s = true ∧ (0 ≤ k ∧ k < 9) ∧ (0 ≤ x ∧ x < class_Slots k) ∧ 0 ≤ pg ∧ pg < p := by
  unfold addr_At addr_first at h
  cases hc : (decide (x < 0) || decide (x ≥ class_Slots k)) with
  | true => rw [hc] at h; simp at h
  | false =>
    rw [hc] at h
    simp only [cond_false, Bool.not_true] at h
    simp only [Bool.or_eq_false_iff, decide_eq_false_iff_not] at hc
    have hk : 0 ≤ k ∧ k < 9 := by
      apply Classical.byContradiction
      intro hk
      have := slots_out hk
      omega
    by_cases ho : r04_Right t p s = true ∧ 0 ≤ pg ∧ pg < p ∧ 0 ≤ IntKind.wrap IntKind.i64 (x * class_Size s k) ∧ IntKind.wrap IntKind.i64 (x * class_Size s k) < r04_Page t p s
    · exact ⟨ho.1, hk, ⟨by omega, by omega⟩, ho.2.1, ho.2.2.1⟩
    · rw [(of_out ho).1] at h; cases h
theorem size_said : ∀ i : Nat, i < 11 → ∀ k : Nat, k < 9 → IntKind.wrap IntKind.i64 (IntKind.wrap IntKind.i64 (Int.tdiv (IntKind.wrap IntKind.i64 (Int.tdiv (IntKind.wrap IntKind.i64 (1 * 2 ^ (10 + i))) (l06_slots k))) 16) * 16) = class_Size (10 + (i : Int)) k := by decide +kernel
theorem size_told {s k : Int} (h : 10 ≤ s ∧ s ≤ 20) (hk : 0 ≤ k ∧ k < 9) : IntKind.wrap IntKind.i64 (IntKind.wrap IntKind.i64 (Int.tdiv (IntKind.wrap IntKind.i64 (Int.tdiv (IntKind.wrap IntKind.i64 (1 * 2 ^ min (Int.toNat (IntKind.wrap IntKind.u64 s)) (IntKind.bits IntKind.i64))) (l06_slots k))) 16) * 16) = class_Size s k := by
  have := size_said (s - 10).toNat (by omega) k.toNat (by omega)
  rw [show (10 + ((s - 10).toNat : Int)) = s by omega, show ((k.toNat : Nat) : Int) = k by omega, show 10 + (s - 10).toNat = s.toNat by omega] at this
  rw [sh_eq h]
  exact this
theorem apart_in {t p s k pg x k2 pg2 x2 : Int} (h1 : (addr_At t p s k pg x).2 = true) (h2 : (addr_At t p s k2 pg2 x2).2 = true) (hne : pg < pg2 ∨ (pg = pg2 ∧ k = k2 ∧ x < x2)) :
    (addr_At t p s k pg x).1 + class_Size s k ≤ (addr_At t p s k2 pg2 x2).1 := by
  obtain ⟨a1, a2, a3, a4⟩ := at_ok h1
  obtain ⟨b1, b2, b3, b4⟩ := at_ok h2
  have hR := rt_of a1
  generalize (2 : Int) ^ s.toNat = P at hR
  obtain ⟨e1, f1, f2⟩ := at_in hR a2 a3 a4
  obtain ⟨e2, g1, g2⟩ := at_in hR b2 b3 b4
  have hp0 := hR.P0
  rw [e1, e2]
  simp only
  rcases hne with hne | ⟨rfl, rfl, hne⟩
  · have : (pg + 2) * P ≤ (pg2 + 1) * P := Int.mul_le_mul_of_nonneg_right (by omega) (by omega)
    have e : (pg + 2) * P = (pg + 1) * P + P := by rw [Int.add_mul, Int.add_mul]; omega
    omega
  · have := (cls hR a2).1
    have : (x + 1) * class_Size s k ≤ x2 * class_Size s k := Int.mul_le_mul_of_nonneg_right (by omega) (by omega)
    rw [Int.add_mul, Int.one_mul] at this
    omega
theorem at_small {t p s k pg x : Int} (h : (addr_At t p s k pg x).2 = true) : 0 ≤ (addr_At t p s k pg x).1 ∧ (addr_At t p s k pg x).1 + class_Size s k ≤ 1075838976 ∧ 10 ≤ s ∧ s ≤ 20 := by
  obtain ⟨a1, a2, a3, a4⟩ := at_ok h
  have hR := rt_of a1
  have hss := hR.ss
  generalize (2 : Int) ^ s.toNat = P at hR
  obtain ⟨e1, f1, f2⟩ := at_in hR a2 a3 a4
  have hc := cls hR a2
  have hp0 := hR.P0
  have hb := spot_le hR.pp hR.P0 a4 (off := x * class_Size s k) (by omega)
  rw [e1]
  simp only
  have e : (pg + 2) * P = (pg + 1) * P + P := by rw [Int.add_mul, Int.add_mul]; omega
  omega
theorem AddrApart_true (t p s k pg x k2 pg2 x2 : Int) : AddrApart t p s k pg x k2 pg2 x2 = true := by
  unfold AddrApart
  cases h : (addr_At t p s k pg x).2 with
  | false => rfl
  | true =>
    obtain ⟨a1, a2, a3, a4⟩ := at_ok h
    have hR := rt_of a1
    obtain ⟨e1, f1, f2⟩ := at_in hR a2 a3 a4
    have hc := cls hR a2
    have hof := of_in hR a4 (off := x * class_Size s k) (by omega)
    have hpgq : addr_Page t p s (addr_At t p s k pg x).1 = (pg, x * class_Size s k, true) := by
      have := (back1 (t := t) (p := p) (s := s) (pg := pg) (n := x * class_Size s k) (by rw [hof.1])).1
      rw [hof.1] at this
      rw [e1]; exact this
    rw [hpgq]
    simp only [(slot_in hR a2 a3).1, Bool.not_true, bne_self_eq_false, Bool.or_self, cond_false, cond_true, Bool.false_or]
    cases h2 : (addr_At t p s k2 pg2 x2).2 with
    | false => rfl
    | true =>
      simp only [Bool.not_true, Bool.false_or]
      cases h3 : (k == k2 && (pg == pg2 && (x == x2 && true)) || k != k2 && pg == pg2) with
      | true => rfl
      | false =>
        simp only [cond_false, l06_live, Bool.and_true, Bool.or_eq_true, decide_eq_true_eq]
        obtain ⟨b1, b2, b3, b4⟩ := at_ok h2
        have s1 := at_small h
        have s2 := at_small h2
        rw [size_told s1.2.2 a2, size_told s1.2.2 b2]
        have c2 := cls hR b2
        rw [w64 (n := (addr_At t p s k pg x).1 + class_Size s k) (by omega), w64 (n := (addr_At t p s k2 pg2 x2).1 + class_Size s k2) (by omega)]
        simp only [Bool.or_eq_false_iff, Bool.and_eq_false_iff, beq_eq_false_iff_ne, bne_eq_false_iff_eq, ne_eq, Bool.and_true] at h3
        rcases (by omega : (pg < pg2 ∨ (pg = pg2 ∧ k = k2 ∧ x < x2)) ∨ (pg2 < pg ∨ (pg2 = pg ∧ k2 = k ∧ x2 < x))) with hd | hd
        · exact .inl (apart_in h h2 hd)
        · exact .inr (apart_in h2 h hd)
end Go.Proofs.Ytaenbinoejnecaa

/-
  DERIVED. Plain arithmetic of infos: what is put is got, and both texts of it agree.
-/
import Derived.Test.YtaenbinoejnecaaPlHalf
namespace Go.Proofs.Ytaenbinoejnecaa
open Go

theorem info_right_iff {k l c : Int} : info_right k l c = true ↔ (k = 0 ∧ l = 0 ∧ c = 0) ∨ ((k = 1 ∨ k = 2) ∧ 1 ≤ l ∧ l ≤ 1024 ∧ c = 0) ∨ (k = 3 ∧ l = 1 ∧ 0 ≤ c ∧ c ≤ 8) := by
  unfold info_right
  by_cases h0 : k = 0
  · subst h0; simp
  · by_cases h3 : k = 3
    · subst h3
      by_cases hc : c < 0 ∨ 9 ≤ c
      · rcases hc with hc | hc <;> simp [hc] <;> omega
      · simp [show ¬ c < 0 by omega, show ¬ c ≥ 9 by omega]; omega
    · by_cases h1 : k = 1
      · subst h1; simp; omega
      · by_cases h2 : k = 2
        · subst h2; simp; omega
        · simp [h0, h1, h2, h3]
theorem r09_Right_iff {k l c : Int} : r09_Right k l c = true ↔ (k = 0 ∧ l = 0 ∧ c = 0) ∨ ((k = 1 ∨ k = 2) ∧ 1 ≤ l ∧ l ≤ 1024 ∧ c = 0) ∨ (k = 3 ∧ l = 1 ∧ 0 ≤ c ∧ c ≤ 8) := by
  unfold r09_Right
  by_cases h0 : k = 0
  · subst h0; simp
  · by_cases h1 : k = 1
    · subst h1; simp; omega
    · by_cases h2 : k = 2
      · subst h2; simp; omega
      · by_cases h3 : k = 3
        · subst h3; simp; omega
        · simp [h0, h1, h2, h3]
theorem right_same (k l c : Int) : info_right k l c = r09_Right k l c := by
  rw [Bool.eq_iff_iff, info_right_iff, r09_Right_iff]

theorem info_Put_eq {k l c : Int} (h : info_right k l c = true) : info_Put k l c = (k + 16 * l + 65536 * c, true) := by
  have hr := info_right_iff.1 h
  unfold info_Put
  rw [h]
  obtain ⟨K, rfl⟩ : ∃ K : Nat, k = K := ⟨k.toNat, by omega⟩
  obtain ⟨L, rfl⟩ : ∃ L : Nat, l = L := ⟨l.toNat, by omega⟩
  obtain ⟨C, rfl⟩ : ∃ C : Nat, c = C := ⟨c.toNat, by omega⟩
  rw [wrap_u64_nat (by omega), wrap_u64_nat (by omega), wrap_u64_nat (by omega)]
  have e1 : half_Put (K : Int) 4 12 (L : Int) = (((putW K 4 12 L : Nat) : Int), true) := half_Put_eq (W := K) (x := 4) (y := 12) (V := L) (by omega) (by omega) (by omega)
  have e2 : putW K 4 12 L = L * 16 + K := putW_add (W := K) (x := 4) (y := 12) (V := L) (by omega) (by omega) (by omega)
  have e3 : half_Put ((L * 16 + K : Nat) : Int) 16 4 (C : Int) = (((putW (L * 16 + K) 16 4 C : Nat) : Int), true) := half_Put_eq (W := L * 16 + K) (x := 16) (y := 4) (V := C) (by omega) (by omega) (by omega)
  have e4 : putW (L * 16 + K) 16 4 C = C * 65536 + (L * 16 + K) := putW_add (W := L * 16 + K) (x := 16) (y := 4) (V := C) (by omega) (by omega) (by omega)
  rw [e1, e2]
  show (bif !true then _ else (half_Lo (half_Put ((L * 16 + K : Nat) : Int) 16 4 (C : Int)).1, true)) = _
  rw [e3, e4]
  refine Prod.ext ?_ rfl
  show IntKind.wrap IntKind.u32 _ = _
  rw [wrap_u32_nat (by omega)]
  show _ = (K : Int) + 16 * L + 65536 * C
  omega
theorem info_Put_no {k l c : Int} (h : info_right k l c = false) : info_Put k l c = (0, false) := by unfold info_Put; rw [h]; rfl
theorem r09_Put_eq {k l c : Int} (h : info_right k l c = true) : r09_Put k l c = (k + 16 * l + 65536 * c, true) := by
  have hr := info_right_iff.1 h
  unfold r09_Put
  rw [← right_same, h]
  simp only [Bool.not_true, cond_false, Prod.mk.injEq, and_true]
  rw [wrap_i64_id (n := 16 * l) (by omega), wrap_i64_id (n := 65536 * c) (by omega), wrap_i64_id (n := k + 16 * l) (by omega), wrap_i64_id (by omega), IntKind.wrap_u32]
  omega
theorem r09_Put_no {k l c : Int} (h : info_right k l c = false) : r09_Put k l c = (0, false) := by unfold r09_Put; rw [← right_same, h]; rfl
theorem put_same (k l c : Int) : info_Put k l c = r09_Put k l c := by
  cases h : info_right k l c
  · rw [info_Put_no h, r09_Put_no h]
  · rw [info_Put_eq h, r09_Put_eq h]

theorem l09_live_true : l09_live = true := by
  have h1 : info_right 1 4 0 = true := info_right_iff.2 (by omega)
  have h2 : info_right 3 1 2 = true := info_right_iff.2 (by omega)
  unfold l09_live
  rw [info_Put_eq h1, info_Put_eq h2]
  rfl

/-- What 'info.Get' comes to on a value. -/
theorem info_Get_eq {v : Int} (h0 : 0 ≤ v) (hv : v < 4294967296) : info_Get v = bif info_right (v % 16) (v / 16 % 4096) (v / 65536) then (v % 16, v / 16 % 4096, v / 65536, true) else (0, 0, 0, false) := by
  obtain ⟨n, rfl⟩ : ∃ n : Nat, v = n := ⟨v.toNat, by omega⟩
  have g1 : half_Get (n : Int) 20 44 = ((n / 2 ^ 20 % 2 ^ 44 : Nat) : Int) := half_Get_eq (W := n) (x := 20) (y := 44) (by omega) (by omega) (by omega)
  have g2 : half_Get (n : Int) 0 4 = ((n / 2 ^ 0 % 2 ^ 4 : Nat) : Int) := half_Get_eq (W := n) (x := 0) (y := 4) (by omega) (by omega) (by omega)
  have g3 : half_Get (n : Int) 4 12 = ((n / 2 ^ 4 % 2 ^ 12 : Nat) : Int) := half_Get_eq (W := n) (x := 4) (y := 12) (by omega) (by omega) (by omega)
  have g4 : half_Get (n : Int) 16 4 = ((n / 2 ^ 16 % 2 ^ 4 : Nat) : Int) := half_Get_eq (W := n) (x := 16) (y := 4) (by omega) (by omega) (by omega)
  have e1 : ((n / 2 ^ 20 % 2 ^ 44 : Nat) : Int) = (n : Int) / 1048576 := by omega
  have e2 : ((n / 2 ^ 0 % 2 ^ 4 : Nat) : Int) = (n : Int) % 16 := by omega
  have e3 : ((n / 2 ^ 4 % 2 ^ 12 : Nat) : Int) = (n : Int) / 16 % 4096 := by omega
  have e4 : ((n / 2 ^ 16 % 2 ^ 4 : Nat) : Int) = (n : Int) / 65536 % 16 := by omega
  rw [e1] at g1; rw [e2] at g2; rw [e3] at g3; rw [e4] at g4
  unfold info_Get
  rw [wrap_u64_nat (by omega), g1, g2, g3, g4, wrap_i64_id (n := (n : Int) % 16) (by omega), wrap_i64_id (n := (n : Int) / 16 % 4096) (by omega), wrap_i64_id (n := (n : Int) / 65536 % 16) (by omega)]
  by_cases hz : (n : Int) / 1048576 = 0
  · have : (n : Int) / 65536 % 16 = n / 65536 := by omega
    rw [this, hz]
    cases info_right ((n : Int) % 16) ((n : Int) / 16 % 4096) ((n : Int) / 65536) <;> rfl
  · have hr : info_right ((n : Int) % 16) ((n : Int) / 16 % 4096) ((n : Int) / 65536) = false := by
      rw [Bool.eq_false_iff, Ne, info_right_iff]; omega
    have hb : (((n : Int) / 1048576) != 0) = true := bne_iff_ne.2 hz
    rw [hr, hb]
    rfl
theorem r09_Get_eq {v : Int} (h0 : 0 ≤ v) (hv : v < 4294967296) : r09_Get v = bif info_right (v % 16) (v / 16 % 4096) (v / 65536) then (v % 16, v / 16 % 4096, v / 65536, true) else (0, 0, 0, false) := by
  unfold r09_Get
  have t1 : Int.tmod v 16 = v % 16 := Int.tmod_eq_emod_of_nonneg h0
  have t2 : Int.tdiv v 16 = v / 16 := Int.tdiv_eq_ediv_of_nonneg h0
  have t3 : Int.tdiv v 65536 = v / 65536 := Int.tdiv_eq_ediv_of_nonneg h0
  have t4 : Int.tmod (v / 16) 4096 = v / 16 % 4096 := Int.tmod_eq_emod_of_nonneg (by omega)
  have w1 : IntKind.wrap IntKind.u32 (v / 16) = v / 16 := by rw [IntKind.wrap_u32]; omega
  have w2 : IntKind.wrap IntKind.u32 (v / 65536) = v / 65536 := by rw [IntKind.wrap_u32]; omega
  rw [t1, t2, t3, w1, w2, t4, wrap_i64_id (n := v % 16) (by omega), wrap_i64_id (n := v / 16 % 4096) (by omega), wrap_i64_id (n := v / 65536) (by omega), ← right_same]
  cases info_right (v % 16) (v / 16 % 4096) (v / 65536) <;> rfl

theorem InfoPuts_true (k l c : Int) : InfoPuts k l c = true := by
  unfold InfoPuts
  rw [put_same, l09_live_true]
  simp
theorem InfoGets_true {v : Int} (h0 : 0 ≤ v) (hv : v < 4294967296) : InfoGets v = true := by
  unfold InfoGets
  rw [info_Get_eq h0 hv, r09_Get_eq h0 hv, l09_live_true]
  simp
theorem InfoBack_true (k l c : Int) {v : Int} (h0 : 0 ≤ v) (hv : v < 4294967296) : InfoBack k l c v = true := by
  have second : (bif (info_Get v).2.2.2 then (info_Put (info_Get v).1 (info_Get v).2.1 (info_Get v).2.2.1).2 && (info_Put (info_Get v).1 (info_Get v).2.1 (info_Get v).2.2.1).1 == v && l09_live
      else (info_Get v).1 == 0 && ((info_Get v).2.1 == 0 && ((info_Get v).2.2.1 == 0 && true)) && l09_live) = true := by
    rw [info_Get_eq h0 hv, l09_live_true]
    cases hr : info_right (v % 16) (v / 16 % 4096) (v / 65536)
    · rfl
    · simp only [cond_true]
      rw [info_Put_eq hr]
      simp
      omega
  unfold InfoBack
  cases hr : info_right k l c
  · rw [info_Put_no hr]
    simp only [cond_false]
    exact second
  · rw [info_Put_eq hr]
    have h := info_right_iff.1 hr
    have e1 : (k + 16 * l + 65536 * c) % 16 = k := by omega
    have e2 : (k + 16 * l + 65536 * c) / 16 % 4096 = l := by omega
    have e3 : (k + 16 * l + 65536 * c) / 65536 = c := by omega
    have g := info_Get_eq (v := k + 16 * l + 65536 * c) (by omega) (by omega)
    rw [e1, e2, e3, hr] at g
    simp only [cond_true] at g ⊢
    rw [g]
    simpa using second
end Go.Proofs.Ytaenbinoejnecaa

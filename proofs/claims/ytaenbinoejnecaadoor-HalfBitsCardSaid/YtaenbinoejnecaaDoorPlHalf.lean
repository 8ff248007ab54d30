/-
  DERIVED. Plain laws of halves.
-/
import Derived.Test.YtaenbinoejnecaaDoorSlHalf
namespace Go.Proofs.YtaenbinoejnecaaDoor
open Go Go.Sl

theorem wrap_u64_nat {n : Nat} (h : n < 18446744073709551616) : IntKind.wrap IntKind.u64 (n : Int) = (n : Int) := by rw [IntKind.wrap_u64]; omega

theorem half_Join_eq {x y : Int} (hx : 0 ≤ x ∧ x < 4294967296) (hy : 0 ≤ y ∧ y < 4294967296) : half_Join x y = x * 4294967296 + y := by
  obtain ⟨X, rfl⟩ : ∃ X : Nat, x = X := ⟨x.toNat, by omega⟩
  obtain ⟨Y, rfl⟩ : ∃ Y : Nat, y = Y := ⟨y.toNat, by omega⟩
  unfold half_Join
  have e0 : ((X : Int) * 4294967296) = ((4294967296 * X : Nat) : Int) := by omega
  have h1 : IntKind.wrap IntKind.u64 (X : Int) = X := wrap_u64_nat (by omega)
  have h2 : IntKind.wrap IntKind.u64 (Y : Int) = Y := wrap_u64_nat (by omega)
  rw [h1, h2, e0, wrap_u64_nat (n := 4294967296 * X) (by omega)]
  have e : ∀ n : Nat, BitVec.ofInt 64 (n : Int) = BitVec.ofNat 64 n := fun n => by apply BitVec.eq_of_toNat_eq; simp
  rw [e, e, BitVec.toNat_or, BitVec.toNat_ofNat, BitVec.toNat_ofNat, Nat.mod_eq_of_lt (by omega), Nat.mod_eq_of_lt (by omega)]
  have h := Nat.two_pow_add_eq_or_of_lt (i := 32) (b := Y) (by omega) X
  rw [show (2 : Nat) ^ 32 = 4294967296 by rfl] at h
  rw [← h, wrap_u64_nat (by omega)]
  omega

theorem HalfJoins_true {w x y : Int} (hw : 0 ≤ w ∧ w < 18446744073709551616) (hx : 0 ≤ x ∧ x < 4294967296) (hy : 0 ≤ y ∧ y < 4294967296) : HalfJoins w x y = true := by
  have e1 : half_Hi w = w / 4294967296 := by
    unfold half_Hi; rw [Int.fdiv_eq_ediv_of_nonneg _ (by omega), IntKind.wrap_u32]; omega
  have e2 : half_Lo w = w % 4294967296 := by
    unfold half_Lo; rw [IntKind.wrap_u32]
  have e3 : r01_Hi w = w / 4294967296 := by
    unfold r01_Hi; rw [Int.tdiv_eq_ediv_of_nonneg (by omega), IntKind.wrap_u64, IntKind.wrap_u32]; omega
  have e4 : r01_Lo w = w % 4294967296 := by
    unfold r01_Lo; rw [Int.tmod_eq_emod_of_nonneg (by omega), IntKind.wrap_u32]; omega
  have e5 : r01_Join x y = x * 4294967296 + y := by
    unfold r01_Join; simp only [IntKind.wrap_u64]; omega
  have e6 : half_Hi (x * 4294967296 + y) = x := by
    unfold half_Hi; rw [Int.fdiv_eq_ediv_of_nonneg _ (by omega), IntKind.wrap_u32]; omega
  have e7 : half_Lo (x * 4294967296 + y) = y := by
    unfold half_Lo; rw [IntKind.wrap_u32]; omega
  unfold HalfJoins
  rw [half_Join_eq hx hy, e1, e2, e3, e4, e5, e6, e7, half_Join_eq (by omega) (by omega)]
  have e8 : w / 4294967296 * 4294967296 + w % 4294967296 = w := by omega
  rw [e8]
  simp [l01_live]
end Go.Proofs.YtaenbinoejnecaaDoor

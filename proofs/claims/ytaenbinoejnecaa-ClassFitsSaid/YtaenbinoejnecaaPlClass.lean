/-
  DERIVED. The laws of the classes, in plain Lean.
-/
import Derived.Test.YtaenbinoejnecaaSlClassL
namespace Go.Proofs.Ytaenbinoejnecaa
open Go.Sl

theorem table_same (s : Int) : class_Table s = r05_Table s := by
  simp only [class_Table, r05_Table, size_same]
theorem Of_same (s z : Int) : class_Of s z = r05_Of s z := by
  unfold class_Of r05_Of
  cases hz : decide (z < 1) with
  | true => rfl
  | false =>
    simp only [cond_false, IndexGe, table_same]
    cases hf : firstGe (r05_Table s) z with
    | none => rfl
    | some k =>
      have h0 : ¬ ((0 : Int) > idxOr (some k)) := by simp only [idxOr]; omega
      rw [if_neg h0]
      simp [idxOr, ofOpt]
theorem ClassTables_true (s k : Int) : ClassTables s k = true := by
  simp [ClassTables, slots_same, size_same, table_same, Longs, l05_live]
theorem ClassOf_true (s z : Int) : ClassOf s z = true := by
  simp [ClassOf, Of_same, l05_live]
end Go.Proofs.Ytaenbinoejnecaa

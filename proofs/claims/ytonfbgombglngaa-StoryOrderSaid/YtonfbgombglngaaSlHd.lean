/-
  DERIVED. What the texts over this translation share: no objects.
-/
import Derived.Test.YtonfbgombglngaaSlO
import Derived.Test.YtonfbgombglngaaProg
namespace Go.Proofs.Ytonfbgombglngaa
open Go.Sl
abbrev Sg := Unit
def Dg : Addr → Sg → Asn := fun _ _ _ => True
theorem mix : Try.prog.follows .mixedOrders = true := by kernel_rfl
def T_nil : List (Nat × Entry Sg) := []
theorem T_nil_ok : TableOk Dg Try.prog T_nil := TableOk.nil Dg _
end Go.Proofs.Ytonfbgombglngaa

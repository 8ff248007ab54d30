/-
  No cell of these rows narrows 'for every input' (looked for: loops, veiled, ifaces, maps, wideKeys, modest, calm, conditions, laid).
  DERIVED. THE GIVEN ROWS OF THIS SEAT. 10 by the template 'for every input the law returns true; each argument reads behind the call as it read before'; 0 by the template 'total and deterministic' (their statements: YtaenbinoejnecaaTotals.lean).
  GIVEN WITH THE SEED: the statements are not yours to turn. If you find one false, say at which input.
  Laid BY PROGRAM, IN A SANDBOX (cutbox-rows.mjs): the forced cells as the released guide's own fill.sh prints them over the translation c30ba72f52fdecd5… (all of the seat's roots in one cut). By AI agents, Wed Nov 11 2026. No macro, syntax, notation, axiom, sorry.
-/
import Derived.Test.YtaenbinoejnecaaChecked
import GoSem.Claim
import GoSem.ClaimJoined
import GoSem.ClaimMapViews
import Derived.JoinedTies
import Derived.KernelRfl
namespace Go.Proofs.Ytaenbinoejnecaa
/- THE CELL 'sum', in the pinned program and in every row, IS THE sha256 OF THE DUMP (.gsa) THAT YtaenbinoejnecaaProg.lean LOADS. Nothing in Lean hashes anything: it is a label: what it is worth is what the hold of that sum in a sandbox is worth. -/
noncomputable def Try.pinned : Pinned := { name := "ytaenbinoejnecaa", sum := "c30ba72f52fdecd548fc2966e5f2441170f2b4a78d81cf63af787be546f82022", checked := Try.checked }
namespace Rows
def none {H : Type} : Left H := { results := [], args := [] }

/-- 'nacrelaw09.InfoPuts': WHATEVER THE INPUT: true; the input reads as it did. -/
def infoPutsSpec : ChangeSpec := { name := "infoPuts", fn := fun _ => fun
  | [d] => { results := [.lit (.bool true)], args := [d] }
  | _ => none }
def infoPutsRow : OpenClaim := { program := "ytaenbinoejnecaa", sum := "c30ba72f52fdecd548fc2966e5f2441170f2b4a78d81cf63af787be546f82022", func := "nacre/nacrelaw09.InfoPuts", spec := "infoPuts", apart := false }
def InfoPutsSaid : Prop := infoPutsRow.holds Try.pinned (OpenSpec.ofChange infoPutsSpec)

/-- ITS FALSE NEIGHBOUR: 'it returns false'. Refute it at one input. -/
def infoPutsWrong : ChangeSpec := { name := "infoPuts", fn := fun _ => fun
  | [d] => { results := [.lit (.bool false)], args := [d] }
  | _ => none }
def InfoPutsWrongFalsely : Prop := infoPutsRow.holds Try.pinned (OpenSpec.ofChange infoPutsWrong)

/-- 'nacrelaw05.ClassTables': WHATEVER THE INPUT: true; the input reads as it did. -/
def classTablesSpec : ChangeSpec := { name := "classTables", fn := fun _ => fun
  | [d1, d2] => { results := [.lit (.bool true)], args := [d1, d2] }
  | _ => none }
def classTablesRow : OpenClaim := { program := "ytaenbinoejnecaa", sum := "c30ba72f52fdecd548fc2966e5f2441170f2b4a78d81cf63af787be546f82022", func := "nacre/nacrelaw05.ClassTables", spec := "classTables", unfollowed := true, recurses := true, apart := false }
def ClassTablesSaid : Prop := classTablesRow.holds Try.pinned (OpenSpec.ofChange classTablesSpec)

/-- ITS FALSE NEIGHBOUR: 'it returns false'. Refute it at one input. -/
def classTablesWrong : ChangeSpec := { name := "classTables", fn := fun _ => fun
  | [d1, d2] => { results := [.lit (.bool false)], args := [d1, d2] }
  | _ => none }
def ClassTablesWrongFalsely : Prop := classTablesRow.holds Try.pinned (OpenSpec.ofChange classTablesWrong)

/-- 'nacrelaw05.ClassOf': WHATEVER THE INPUT: true; the input reads as it did. -/
def classOfSpec : ChangeSpec := { name := "classOf", fn := fun _ => fun
  | [d1, d2] => { results := [.lit (.bool true)], args := [d1, d2] }
  | _ => none }
def classOfRow : OpenClaim := { program := "ytaenbinoejnecaa", sum := "c30ba72f52fdecd548fc2966e5f2441170f2b4a78d81cf63af787be546f82022", func := "nacre/nacrelaw05.ClassOf", spec := "classOf", unfollowed := true, recurses := true, apart := false }
def ClassOfSaid : Prop := classOfRow.holds Try.pinned (OpenSpec.ofChange classOfSpec)

/-- ITS FALSE NEIGHBOUR: 'it returns false'. Refute it at one input. -/
def classOfWrong : ChangeSpec := { name := "classOf", fn := fun _ => fun
  | [d1, d2] => { results := [.lit (.bool false)], args := [d1, d2] }
  | _ => none }
def ClassOfWrongFalsely : Prop := classOfRow.holds Try.pinned (OpenSpec.ofChange classOfWrong)

/-- 'nacrelaw05.ClassFits': WHATEVER THE INPUT: true; the input reads as it did. -/
def classFitsSpec : ChangeSpec := { name := "classFits", fn := fun _ => fun
  | [d1, d2] => { results := [.lit (.bool true)], args := [d1, d2] }
  | _ => none }
def classFitsRow : OpenClaim := { program := "ytaenbinoejnecaa", sum := "c30ba72f52fdecd548fc2966e5f2441170f2b4a78d81cf63af787be546f82022", func := "nacre/nacrelaw05.ClassFits", spec := "classFits", unfollowed := true, recurses := true, apart := false }
def ClassFitsSaid : Prop := classFitsRow.holds Try.pinned (OpenSpec.ofChange classFitsSpec)

/-- ITS FALSE NEIGHBOUR: 'it returns false'. Refute it at one input. -/
def classFitsWrong : ChangeSpec := { name := "classFits", fn := fun _ => fun
  | [d1, d2] => { results := [.lit (.bool false)], args := [d1, d2] }
  | _ => none }
def ClassFitsWrongFalsely : Prop := classFitsRow.holds Try.pinned (OpenSpec.ofChange classFitsWrong)

/-- 'nacrelaw09.InfoGets': WHATEVER THE INPUT: true; the input reads as it did. -/
def infoGetsSpec : ChangeSpec := { name := "infoGets", fn := fun _ => fun
  | [d] => { results := [.lit (.bool true)], args := [d] }
  | _ => none }
def infoGetsRow : OpenClaim := { program := "ytaenbinoejnecaa", sum := "c30ba72f52fdecd548fc2966e5f2441170f2b4a78d81cf63af787be546f82022", func := "nacre/nacrelaw09.InfoGets", spec := "infoGets", apart := false }
def InfoGetsSaid : Prop := infoGetsRow.holds Try.pinned (OpenSpec.ofChange infoGetsSpec)

/-- ITS FALSE NEIGHBOUR: 'it returns false'. Refute it at one input. -/
def infoGetsWrong : ChangeSpec := { name := "infoGets", fn := fun _ => fun
  | [d] => { results := [.lit (.bool false)], args := [d] }
  | _ => none }
def InfoGetsWrongFalsely : Prop := infoGetsRow.holds Try.pinned (OpenSpec.ofChange infoGetsWrong)

/-- 'nacrelaw09.InfoBack': WHATEVER THE INPUT: true; the input reads as it did. -/
def infoBackSpec : ChangeSpec := { name := "infoBack", fn := fun _ => fun
  | [d1, d2] => { results := [.lit (.bool true)], args := [d1, d2] }
  | _ => none }
def infoBackRow : OpenClaim := { program := "ytaenbinoejnecaa", sum := "c30ba72f52fdecd548fc2966e5f2441170f2b4a78d81cf63af787be546f82022", func := "nacre/nacrelaw09.InfoBack", spec := "infoBack", apart := false }
def InfoBackSaid : Prop := infoBackRow.holds Try.pinned (OpenSpec.ofChange infoBackSpec)

/-- ITS FALSE NEIGHBOUR: 'it returns false'. Refute it at one input. -/
def infoBackWrong : ChangeSpec := { name := "infoBack", fn := fun _ => fun
  | [d1, d2] => { results := [.lit (.bool false)], args := [d1, d2] }
  | _ => none }
def InfoBackWrongFalsely : Prop := infoBackRow.holds Try.pinned (OpenSpec.ofChange infoBackWrong)

/-- 'nacrelaw06.AddrOf': WHATEVER THE INPUT: true; the input reads as it did. -/
def addrOfSpec : ChangeSpec := { name := "addrOf", fn := fun _ => fun
  | [d1, d2, d3] => { results := [.lit (.bool true)], args := [d1, d2, d3] }
  | _ => none }
def addrOfRow : OpenClaim := { program := "ytaenbinoejnecaa", sum := "c30ba72f52fdecd548fc2966e5f2441170f2b4a78d81cf63af787be546f82022", func := "nacre/nacrelaw06.AddrOf", spec := "addrOf", unfollowed := true, recurses := true, apart := false }
def AddrOfSaid : Prop := addrOfRow.holds Try.pinned (OpenSpec.ofChange addrOfSpec)

/-- ITS FALSE NEIGHBOUR: 'it returns false'. Refute it at one input. -/
def addrOfWrong : ChangeSpec := { name := "addrOf", fn := fun _ => fun
  | [d1, d2, d3] => { results := [.lit (.bool false)], args := [d1, d2, d3] }
  | _ => none }
def AddrOfWrongFalsely : Prop := addrOfRow.holds Try.pinned (OpenSpec.ofChange addrOfWrong)

/-- 'nacrelaw06.AddrSlots': WHATEVER THE INPUT: true; the input reads as it did. -/
def addrSlotsSpec : ChangeSpec := { name := "addrSlots", fn := fun _ => fun
  | [d1, d2, d3] => { results := [.lit (.bool true)], args := [d1, d2, d3] }
  | _ => none }
def addrSlotsRow : OpenClaim := { program := "ytaenbinoejnecaa", sum := "c30ba72f52fdecd548fc2966e5f2441170f2b4a78d81cf63af787be546f82022", func := "nacre/nacrelaw06.AddrSlots", spec := "addrSlots", unfollowed := true, recurses := true, apart := false }
def AddrSlotsSaid : Prop := addrSlotsRow.holds Try.pinned (OpenSpec.ofChange addrSlotsSpec)

/-- ITS FALSE NEIGHBOUR: 'it returns false'. Refute it at one input. -/
def addrSlotsWrong : ChangeSpec := { name := "addrSlots", fn := fun _ => fun
  | [d1, d2, d3] => { results := [.lit (.bool false)], args := [d1, d2, d3] }
  | _ => none }
def AddrSlotsWrongFalsely : Prop := addrSlotsRow.holds Try.pinned (OpenSpec.ofChange addrSlotsWrong)

/-- 'nacrelaw06.AddrBack': WHATEVER THE INPUT: true; the input reads as it did. -/
def addrBackSpec : ChangeSpec := { name := "addrBack", fn := fun _ => fun
  | [d1, d2, d3] => { results := [.lit (.bool true)], args := [d1, d2, d3] }
  | _ => none }
def addrBackRow : OpenClaim := { program := "ytaenbinoejnecaa", sum := "c30ba72f52fdecd548fc2966e5f2441170f2b4a78d81cf63af787be546f82022", func := "nacre/nacrelaw06.AddrBack", spec := "addrBack", unfollowed := true, recurses := true, apart := false }
def AddrBackSaid : Prop := addrBackRow.holds Try.pinned (OpenSpec.ofChange addrBackSpec)

/-- ITS FALSE NEIGHBOUR: 'it returns false'. Refute it at one input. -/
def addrBackWrong : ChangeSpec := { name := "addrBack", fn := fun _ => fun
  | [d1, d2, d3] => { results := [.lit (.bool false)], args := [d1, d2, d3] }
  | _ => none }
def AddrBackWrongFalsely : Prop := addrBackRow.holds Try.pinned (OpenSpec.ofChange addrBackWrong)

/-- 'nacrelaw06.AddrApart': WHATEVER THE INPUT: true; the input reads as it did. -/
def addrApartSpec : ChangeSpec := { name := "addrApart", fn := fun _ => fun
  | [d1, d2, d3] => { results := [.lit (.bool true)], args := [d1, d2, d3] }
  | _ => none }
def addrApartRow : OpenClaim := { program := "ytaenbinoejnecaa", sum := "c30ba72f52fdecd548fc2966e5f2441170f2b4a78d81cf63af787be546f82022", func := "nacre/nacrelaw06.AddrApart", spec := "addrApart", unfollowed := true, recurses := true, apart := false }
def AddrApartSaid : Prop := addrApartRow.holds Try.pinned (OpenSpec.ofChange addrApartSpec)

/-- ITS FALSE NEIGHBOUR: 'it returns false'. Refute it at one input. -/
def addrApartWrong : ChangeSpec := { name := "addrApart", fn := fun _ => fun
  | [d1, d2, d3] => { results := [.lit (.bool false)], args := [d1, d2, d3] }
  | _ => none }
def AddrApartWrongFalsely : Prop := addrApartRow.holds Try.pinned (OpenSpec.ofChange addrApartWrong)

/- THE SECOND FORM. 'bulk': how many values and letters a reading holds, each counted each time it is reached (what is shared counts as often as it is met; a slice's spare places count too). A statement '..UptoSaid' is the law's where the arguments, and the package variables that the reading takes, are together of bulk at most 1048576: NARROWER than '..Said'. Prove '..Said' where nothing that the law and all that it calls make is longer than what came in: it says more and counts as full. Else prove '..UptoSaid'. A law counts once. -/
mutual
def uptoBulk {H : Type} : DataW H → Nat
  | .lit (.string bytes) => bytes.length + 1
  | .lit _ => 1
  | .nil => 1
  | .ptr d => uptoBulk d + 1
  | .slice elems spare => uptoBulkAll elems + uptoBulkAll spare + 1
  | .agg parts => uptoBulkAll parts + 1
  | .iface _ d => uptoBulk d + 1
  | .map entries => uptoBulkEntries entries + 1
  | .held _ => 1
def uptoBulkAll {H : Type} : List (DataW H) → Nat
  | [] => 0
  | d :: r => uptoBulk d + uptoBulkAll r
def uptoBulkEntries {H : Type} : List (Lit × DataW H) → Nat
  | [] => 0
  | x :: r => uptoBulkEntry x + uptoBulkEntries r
def uptoBulkEntry {H : Type} : Lit × DataW H → Nat
  | (.string bytes, d) => bytes.length + uptoBulk d + 1
  | (_, d) => uptoBulk d + 1
 end
def uptoSmall : (H : Type) → List (DataW H) → Bool := fun _ ds => decide (uptoBulkAll ds ≤ 1048576)
def OpenSpec.upto (s : _root_.Go.ChangeSpec) : _root_.Go.OpenSpec := { _root_.Go.OpenSpec.ofChange s with cond := some uptoSmall }

/-- 'nacrelaw09.InfoPuts', WHERE WHAT IT READS IS OF BULK AT MOST 1048576: true; the input reads as it did. -/
def infoPutsUptoRow : OpenClaim := { program := "ytaenbinoejnecaa", sum := "c30ba72f52fdecd548fc2966e5f2441170f2b4a78d81cf63af787be546f82022", func := "nacre/nacrelaw09.InfoPuts", spec := "infoPuts", apart := false, narrowed := true }
def InfoPutsUptoSaid : Prop := infoPutsUptoRow.holds Try.pinned (OpenSpec.upto infoPutsSpec)

/-- 'nacrelaw05.ClassTables', WHERE WHAT IT READS IS OF BULK AT MOST 1048576: true; the input reads as it did. -/
def classTablesUptoRow : OpenClaim := { program := "ytaenbinoejnecaa", sum := "c30ba72f52fdecd548fc2966e5f2441170f2b4a78d81cf63af787be546f82022", func := "nacre/nacrelaw05.ClassTables", spec := "classTables", unfollowed := true, recurses := true, apart := false, narrowed := true }
def ClassTablesUptoSaid : Prop := classTablesUptoRow.holds Try.pinned (OpenSpec.upto classTablesSpec)

/-- 'nacrelaw05.ClassOf', WHERE WHAT IT READS IS OF BULK AT MOST 1048576: true; the input reads as it did. -/
def classOfUptoRow : OpenClaim := { program := "ytaenbinoejnecaa", sum := "c30ba72f52fdecd548fc2966e5f2441170f2b4a78d81cf63af787be546f82022", func := "nacre/nacrelaw05.ClassOf", spec := "classOf", unfollowed := true, recurses := true, apart := false, narrowed := true }
def ClassOfUptoSaid : Prop := classOfUptoRow.holds Try.pinned (OpenSpec.upto classOfSpec)

/-- 'nacrelaw05.ClassFits', WHERE WHAT IT READS IS OF BULK AT MOST 1048576: true; the input reads as it did. -/
def classFitsUptoRow : OpenClaim := { program := "ytaenbinoejnecaa", sum := "c30ba72f52fdecd548fc2966e5f2441170f2b4a78d81cf63af787be546f82022", func := "nacre/nacrelaw05.ClassFits", spec := "classFits", unfollowed := true, recurses := true, apart := false, narrowed := true }
def ClassFitsUptoSaid : Prop := classFitsUptoRow.holds Try.pinned (OpenSpec.upto classFitsSpec)

/-- 'nacrelaw09.InfoGets', WHERE WHAT IT READS IS OF BULK AT MOST 1048576: true; the input reads as it did. -/
def infoGetsUptoRow : OpenClaim := { program := "ytaenbinoejnecaa", sum := "c30ba72f52fdecd548fc2966e5f2441170f2b4a78d81cf63af787be546f82022", func := "nacre/nacrelaw09.InfoGets", spec := "infoGets", apart := false, narrowed := true }
def InfoGetsUptoSaid : Prop := infoGetsUptoRow.holds Try.pinned (OpenSpec.upto infoGetsSpec)

/-- 'nacrelaw09.InfoBack', WHERE WHAT IT READS IS OF BULK AT MOST 1048576: true; the input reads as it did. -/
def infoBackUptoRow : OpenClaim := { program := "ytaenbinoejnecaa", sum := "c30ba72f52fdecd548fc2966e5f2441170f2b4a78d81cf63af787be546f82022", func := "nacre/nacrelaw09.InfoBack", spec := "infoBack", apart := false, narrowed := true }
def InfoBackUptoSaid : Prop := infoBackUptoRow.holds Try.pinned (OpenSpec.upto infoBackSpec)

/-- 'nacrelaw06.AddrOf', WHERE WHAT IT READS IS OF BULK AT MOST 1048576: true; the input reads as it did. -/
def addrOfUptoRow : OpenClaim := { program := "ytaenbinoejnecaa", sum := "c30ba72f52fdecd548fc2966e5f2441170f2b4a78d81cf63af787be546f82022", func := "nacre/nacrelaw06.AddrOf", spec := "addrOf", unfollowed := true, recurses := true, apart := false, narrowed := true }
def AddrOfUptoSaid : Prop := addrOfUptoRow.holds Try.pinned (OpenSpec.upto addrOfSpec)

/-- 'nacrelaw06.AddrSlots', WHERE WHAT IT READS IS OF BULK AT MOST 1048576: true; the input reads as it did. -/
def addrSlotsUptoRow : OpenClaim := { program := "ytaenbinoejnecaa", sum := "c30ba72f52fdecd548fc2966e5f2441170f2b4a78d81cf63af787be546f82022", func := "nacre/nacrelaw06.AddrSlots", spec := "addrSlots", unfollowed := true, recurses := true, apart := false, narrowed := true }
def AddrSlotsUptoSaid : Prop := addrSlotsUptoRow.holds Try.pinned (OpenSpec.upto addrSlotsSpec)

/-- 'nacrelaw06.AddrBack', WHERE WHAT IT READS IS OF BULK AT MOST 1048576: true; the input reads as it did. -/
def addrBackUptoRow : OpenClaim := { program := "ytaenbinoejnecaa", sum := "c30ba72f52fdecd548fc2966e5f2441170f2b4a78d81cf63af787be546f82022", func := "nacre/nacrelaw06.AddrBack", spec := "addrBack", unfollowed := true, recurses := true, apart := false, narrowed := true }
def AddrBackUptoSaid : Prop := addrBackUptoRow.holds Try.pinned (OpenSpec.upto addrBackSpec)

/-- 'nacrelaw06.AddrApart', WHERE WHAT IT READS IS OF BULK AT MOST 1048576: true; the input reads as it did. -/
def addrApartUptoRow : OpenClaim := { program := "ytaenbinoejnecaa", sum := "c30ba72f52fdecd548fc2966e5f2441170f2b4a78d81cf63af787be546f82022", func := "nacre/nacrelaw06.AddrApart", spec := "addrApart", unfollowed := true, recurses := true, apart := false, narrowed := true }
def AddrApartUptoSaid : Prop := addrApartUptoRow.holds Try.pinned (OpenSpec.upto addrApartSpec)

end Rows
end Go.Proofs.Ytaenbinoejnecaa

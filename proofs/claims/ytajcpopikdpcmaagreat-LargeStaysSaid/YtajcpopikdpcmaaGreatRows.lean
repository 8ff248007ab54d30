/-
  No cell of these rows narrows 'for every input' (looked for: loops, veiled, ifaces, maps, wideKeys, modest, calm, conditions, laid).
  DERIVED. THE GIVEN ROWS OF THIS SEAT. 7 by the template 'for every input the law returns true; each argument reads behind the call as it read before'; 0 by the template 'total and deterministic' (their statements: YtajcpopikdpcmaaGreatTotals.lean).
  GIVEN WITH THE SEED: the statements are not yours to turn. If you find one false, say at which input.
  Laid BY PROGRAM, IN A SANDBOX (cutbox-rows.mjs): the forced cells as the released guide's own fill.sh prints them over the translation 23fa2e650527a237… (all of the seat's roots in one cut). By AI agents, Wed Nov 11 2026. No macro, syntax, notation, axiom, sorry.
-/
import Derived.Test.YtajcpopikdpcmaaGreatChecked
import GoSem.Claim
import GoSem.ClaimJoined
import GoSem.ClaimMapViews
import Derived.JoinedTies
import Derived.KernelRfl
namespace Go.Proofs.YtajcpopikdpcmaaGreat
/- THE CELL 'sum', in the pinned program and in every row, IS THE sha256 OF THE DUMP (.gsa) THAT YtajcpopikdpcmaaGreatProg.lean LOADS. Nothing in Lean hashes anything: it is a label: what it is worth is what the hold of that sum in a sandbox is worth. -/
noncomputable def Tryz.pinned : Pinned := { name := "ytajcpopikdpcmaagreat", sum := "23fa2e650527a237fa8767e2bde77b3717d53515492d3117e743346bfc7e76a3", checked := Tryz.checked }
namespace Rows
def none {H : Type} : Left H := { results := [], args := [] }

/-- 'nacrelaw14.BinBack': WHATEVER THE INPUT: true; the input reads as it did. -/
def binBackSpec : ChangeSpec := { name := "binBack", fn := fun _ => fun
  | [d1, d2, d3] => { results := [.lit (.bool true)], args := [d1, d2, d3] }
  | _ => none }
def binBackRow : OpenClaim := { program := "ytajcpopikdpcmaagreat", sum := "23fa2e650527a237fa8767e2bde77b3717d53515492d3117e743346bfc7e76a3", func := "nacre/nacrelaw14.BinBack", spec := "binBack", unfollowed := true, recurses := true, apart := false }
def BinBackSaid : Prop := binBackRow.holds Tryz.pinned (OpenSpec.ofChange binBackSpec)

/-- ITS FALSE NEIGHBOUR: 'it returns false'. Refute it at one input. -/
def binBackWrong : ChangeSpec := { name := "binBack", fn := fun _ => fun
  | [d1, d2, d3] => { results := [.lit (.bool false)], args := [d1, d2, d3] }
  | _ => none }
def BinBackWrongFalsely : Prop := binBackRow.holds Tryz.pinned (OpenSpec.ofChange binBackWrong)

/-- 'nacrelaw15.SpanKeeps': WHATEVER THE INPUT: true; the input reads as it did. -/
def spanKeepsSpec : ChangeSpec := { name := "spanKeeps", fn := fun _ => fun
  | [d1, d2, d3] => { results := [.lit (.bool true)], args := [d1, d2, d3] }
  | _ => none }
def spanKeepsRow : OpenClaim := { program := "ytajcpopikdpcmaagreat", sum := "23fa2e650527a237fa8767e2bde77b3717d53515492d3117e743346bfc7e76a3", func := "nacre/nacrelaw15.SpanKeeps", spec := "spanKeeps", unfollowed := true, recurses := true, apart := false }
def SpanKeepsSaid : Prop := spanKeepsRow.holds Tryz.pinned (OpenSpec.ofChange spanKeepsSpec)

/-- ITS FALSE NEIGHBOUR: 'it returns false'. Refute it at one input. -/
def spanKeepsWrong : ChangeSpec := { name := "spanKeeps", fn := fun _ => fun
  | [d1, d2, d3] => { results := [.lit (.bool false)], args := [d1, d2, d3] }
  | _ => none }
def SpanKeepsWrongFalsely : Prop := spanKeepsRow.holds Tryz.pinned (OpenSpec.ofChange spanKeepsWrong)

/-- 'nacrelaw15.SpanJoins': WHATEVER THE INPUT: true; the input reads as it did. -/
def spanJoinsSpec : ChangeSpec := { name := "spanJoins", fn := fun _ => fun
  | [d1, d2, d3] => { results := [.lit (.bool true)], args := [d1, d2, d3] }
  | _ => none }
def spanJoinsRow : OpenClaim := { program := "ytajcpopikdpcmaagreat", sum := "23fa2e650527a237fa8767e2bde77b3717d53515492d3117e743346bfc7e76a3", func := "nacre/nacrelaw15.SpanJoins", spec := "spanJoins", unfollowed := true, recurses := true, apart := false }
def SpanJoinsSaid : Prop := spanJoinsRow.holds Tryz.pinned (OpenSpec.ofChange spanJoinsSpec)

/-- ITS FALSE NEIGHBOUR: 'it returns false'. Refute it at one input. -/
def spanJoinsWrong : ChangeSpec := { name := "spanJoins", fn := fun _ => fun
  | [d1, d2, d3] => { results := [.lit (.bool false)], args := [d1, d2, d3] }
  | _ => none }
def SpanJoinsWrongFalsely : Prop := spanJoinsRow.holds Tryz.pinned (OpenSpec.ofChange spanJoinsWrong)

/-- 'nacrelaw19.LargeStays': WHATEVER THE INPUT: true; the input reads as it did. -/
def largeStaysSpec : ChangeSpec := { name := "largeStays", fn := fun _ => fun
  | [d1, d2, d3] => { results := [.lit (.bool true)], args := [d1, d2, d3] }
  | _ => none }
def largeStaysRow : OpenClaim := { program := "ytajcpopikdpcmaagreat", sum := "23fa2e650527a237fa8767e2bde77b3717d53515492d3117e743346bfc7e76a3", func := "nacre/nacrelaw19.LargeStays", spec := "largeStays", unfollowed := true, recurses := true, apart := false }
def LargeStaysSaid : Prop := largeStaysRow.holds Tryz.pinned (OpenSpec.ofChange largeStaysSpec)

/-- ITS FALSE NEIGHBOUR: 'it returns false'. Refute it at one input. -/
def largeStaysWrong : ChangeSpec := { name := "largeStays", fn := fun _ => fun
  | [d1, d2, d3] => { results := [.lit (.bool false)], args := [d1, d2, d3] }
  | _ => none }
def LargeStaysWrongFalsely : Prop := largeStaysRow.holds Tryz.pinned (OpenSpec.ofChange largeStaysWrong)

/-- 'nacrelaw19.LargeKeeps': WHATEVER THE INPUT: true; the input reads as it did. -/
def largeKeepsSpec : ChangeSpec := { name := "largeKeeps", fn := fun _ => fun
  | [d1, d2, d3] => { results := [.lit (.bool true)], args := [d1, d2, d3] }
  | _ => none }
def largeKeepsRow : OpenClaim := { program := "ytajcpopikdpcmaagreat", sum := "23fa2e650527a237fa8767e2bde77b3717d53515492d3117e743346bfc7e76a3", func := "nacre/nacrelaw19.LargeKeeps", spec := "largeKeeps", unfollowed := true, recurses := true, apart := false }
def LargeKeepsSaid : Prop := largeKeepsRow.holds Tryz.pinned (OpenSpec.ofChange largeKeepsSpec)

/-- ITS FALSE NEIGHBOUR: 'it returns false'. Refute it at one input. -/
def largeKeepsWrong : ChangeSpec := { name := "largeKeeps", fn := fun _ => fun
  | [d1, d2, d3] => { results := [.lit (.bool false)], args := [d1, d2, d3] }
  | _ => none }
def LargeKeepsWrongFalsely : Prop := largeKeepsRow.holds Tryz.pinned (OpenSpec.ofChange largeKeepsWrong)

/-- 'nacrelaw16.SlabKeeps': WHATEVER THE INPUT: true; the input reads as it did. -/
def slabKeepsSpec : ChangeSpec := { name := "slabKeeps", fn := fun _ => fun
  | [d1, d2, d3] => { results := [.lit (.bool true)], args := [d1, d2, d3] }
  | _ => none }
def slabKeepsRow : OpenClaim := { program := "ytajcpopikdpcmaagreat", sum := "23fa2e650527a237fa8767e2bde77b3717d53515492d3117e743346bfc7e76a3", func := "nacre/nacrelaw16.SlabKeeps", spec := "slabKeeps", unfollowed := true, recurses := true, apart := false }
def SlabKeepsSaid : Prop := slabKeepsRow.holds Tryz.pinned (OpenSpec.ofChange slabKeepsSpec)

/-- ITS FALSE NEIGHBOUR: 'it returns false'. Refute it at one input. -/
def slabKeepsWrong : ChangeSpec := { name := "slabKeeps", fn := fun _ => fun
  | [d1, d2, d3] => { results := [.lit (.bool false)], args := [d1, d2, d3] }
  | _ => none }
def SlabKeepsWrongFalsely : Prop := slabKeepsRow.holds Tryz.pinned (OpenSpec.ofChange slabKeepsWrong)

/-- 'nacrelaw16.SlabBack': WHATEVER THE INPUT: true; the input reads as it did. -/
def slabBackSpec : ChangeSpec := { name := "slabBack", fn := fun _ => fun
  | [d1, d2, d3] => { results := [.lit (.bool true)], args := [d1, d2, d3] }
  | _ => none }
def slabBackRow : OpenClaim := { program := "ytajcpopikdpcmaagreat", sum := "23fa2e650527a237fa8767e2bde77b3717d53515492d3117e743346bfc7e76a3", func := "nacre/nacrelaw16.SlabBack", spec := "slabBack", unfollowed := true, recurses := true, apart := false }
def SlabBackSaid : Prop := slabBackRow.holds Tryz.pinned (OpenSpec.ofChange slabBackSpec)

/-- ITS FALSE NEIGHBOUR: 'it returns false'. Refute it at one input. -/
def slabBackWrong : ChangeSpec := { name := "slabBack", fn := fun _ => fun
  | [d1, d2, d3] => { results := [.lit (.bool false)], args := [d1, d2, d3] }
  | _ => none }
def SlabBackWrongFalsely : Prop := slabBackRow.holds Tryz.pinned (OpenSpec.ofChange slabBackWrong)

/- THE SECOND FORM. 'bulk': how many values and letters a reading holds, each counted each time it is reached (what is shared counts as often as it is met; a slice's spare places count too). A statement '..UptoSaid' is the law's where the arguments, and the package variables that the reading takes, are together of bulk at most 1048576: NARROWER than '..Said'. Prove '..Said' where nothing that the law and all that it calls make is longer than what came in: it says more and counts as full. Else prove '..UptoSaid'. A law counts once. -/
mutual
def uptoBulk {H : Type} : DataW H → Nat
  | .lit (.string bytes) => bytes.length + 1
  | .lit _ => 1
  | .nil => 1
  | .ptr d => uptoBulk d + 1
  | .slice elems spare => uptoBulkAll elems + uptoBulkAll spare + 1
  | .agg parts => uptoBulkAll parts + 1
  | .iface _ d => uptoBulk d + 1
  | .map entries => uptoBulkEntries entries + 1
  | .held _ => 1
def uptoBulkAll {H : Type} : List (DataW H) → Nat
  | [] => 0
  | d :: r => uptoBulk d + uptoBulkAll r
def uptoBulkEntries {H : Type} : List (Lit × DataW H) → Nat
  | [] => 0
  | x :: r => uptoBulkEntry x + uptoBulkEntries r
def uptoBulkEntry {H : Type} : Lit × DataW H → Nat
  | (.string bytes, d) => bytes.length + uptoBulk d + 1
  | (_, d) => uptoBulk d + 1
 end
def uptoSmall : (H : Type) → List (DataW H) → Bool := fun _ ds => decide (uptoBulkAll ds ≤ 1048576)
def OpenSpec.upto (s : _root_.Go.ChangeSpec) : _root_.Go.OpenSpec := { _root_.Go.OpenSpec.ofChange s with cond := some uptoSmall }

/-- 'nacrelaw14.BinBack', WHERE WHAT IT READS IS OF BULK AT MOST 1048576: true; the input reads as it did. -/
def binBackUptoRow : OpenClaim := { program := "ytajcpopikdpcmaagreat", sum := "23fa2e650527a237fa8767e2bde77b3717d53515492d3117e743346bfc7e76a3", func := "nacre/nacrelaw14.BinBack", spec := "binBack", unfollowed := true, recurses := true, apart := false, narrowed := true }
def BinBackUptoSaid : Prop := binBackUptoRow.holds Tryz.pinned (OpenSpec.upto binBackSpec)

/-- 'nacrelaw15.SpanKeeps', WHERE WHAT IT READS IS OF BULK AT MOST 1048576: true; the input reads as it did. -/
def spanKeepsUptoRow : OpenClaim := { program := "ytajcpopikdpcmaagreat", sum := "23fa2e650527a237fa8767e2bde77b3717d53515492d3117e743346bfc7e76a3", func := "nacre/nacrelaw15.SpanKeeps", spec := "spanKeeps", unfollowed := true, recurses := true, apart := false, narrowed := true }
def SpanKeepsUptoSaid : Prop := spanKeepsUptoRow.holds Tryz.pinned (OpenSpec.upto spanKeepsSpec)

/-- 'nacrelaw15.SpanJoins', WHERE WHAT IT READS IS OF BULK AT MOST 1048576: true; the input reads as it did. -/
def spanJoinsUptoRow : OpenClaim := { program := "ytajcpopikdpcmaagreat", sum := "23fa2e650527a237fa8767e2bde77b3717d53515492d3117e743346bfc7e76a3", func := "nacre/nacrelaw15.SpanJoins", spec := "spanJoins", unfollowed := true, recurses := true, apart := false, narrowed := true }
def SpanJoinsUptoSaid : Prop := spanJoinsUptoRow.holds Tryz.pinned (OpenSpec.upto spanJoinsSpec)

/-- 'nacrelaw19.LargeStays', WHERE WHAT IT READS IS OF BULK AT MOST 1048576: true; the input reads as it did. -/
def largeStaysUptoRow : OpenClaim := { program := "ytajcpopikdpcmaagreat", sum := "23fa2e650527a237fa8767e2bde77b3717d53515492d3117e743346bfc7e76a3", func := "nacre/nacrelaw19.LargeStays", spec := "largeStays", unfollowed := true, recurses := true, apart := false, narrowed := true }
def LargeStaysUptoSaid : Prop := largeStaysUptoRow.holds Tryz.pinned (OpenSpec.upto largeStaysSpec)

/-- 'nacrelaw19.LargeKeeps', WHERE WHAT IT READS IS OF BULK AT MOST 1048576: true; the input reads as it did. -/
def largeKeepsUptoRow : OpenClaim := { program := "ytajcpopikdpcmaagreat", sum := "23fa2e650527a237fa8767e2bde77b3717d53515492d3117e743346bfc7e76a3", func := "nacre/nacrelaw19.LargeKeeps", spec := "largeKeeps", unfollowed := true, recurses := true, apart := false, narrowed := true }
def LargeKeepsUptoSaid : Prop := largeKeepsUptoRow.holds Tryz.pinned (OpenSpec.upto largeKeepsSpec)

/-- 'nacrelaw16.SlabKeeps', WHERE WHAT IT READS IS OF BULK AT MOST 1048576: true; the input reads as it did. -/
def slabKeepsUptoRow : OpenClaim := { program := "ytajcpopikdpcmaagreat", sum := "23fa2e650527a237fa8767e2bde77b3717d53515492d3117e743346bfc7e76a3", func := "nacre/nacrelaw16.SlabKeeps", spec := "slabKeeps", unfollowed := true, recurses := true, apart := false, narrowed := true }
def SlabKeepsUptoSaid : Prop := slabKeepsUptoRow.holds Tryz.pinned (OpenSpec.upto slabKeepsSpec)

/-- 'nacrelaw16.SlabBack', WHERE WHAT IT READS IS OF BULK AT MOST 1048576: true; the input reads as it did. -/
def slabBackUptoRow : OpenClaim := { program := "ytajcpopikdpcmaagreat", sum := "23fa2e650527a237fa8767e2bde77b3717d53515492d3117e743346bfc7e76a3", func := "nacre/nacrelaw16.SlabBack", spec := "slabBack", unfollowed := true, recurses := true, apart := false, narrowed := true }
def SlabBackUptoSaid : Prop := slabBackUptoRow.holds Tryz.pinned (OpenSpec.upto slabBackSpec)

end Rows
end Go.Proofs.YtajcpopikdpcmaaGreat

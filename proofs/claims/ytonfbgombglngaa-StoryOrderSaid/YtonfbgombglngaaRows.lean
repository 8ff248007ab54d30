/-
  No cell of these rows narrows 'for every input' (looked for: loops, veiled, ifaces, maps, wideKeys, modest, calm, conditions, laid).
  DERIVED. THE GIVEN ROWS OF THIS SEAT. 8 by the template 'for every input the law returns true; each argument reads behind the call as it read before'; 0 by the template 'total and deterministic' (their statements: YtonfbgombglngaaTotals.lean).
  GIVEN WITH THE SEED: the statements are not yours to turn. If you find one false, say at which input.
  Laid BY PROGRAM, IN A SANDBOX (cutbox-rows.mjs): the forced cells as the released guide's own fill.sh prints them over the translation aa4309af55b008f0… (all of the seat's roots in one cut). By AI agents, Wed Nov 11 2026. No macro, syntax, notation, axiom, sorry.
-/
import Derived.Test.YtonfbgombglngaaChecked
import GoSem.Claim
import GoSem.ClaimJoined
import GoSem.ClaimMapViews
import Derived.JoinedTies
import Derived.KernelRfl
namespace Go.Proofs.Ytonfbgombglngaa
/- THE CELL 'sum', in the pinned program and in every row, IS THE sha256 OF THE DUMP (.gsa) THAT YtonfbgombglngaaProg.lean LOADS. Nothing in Lean hashes anything: it is a label: what it is worth is what the hold of that sum in a sandbox is worth. -/
noncomputable def Try.pinned : Pinned := { name := "ytonfbgombglngaa", sum := "aa4309af55b008f04f741f75069de390809520baa868029ad6e14895e7111ee8", checked := Try.checked }
namespace Rows
def none {H : Type} : Left H := { results := [], args := [] }

/-- 'nacrelaw21.RootFollows': WHATEVER THE INPUT: true; the input reads as it did. -/
def rootFollowsSpec : ChangeSpec := { name := "rootFollows", fn := fun _ => fun
  | [d1, d2] => { results := [.lit (.bool true)], args := [d1, d2] }
  | _ => none }
def rootFollowsRow : OpenClaim := { program := "ytonfbgombglngaa", sum := "aa4309af55b008f04f741f75069de390809520baa868029ad6e14895e7111ee8", func := "nacre/nacrelaw21.RootFollows", spec := "rootFollows", unfollowed := true, recurses := true, plainKeys := false, apart := false }
def RootFollowsSaid : Prop := rootFollowsRow.holds Try.pinned (OpenSpec.ofChange rootFollowsSpec)

/-- ITS FALSE NEIGHBOUR: 'it returns false'. Refute it at one input. -/
def rootFollowsWrong : ChangeSpec := { name := "rootFollows", fn := fun _ => fun
  | [d1, d2] => { results := [.lit (.bool false)], args := [d1, d2] }
  | _ => none }
def RootFollowsWrongFalsely : Prop := rootFollowsRow.holds Try.pinned (OpenSpec.ofChange rootFollowsWrong)

/-- 'nacrelaw33.StoryChecks': WHATEVER THE INPUT: true; the input reads as it did. -/
def storyChecksSpec : ChangeSpec := { name := "storyChecks", fn := fun _ => fun
  | [d1, d2] => { results := [.lit (.bool true)], args := [d1, d2] }
  | _ => none }
def storyChecksRow : OpenClaim := { program := "ytonfbgombglngaa", sum := "aa4309af55b008f04f741f75069de390809520baa868029ad6e14895e7111ee8", func := "nacre/nacrelaw33.StoryChecks", spec := "storyChecks", unfollowed := true, recurses := true, plainKeys := false, apart := false }
def StoryChecksSaid : Prop := storyChecksRow.holds Try.pinned (OpenSpec.ofChange storyChecksSpec)

/-- ITS FALSE NEIGHBOUR: 'it returns false'. Refute it at one input. -/
def storyChecksWrong : ChangeSpec := { name := "storyChecks", fn := fun _ => fun
  | [d1, d2] => { results := [.lit (.bool false)], args := [d1, d2] }
  | _ => none }
def StoryChecksWrongFalsely : Prop := storyChecksRow.holds Try.pinned (OpenSpec.ofChange storyChecksWrong)

/-- 'nacrelaw33.StoryCalls': WHATEVER THE INPUT: true; the input reads as it did. -/
def storyCallsSpec : ChangeSpec := { name := "storyCalls", fn := fun _ => fun
  | [d1, d2, d3] => { results := [.lit (.bool true)], args := [d1, d2, d3] }
  | _ => none }
def storyCallsRow : OpenClaim := { program := "ytonfbgombglngaa", sum := "aa4309af55b008f04f741f75069de390809520baa868029ad6e14895e7111ee8", func := "nacre/nacrelaw33.StoryCalls", spec := "storyCalls", unfollowed := true, recurses := true, plainKeys := false, apart := false }
def StoryCallsSaid : Prop := storyCallsRow.holds Try.pinned (OpenSpec.ofChange storyCallsSpec)

/-- ITS FALSE NEIGHBOUR: 'it returns false'. Refute it at one input. -/
def storyCallsWrong : ChangeSpec := { name := "storyCalls", fn := fun _ => fun
  | [d1, d2, d3] => { results := [.lit (.bool false)], args := [d1, d2, d3] }
  | _ => none }
def StoryCallsWrongFalsely : Prop := storyCallsRow.holds Try.pinned (OpenSpec.ofChange storyCallsWrong)

/-- 'nacrelaw33.StoryOrder': WHATEVER THE INPUT: true; the input reads as it did. -/
def storyOrderSpec : ChangeSpec := { name := "storyOrder", fn := fun _ => fun
  | [d1, d2] => { results := [.lit (.bool true)], args := [d1, d2] }
  | _ => none }
def storyOrderRow : OpenClaim := { program := "ytonfbgombglngaa", sum := "aa4309af55b008f04f741f75069de390809520baa868029ad6e14895e7111ee8", func := "nacre/nacrelaw33.StoryOrder", spec := "storyOrder", unfollowed := true, recurses := true, plainKeys := false, apart := false }
def StoryOrderSaid : Prop := storyOrderRow.holds Try.pinned (OpenSpec.ofChange storyOrderSpec)

/-- ITS FALSE NEIGHBOUR: 'it returns false'. Refute it at one input. -/
def storyOrderWrong : ChangeSpec := { name := "storyOrder", fn := fun _ => fun
  | [d1, d2] => { results := [.lit (.bool false)], args := [d1, d2] }
  | _ => none }
def StoryOrderWrongFalsely : Prop := storyOrderRow.holds Try.pinned (OpenSpec.ofChange storyOrderWrong)

/-- 'nacrelaw21.RootDoes': WHATEVER THE INPUT: true; the input reads as it did. -/
def rootDoesSpec : ChangeSpec := { name := "rootDoes", fn := fun _ => fun
  | [d1, d2] => { results := [.lit (.bool true)], args := [d1, d2] }
  | _ => none }
def rootDoesRow : OpenClaim := { program := "ytonfbgombglngaa", sum := "aa4309af55b008f04f741f75069de390809520baa868029ad6e14895e7111ee8", func := "nacre/nacrelaw21.RootDoes", spec := "rootDoes", unfollowed := true, recurses := true, plainKeys := false, apart := false }
def RootDoesSaid : Prop := rootDoesRow.holds Try.pinned (OpenSpec.ofChange rootDoesSpec)

/-- ITS FALSE NEIGHBOUR: 'it returns false'. Refute it at one input. -/
def rootDoesWrong : ChangeSpec := { name := "rootDoes", fn := fun _ => fun
  | [d1, d2] => { results := [.lit (.bool false)], args := [d1, d2] }
  | _ => none }
def RootDoesWrongFalsely : Prop := rootDoesRow.holds Try.pinned (OpenSpec.ofChange rootDoesWrong)

/-- 'nacrelaw26.ModelAllows': WHATEVER THE INPUT: true; the input reads as it did. -/
def modelAllowsSpec : ChangeSpec := { name := "modelAllows", fn := fun _ => fun
  | [d1, d2, d3] => { results := [.lit (.bool true)], args := [d1, d2, d3] }
  | _ => none }
def modelAllowsRow : OpenClaim := { program := "ytonfbgombglngaa", sum := "aa4309af55b008f04f741f75069de390809520baa868029ad6e14895e7111ee8", func := "nacre/nacrelaw26.ModelAllows", spec := "modelAllows", unfollowed := true, recurses := true, plainKeys := false, apart := false }
def ModelAllowsSaid : Prop := modelAllowsRow.holds Try.pinned (OpenSpec.ofChange modelAllowsSpec)

/-- ITS FALSE NEIGHBOUR: 'it returns false'. Refute it at one input. -/
def modelAllowsWrong : ChangeSpec := { name := "modelAllows", fn := fun _ => fun
  | [d1, d2, d3] => { results := [.lit (.bool false)], args := [d1, d2, d3] }
  | _ => none }
def ModelAllowsWrongFalsely : Prop := modelAllowsRow.holds Try.pinned (OpenSpec.ofChange modelAllowsWrong)

/-- 'nacrelaw26.ModelRuns': WHATEVER THE INPUT: true; the input reads as it did. -/
def modelRunsSpec : ChangeSpec := { name := "modelRuns", fn := fun _ => fun
  | [d1, d2] => { results := [.lit (.bool true)], args := [d1, d2] }
  | _ => none }
def modelRunsRow : OpenClaim := { program := "ytonfbgombglngaa", sum := "aa4309af55b008f04f741f75069de390809520baa868029ad6e14895e7111ee8", func := "nacre/nacrelaw26.ModelRuns", spec := "modelRuns", unfollowed := true, recurses := true, plainKeys := false, apart := false }
def ModelRunsSaid : Prop := modelRunsRow.holds Try.pinned (OpenSpec.ofChange modelRunsSpec)

/-- ITS FALSE NEIGHBOUR: 'it returns false'. Refute it at one input. -/
def modelRunsWrong : ChangeSpec := { name := "modelRuns", fn := fun _ => fun
  | [d1, d2] => { results := [.lit (.bool false)], args := [d1, d2] }
  | _ => none }
def ModelRunsWrongFalsely : Prop := modelRunsRow.holds Try.pinned (OpenSpec.ofChange modelRunsWrong)

/-- 'nacrelaw26.ModelApart': WHATEVER THE INPUT: true; the input reads as it did. -/
def modelApartSpec : ChangeSpec := { name := "modelApart", fn := fun _ => fun
  | [d1, d2] => { results := [.lit (.bool true)], args := [d1, d2] }
  | _ => none }
def modelApartRow : OpenClaim := { program := "ytonfbgombglngaa", sum := "aa4309af55b008f04f741f75069de390809520baa868029ad6e14895e7111ee8", func := "nacre/nacrelaw26.ModelApart", spec := "modelApart", unfollowed := true, recurses := true, plainKeys := false, apart := false }
def ModelApartSaid : Prop := modelApartRow.holds Try.pinned (OpenSpec.ofChange modelApartSpec)

/-- ITS FALSE NEIGHBOUR: 'it returns false'. Refute it at one input. -/
def modelApartWrong : ChangeSpec := { name := "modelApart", fn := fun _ => fun
  | [d1, d2] => { results := [.lit (.bool false)], args := [d1, d2] }
  | _ => none }
def ModelApartWrongFalsely : Prop := modelApartRow.holds Try.pinned (OpenSpec.ofChange modelApartWrong)

/- THE SECOND FORM. 'bulk': how many values and letters a reading holds, each counted each time it is reached (what is shared counts as often as it is met; a slice's spare places count too). A statement '..UptoSaid' is the law's where the arguments, and the package variables that the reading takes, are together of bulk at most 1048576: NARROWER than '..Said'. Prove '..Said' where nothing that the law and all that it calls make is longer than what came in: it says more and counts as full. Else prove '..UptoSaid'. A law counts once. -/
mutual
def uptoBulk {H : Type} : DataW H → Nat
  | .lit (.string bytes) => bytes.length + 1
  | .lit _ => 1
  | .nil => 1
  | .ptr d => uptoBulk d + 1
  | .slice elems spare => uptoBulkAll elems + uptoBulkAll spare + 1
  | .agg parts => uptoBulkAll parts + 1
  | .iface _ d => uptoBulk d + 1
  | .map entries => uptoBulkEntries entries + 1
  | .held _ => 1
def uptoBulkAll {H : Type} : List (DataW H) → Nat
  | [] => 0
  | d :: r => uptoBulk d + uptoBulkAll r
def uptoBulkEntries {H : Type} : List (Lit × DataW H) → Nat
  | [] => 0
  | x :: r => uptoBulkEntry x + uptoBulkEntries r
def uptoBulkEntry {H : Type} : Lit × DataW H → Nat
  | (.string bytes, d) => bytes.length + uptoBulk d + 1
  | (_, d) => uptoBulk d + 1
 end
def uptoSmall : (H : Type) → List (DataW H) → Bool := fun _ ds => decide (uptoBulkAll ds ≤ 1048576)
def OpenSpec.upto (s : _root_.Go.ChangeSpec) : _root_.Go.OpenSpec := { _root_.Go.OpenSpec.ofChange s with cond := some uptoSmall }

/-- 'nacrelaw21.RootFollows', WHERE WHAT IT READS IS OF BULK AT MOST 1048576: true; the input reads as it did. -/
def rootFollowsUptoRow : OpenClaim := { program := "ytonfbgombglngaa", sum := "aa4309af55b008f04f741f75069de390809520baa868029ad6e14895e7111ee8", func := "nacre/nacrelaw21.RootFollows", spec := "rootFollows", unfollowed := true, recurses := true, plainKeys := false, apart := false, narrowed := true }
def RootFollowsUptoSaid : Prop := rootFollowsUptoRow.holds Try.pinned (OpenSpec.upto rootFollowsSpec)

/-- 'nacrelaw33.StoryChecks', WHERE WHAT IT READS IS OF BULK AT MOST 1048576: true; the input reads as it did. -/
def storyChecksUptoRow : OpenClaim := { program := "ytonfbgombglngaa", sum := "aa4309af55b008f04f741f75069de390809520baa868029ad6e14895e7111ee8", func := "nacre/nacrelaw33.StoryChecks", spec := "storyChecks", unfollowed := true, recurses := true, plainKeys := false, apart := false, narrowed := true }
def StoryChecksUptoSaid : Prop := storyChecksUptoRow.holds Try.pinned (OpenSpec.upto storyChecksSpec)

/-- 'nacrelaw33.StoryCalls', WHERE WHAT IT READS IS OF BULK AT MOST 1048576: true; the input reads as it did. -/
def storyCallsUptoRow : OpenClaim := { program := "ytonfbgombglngaa", sum := "aa4309af55b008f04f741f75069de390809520baa868029ad6e14895e7111ee8", func := "nacre/nacrelaw33.StoryCalls", spec := "storyCalls", unfollowed := true, recurses := true, plainKeys := false, apart := false, narrowed := true }
def StoryCallsUptoSaid : Prop := storyCallsUptoRow.holds Try.pinned (OpenSpec.upto storyCallsSpec)

/-- 'nacrelaw33.StoryOrder', WHERE WHAT IT READS IS OF BULK AT MOST 1048576: true; the input reads as it did. -/
def storyOrderUptoRow : OpenClaim := { program := "ytonfbgombglngaa", sum := "aa4309af55b008f04f741f75069de390809520baa868029ad6e14895e7111ee8", func := "nacre/nacrelaw33.StoryOrder", spec := "storyOrder", unfollowed := true, recurses := true, plainKeys := false, apart := false, narrowed := true }
def StoryOrderUptoSaid : Prop := storyOrderUptoRow.holds Try.pinned (OpenSpec.upto storyOrderSpec)

/-- 'nacrelaw21.RootDoes', WHERE WHAT IT READS IS OF BULK AT MOST 1048576: true; the input reads as it did. -/
def rootDoesUptoRow : OpenClaim := { program := "ytonfbgombglngaa", sum := "aa4309af55b008f04f741f75069de390809520baa868029ad6e14895e7111ee8", func := "nacre/nacrelaw21.RootDoes", spec := "rootDoes", unfollowed := true, recurses := true, plainKeys := false, apart := false, narrowed := true }
def RootDoesUptoSaid : Prop := rootDoesUptoRow.holds Try.pinned (OpenSpec.upto rootDoesSpec)

/-- 'nacrelaw26.ModelAllows', WHERE WHAT IT READS IS OF BULK AT MOST 1048576: true; the input reads as it did. -/
def modelAllowsUptoRow : OpenClaim := { program := "ytonfbgombglngaa", sum := "aa4309af55b008f04f741f75069de390809520baa868029ad6e14895e7111ee8", func := "nacre/nacrelaw26.ModelAllows", spec := "modelAllows", unfollowed := true, recurses := true, plainKeys := false, apart := false, narrowed := true }
def ModelAllowsUptoSaid : Prop := modelAllowsUptoRow.holds Try.pinned (OpenSpec.upto modelAllowsSpec)

/-- 'nacrelaw26.ModelRuns', WHERE WHAT IT READS IS OF BULK AT MOST 1048576: true; the input reads as it did. -/
def modelRunsUptoRow : OpenClaim := { program := "ytonfbgombglngaa", sum := "aa4309af55b008f04f741f75069de390809520baa868029ad6e14895e7111ee8", func := "nacre/nacrelaw26.ModelRuns", spec := "modelRuns", unfollowed := true, recurses := true, plainKeys := false, apart := false, narrowed := true }
def ModelRunsUptoSaid : Prop := modelRunsUptoRow.holds Try.pinned (OpenSpec.upto modelRunsSpec)

/-- 'nacrelaw26.ModelApart', WHERE WHAT IT READS IS OF BULK AT MOST 1048576: true; the input reads as it did. -/
def modelApartUptoRow : OpenClaim := { program := "ytonfbgombglngaa", sum := "aa4309af55b008f04f741f75069de390809520baa868029ad6e14895e7111ee8", func := "nacre/nacrelaw26.ModelApart", spec := "modelApart", unfollowed := true, recurses := true, plainKeys := false, apart := false, narrowed := true }
def ModelApartUptoSaid : Prop := modelApartUptoRow.holds Try.pinned (OpenSpec.upto modelApartSpec)

end Rows
end Go.Proofs.Ytonfbgombglngaa

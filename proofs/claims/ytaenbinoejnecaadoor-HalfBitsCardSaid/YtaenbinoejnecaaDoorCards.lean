/-
  DERIVED. GIVEN WITH THE SEED: THE CARDS: each row of YtaenbinoejnecaaDoorRows.lean that lists a variable, with what it lists TIED to the program's text (the seventh form; the later family's looks); each row that meets fmt, with fmt's text TOLD by the authors' own Lean function (tested against real Go, not proved from fmt's source: count such statements apart). THE CARD IS WHAT COUNTS. Prove the row's statement (the work); the ties are given (YtaenbinoejnecaaDoorTie.lean); close each card by the builder's one call (the guide's Derived/Test/ToyasCard.lean, 'card_holds'). Laid BY PROGRAM, IN A SANDBOX (cutbox-door.mjs). By AI agents, Wed Nov 11 2026. No macro, syntax, notation, axiom, sorry.
-/
import Derived.Test.YtaenbinoejnecaaDoorRows
import GoSem.ClaimSeven
namespace Go.Proofs.YtaenbinoejnecaaDoor
namespace Rows

/-- THE TIED CARD OF 'nacrelaw01.HalfJoins'. -/
def halfJoinsCard : Claim7 := { stood := { row := halfJoinsRow, standIns := [], harness := (true, "2ca3a5f92ab485cbd961a932f3adc087a8538e8f8ba678991a3c50a0fa53245d"), looks := false }, kinds := [], alts := [], laidByText := true, laidKinds := [.data], laidTests := true, laidLooks := .later }
def HalfJoinsCardSaid : Prop := Claim7.holds Tryd.pinned (.plain (OpenSpec.ofChange halfJoinsSpec)) halfJoinsCard

/-- THE TIED CARD OF 'nacrelaw01.HalfBits'. -/
def halfBitsCard : Claim7 := { stood := { row := halfBitsRow, standIns := [], harness := (true, "2ca3a5f92ab485cbd961a932f3adc087a8538e8f8ba678991a3c50a0fa53245d"), looks := false }, kinds := [], alts := [], laidByText := true, laidKinds := [.data], laidTests := true, laidLooks := .later }
def HalfBitsCardSaid : Prop := Claim7.holds Tryd.pinned (.plain (OpenSpec.ofChange halfBitsSpec)) halfBitsCard

/-- THE TIED CARD OF 'nacrelaw01.HalfFields'. -/
def halfFieldsCard : Claim7 := { stood := { row := halfFieldsRow, standIns := [], harness := (true, "2ca3a5f92ab485cbd961a932f3adc087a8538e8f8ba678991a3c50a0fa53245d"), looks := false }, kinds := [], alts := [], laidByText := true, laidKinds := [.data], laidTests := true, laidLooks := .later }
def HalfFieldsCardSaid : Prop := Claim7.holds Tryd.pinned (.plain (OpenSpec.ofChange halfFieldsSpec)) halfFieldsCard

/-- THE TIED CARD OF 'nacrelaw01.HalfBack'. -/
def halfBackCard : Claim7 := { stood := { row := halfBackRow, standIns := [], harness := (true, "2ca3a5f92ab485cbd961a932f3adc087a8538e8f8ba678991a3c50a0fa53245d"), looks := false }, kinds := [], alts := [], laidByText := true, laidKinds := [.data], laidTests := true, laidLooks := .later }
def HalfBackCardSaid : Prop := Claim7.holds Tryd.pinned (.plain (OpenSpec.ofChange halfBackSpec)) halfBackCard

/-- THE SECOND FORM's CARD OF 'nacrelaw01.HalfJoins'. -/
def halfJoinsUptoCard : Claim7 := { stood := { row := halfJoinsUptoRow, standIns := [], harness := (true, "2ca3a5f92ab485cbd961a932f3adc087a8538e8f8ba678991a3c50a0fa53245d"), looks := false }, kinds := [], alts := [], laidByText := true, laidKinds := [.data], laidTests := true, laidLooks := .later }
def HalfJoinsUptoCardSaid : Prop := Claim7.holds Tryd.pinned (.plain (OpenSpec.upto halfJoinsSpec)) halfJoinsUptoCard

/-- THE SECOND FORM's CARD OF 'nacrelaw01.HalfBits'. -/
def halfBitsUptoCard : Claim7 := { stood := { row := halfBitsUptoRow, standIns := [], harness := (true, "2ca3a5f92ab485cbd961a932f3adc087a8538e8f8ba678991a3c50a0fa53245d"), looks := false }, kinds := [], alts := [], laidByText := true, laidKinds := [.data], laidTests := true, laidLooks := .later }
def HalfBitsUptoCardSaid : Prop := Claim7.holds Tryd.pinned (.plain (OpenSpec.upto halfBitsSpec)) halfBitsUptoCard

/-- THE SECOND FORM's CARD OF 'nacrelaw01.HalfFields'. -/
def halfFieldsUptoCard : Claim7 := { stood := { row := halfFieldsUptoRow, standIns := [], harness := (true, "2ca3a5f92ab485cbd961a932f3adc087a8538e8f8ba678991a3c50a0fa53245d"), looks := false }, kinds := [], alts := [], laidByText := true, laidKinds := [.data], laidTests := true, laidLooks := .later }
def HalfFieldsUptoCardSaid : Prop := Claim7.holds Tryd.pinned (.plain (OpenSpec.upto halfFieldsSpec)) halfFieldsUptoCard

/-- THE SECOND FORM's CARD OF 'nacrelaw01.HalfBack'. -/
def halfBackUptoCard : Claim7 := { stood := { row := halfBackUptoRow, standIns := [], harness := (true, "2ca3a5f92ab485cbd961a932f3adc087a8538e8f8ba678991a3c50a0fa53245d"), looks := false }, kinds := [], alts := [], laidByText := true, laidKinds := [.data], laidTests := true, laidLooks := .later }
def HalfBackUptoCardSaid : Prop := Claim7.holds Tryd.pinned (.plain (OpenSpec.upto halfBackSpec)) halfBackUptoCard
end Rows
end Go.Proofs.YtaenbinoejnecaaDoor

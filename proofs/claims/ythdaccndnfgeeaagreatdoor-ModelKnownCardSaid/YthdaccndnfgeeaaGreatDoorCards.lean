/-
  DERIVED. GIVEN WITH THE SEED: THE CARDS: each row of YthdaccndnfgeeaaGreatDoorRows.lean that lists a variable, with what it lists TIED to the program's text (the seventh form; the later family's looks); each row that meets fmt, with fmt's text TOLD by the authors' own Lean function (tested against real Go, not proved from fmt's source: count such statements apart). THE CARD IS WHAT COUNTS. Prove the row's statement (the work); the ties are given (YthdaccndnfgeeaaGreatDoorTie.lean); close each card by the builder's one call (the guide's Derived/Test/ToyasCard.lean, 'card_holds'). Laid BY PROGRAM, IN A SANDBOX (cutbox-door.mjs). By AI agents, Wed Nov 11 2026. No macro, syntax, notation, axiom, sorry.
-/
import Derived.Test.YthdaccndnfgeeaaGreatDoorRows
import GoSem.ClaimSeven
namespace Go.Proofs.YthdaccndnfgeeaaGreatDoor
namespace Rows

/-- THE TIED CARD OF 'casematelaw23.AnchorKnown'. -/
def anchorKnownCard : Claim7 := { stood := { row := anchorKnownRow, standIns := [], harness := (true, "670c579a88a8253a3267ce09e7df95df8eaebfa2e493d8bbe6980d2f88c33fa2"), looks := true }, kinds := [], alts := [], laidByText := true, laidKinds := [.data], laidTests := true, laidLooks := .later }
def AnchorKnownCardSaid : Prop := Claim7.holds Tryz.pinned (.plain (OpenSpec.ofChange anchorKnownSpec)) anchorKnownCard

/-- THE TIED CARD OF 'casematelaw23.AnchorBound'. -/
def anchorBoundCard : Claim7 := { stood := { row := anchorBoundRow, standIns := [], harness := (true, "670c579a88a8253a3267ce09e7df95df8eaebfa2e493d8bbe6980d2f88c33fa2"), looks := true }, kinds := [], alts := [], laidByText := true, laidKinds := [.data], laidTests := true, laidLooks := .later }
def AnchorBoundCardSaid : Prop := Claim7.holds Tryz.pinned (.plain (OpenSpec.ofChange anchorBoundSpec)) anchorBoundCard

/-- THE TIED CARD OF 'casematelaw23.AnchorWholly'. -/
def anchorWhollyCard : Claim7 := { stood := { row := anchorWhollyRow, standIns := [], harness := (true, "670c579a88a8253a3267ce09e7df95df8eaebfa2e493d8bbe6980d2f88c33fa2"), looks := true }, kinds := [], alts := [], laidByText := true, laidKinds := [.data], laidTests := true, laidLooks := .later }
def AnchorWhollyCardSaid : Prop := Claim7.holds Tryz.pinned (.plain (OpenSpec.ofChange anchorWhollySpec)) anchorWhollyCard

/-- THE TIED CARD OF 'casematelaw23.AnchorTries'. -/
def anchorTriesCard : Claim7 := { stood := { row := anchorTriesRow, standIns := [], harness := (true, "670c579a88a8253a3267ce09e7df95df8eaebfa2e493d8bbe6980d2f88c33fa2"), looks := true }, kinds := [], alts := [], laidByText := true, laidKinds := [.data], laidTests := true, laidLooks := .later }
def AnchorTriesCardSaid : Prop := Claim7.holds Tryz.pinned (.plain (OpenSpec.ofChange anchorTriesSpec)) anchorTriesCard

/-- THE TIED CARD OF 'casematelaw23.AnchorPlays'. -/
def anchorPlaysCard : Claim7 := { stood := { row := anchorPlaysRow, standIns := [], harness := (true, "670c579a88a8253a3267ce09e7df95df8eaebfa2e493d8bbe6980d2f88c33fa2"), looks := true }, kinds := [], alts := [], laidByText := true, laidKinds := [.data], laidTests := true, laidLooks := .later }
def AnchorPlaysCardSaid : Prop := Claim7.holds Tryz.pinned (.plain (OpenSpec.ofChange anchorPlaysSpec)) anchorPlaysCard

/-- THE TIED CARD OF 'casematelaw31.ModelKeys'. -/
def modelKeysCard : Claim7 := { stood := { row := modelKeysRow, standIns := [], harness := (true, "670c579a88a8253a3267ce09e7df95df8eaebfa2e493d8bbe6980d2f88c33fa2"), looks := true }, kinds := [], alts := [], laidByText := true, laidKinds := [.data, .data, .data, .data], laidTests := true, laidLooks := .later }
def ModelKeysCardSaid : Prop := Claim7.holds Tryz.pinned (.plain (OpenSpec.ofChange modelKeysSpec)) modelKeysCard

/-- THE TIED CARD OF 'casematelaw31.ModelKnown'. -/
def modelKnownCard : Claim7 := { stood := { row := modelKnownRow, standIns := [], harness := (true, "670c579a88a8253a3267ce09e7df95df8eaebfa2e493d8bbe6980d2f88c33fa2"), looks := true }, kinds := [], alts := [], laidByText := true, laidKinds := [.data, .data, .data, .data], laidTests := true, laidLooks := .later }
def ModelKnownCardSaid : Prop := Claim7.holds Tryz.pinned (.plain (OpenSpec.ofChange modelKnownSpec)) modelKnownCard

/-- THE TIED CARD OF 'casematelaw31.ModelPlays'. -/
def modelPlaysCard : Claim7 := { stood := { row := modelPlaysRow, standIns := [], harness := (true, "670c579a88a8253a3267ce09e7df95df8eaebfa2e493d8bbe6980d2f88c33fa2"), looks := true }, kinds := [], alts := [], laidByText := true, laidKinds := [.data, .data, .data, .data], laidTests := true, laidLooks := .later }
def ModelPlaysCardSaid : Prop := Claim7.holds Tryz.pinned (.plain (OpenSpec.ofChange modelPlaysSpec)) modelPlaysCard

/-- THE SECOND FORM's CARD OF 'casematelaw23.AnchorKnown'. -/
def anchorKnownUptoCard : Claim7 := { stood := { row := anchorKnownUptoRow, standIns := [], harness := (true, "670c579a88a8253a3267ce09e7df95df8eaebfa2e493d8bbe6980d2f88c33fa2"), looks := true }, kinds := [], alts := [], laidByText := true, laidKinds := [.data], laidTests := true, laidLooks := .later }
def AnchorKnownUptoCardSaid : Prop := Claim7.holds Tryz.pinned (.plain (OpenSpec.upto anchorKnownSpec)) anchorKnownUptoCard

/-- THE SECOND FORM's CARD OF 'casematelaw23.AnchorBound'. -/
def anchorBoundUptoCard : Claim7 := { stood := { row := anchorBoundUptoRow, standIns := [], harness := (true, "670c579a88a8253a3267ce09e7df95df8eaebfa2e493d8bbe6980d2f88c33fa2"), looks := true }, kinds := [], alts := [], laidByText := true, laidKinds := [.data], laidTests := true, laidLooks := .later }
def AnchorBoundUptoCardSaid : Prop := Claim7.holds Tryz.pinned (.plain (OpenSpec.upto anchorBoundSpec)) anchorBoundUptoCard

/-- THE SECOND FORM's CARD OF 'casematelaw23.AnchorWholly'. -/
def anchorWhollyUptoCard : Claim7 := { stood := { row := anchorWhollyUptoRow, standIns := [], harness := (true, "670c579a88a8253a3267ce09e7df95df8eaebfa2e493d8bbe6980d2f88c33fa2"), looks := true }, kinds := [], alts := [], laidByText := true, laidKinds := [.data], laidTests := true, laidLooks := .later }
def AnchorWhollyUptoCardSaid : Prop := Claim7.holds Tryz.pinned (.plain (OpenSpec.upto anchorWhollySpec)) anchorWhollyUptoCard

/-- THE SECOND FORM's CARD OF 'casematelaw23.AnchorTries'. -/
def anchorTriesUptoCard : Claim7 := { stood := { row := anchorTriesUptoRow, standIns := [], harness := (true, "670c579a88a8253a3267ce09e7df95df8eaebfa2e493d8bbe6980d2f88c33fa2"), looks := true }, kinds := [], alts := [], laidByText := true, laidKinds := [.data], laidTests := true, laidLooks := .later }
def AnchorTriesUptoCardSaid : Prop := Claim7.holds Tryz.pinned (.plain (OpenSpec.upto anchorTriesSpec)) anchorTriesUptoCard

/-- THE SECOND FORM's CARD OF 'casematelaw23.AnchorPlays'. -/
def anchorPlaysUptoCard : Claim7 := { stood := { row := anchorPlaysUptoRow, standIns := [], harness := (true, "670c579a88a8253a3267ce09e7df95df8eaebfa2e493d8bbe6980d2f88c33fa2"), looks := true }, kinds := [], alts := [], laidByText := true, laidKinds := [.data], laidTests := true, laidLooks := .later }
def AnchorPlaysUptoCardSaid : Prop := Claim7.holds Tryz.pinned (.plain (OpenSpec.upto anchorPlaysSpec)) anchorPlaysUptoCard

/-- THE SECOND FORM's CARD OF 'casematelaw31.ModelKeys'. -/
def modelKeysUptoCard : Claim7 := { stood := { row := modelKeysUptoRow, standIns := [], harness := (true, "670c579a88a8253a3267ce09e7df95df8eaebfa2e493d8bbe6980d2f88c33fa2"), looks := true }, kinds := [], alts := [], laidByText := true, laidKinds := [.data, .data, .data, .data], laidTests := true, laidLooks := .later }
def ModelKeysUptoCardSaid : Prop := Claim7.holds Tryz.pinned (.plain (OpenSpec.upto modelKeysSpec)) modelKeysUptoCard

/-- THE SECOND FORM's CARD OF 'casematelaw31.ModelKnown'. -/
def modelKnownUptoCard : Claim7 := { stood := { row := modelKnownUptoRow, standIns := [], harness := (true, "670c579a88a8253a3267ce09e7df95df8eaebfa2e493d8bbe6980d2f88c33fa2"), looks := true }, kinds := [], alts := [], laidByText := true, laidKinds := [.data, .data, .data, .data], laidTests := true, laidLooks := .later }
def ModelKnownUptoCardSaid : Prop := Claim7.holds Tryz.pinned (.plain (OpenSpec.upto modelKnownSpec)) modelKnownUptoCard

/-- THE SECOND FORM's CARD OF 'casematelaw31.ModelPlays'. -/
def modelPlaysUptoCard : Claim7 := { stood := { row := modelPlaysUptoRow, standIns := [], harness := (true, "670c579a88a8253a3267ce09e7df95df8eaebfa2e493d8bbe6980d2f88c33fa2"), looks := true }, kinds := [], alts := [], laidByText := true, laidKinds := [.data, .data, .data, .data], laidTests := true, laidLooks := .later }
def ModelPlaysUptoCardSaid : Prop := Claim7.holds Tryz.pinned (.plain (OpenSpec.upto modelPlaysSpec)) modelPlaysUptoCard
end Rows
end Go.Proofs.YthdaccndnfgeeaaGreatDoor

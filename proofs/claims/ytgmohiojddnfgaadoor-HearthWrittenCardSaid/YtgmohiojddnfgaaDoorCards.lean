/-
  DERIVED. GIVEN WITH THE SEED: THE CARDS: each row of YtgmohiojddnfgaaDoorRows.lean that lists a variable, with what it lists TIED to the program's text (the seventh form; the later family's looks); each row that meets fmt, with fmt's text TOLD by the authors' own Lean function (tested against real Go, not proved from fmt's source: count such statements apart). THE CARD IS WHAT COUNTS. Prove the row's statement (the work); the ties are given (YtgmohiojddnfgaaDoorTie.lean); close each card by the builder's one call (the guide's Derived/Test/ToyasCard.lean, 'card_holds'). Laid BY PROGRAM, IN A SANDBOX (cutbox-door.mjs). By AI agents, Wed Nov 11 2026. No macro, syntax, notation, axiom, sorry.
-/
import Derived.Test.YtgmohiojddnfgaaDoorRows
import GoSem.ClaimSeven
namespace Go.Proofs.YtgmohiojddnfgaaDoor
namespace Rows

/-- THE TIED CARD OF 'aloeswoodlaw07.HearthKnown'. -/
def hearthKnownCard : Claim7 := { stood := { row := hearthKnownRow, standIns := [], harness := (true, "9099fcc934d680e238bf53310ea6d13869740df2d2dcdf9fb04582749f9c346a"), looks := true }, kinds := [], alts := [], laidByText := true, laidKinds := [.data, .data, .data], laidTests := true, laidLooks := .later }
def HearthKnownCardSaid : Prop := Claim7.holds Tryd.pinned (.plain (OpenSpec.ofChange hearthKnownSpec)) hearthKnownCard

/-- THE TIED CARD OF 'aloeswoodlaw07.HearthWritten'. -/
def hearthWrittenCard : Claim7 := { stood := { row := hearthWrittenRow, standIns := [], harness := (true, "9099fcc934d680e238bf53310ea6d13869740df2d2dcdf9fb04582749f9c346a"), looks := true }, kinds := [], alts := [], laidByText := true, laidKinds := [.data, .data, .data, .data, .sentinel, .sentinel, .pinned], laidTests := true, laidLooks := .later }
def HearthWrittenCardSaid : Prop := Claim7.holds Tryd.pinned (.plain (OpenSpec.ofChange hearthWrittenSpec)) hearthWrittenCard

/-- THE TIED CARD OF 'aloeswoodlaw03.ScoreKnown'. -/
def scoreKnownCard : Claim7 := { stood := { row := scoreKnownRow, standIns := [], harness := (true, "9099fcc934d680e238bf53310ea6d13869740df2d2dcdf9fb04582749f9c346a"), looks := true }, kinds := [], alts := [], laidByText := true, laidKinds := [.data, .data, .data, .widerDeep], laidTests := true, laidLooks := .later }
def ScoreKnownCardSaid : Prop := Claim7.holds Tryd.pinned (.plain (OpenSpec.ofChange scoreKnownSpec)) scoreKnownCard

/-- THE SECOND FORM's CARD OF 'aloeswoodlaw07.HearthKnown'. -/
def hearthKnownUptoCard : Claim7 := { stood := { row := hearthKnownUptoRow, standIns := [], harness := (true, "9099fcc934d680e238bf53310ea6d13869740df2d2dcdf9fb04582749f9c346a"), looks := true }, kinds := [], alts := [], laidByText := true, laidKinds := [.data, .data, .data], laidTests := true, laidLooks := .later }
def HearthKnownUptoCardSaid : Prop := Claim7.holds Tryd.pinned (.plain (OpenSpec.upto hearthKnownSpec)) hearthKnownUptoCard

/-- THE SECOND FORM's CARD OF 'aloeswoodlaw07.HearthWritten'. -/
def hearthWrittenUptoCard : Claim7 := { stood := { row := hearthWrittenUptoRow, standIns := [], harness := (true, "9099fcc934d680e238bf53310ea6d13869740df2d2dcdf9fb04582749f9c346a"), looks := true }, kinds := [], alts := [], laidByText := true, laidKinds := [.data, .data, .data, .data, .sentinel, .sentinel, .pinned], laidTests := true, laidLooks := .later }
def HearthWrittenUptoCardSaid : Prop := Claim7.holds Tryd.pinned (.plain (OpenSpec.upto hearthWrittenSpec)) hearthWrittenUptoCard

/-- THE SECOND FORM's CARD OF 'aloeswoodlaw03.ScoreKnown'. -/
def scoreKnownUptoCard : Claim7 := { stood := { row := scoreKnownUptoRow, standIns := [], harness := (true, "9099fcc934d680e238bf53310ea6d13869740df2d2dcdf9fb04582749f9c346a"), looks := true }, kinds := [], alts := [], laidByText := true, laidKinds := [.data, .data, .data, .widerDeep], laidTests := true, laidLooks := .later }
def ScoreKnownUptoCardSaid : Prop := Claim7.holds Tryd.pinned (.plain (OpenSpec.upto scoreKnownSpec)) scoreKnownUptoCard
end Rows
end Go.Proofs.YtgmohiojddnfgaaDoor

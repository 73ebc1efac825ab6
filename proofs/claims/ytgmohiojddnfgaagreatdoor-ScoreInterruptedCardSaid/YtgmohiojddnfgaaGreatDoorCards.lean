/-
  DERIVED. GIVEN WITH THE SEED: THE CARDS: each row of YtgmohiojddnfgaaGreatDoorRows.lean that lists a variable, with what it lists TIED to the program's text (the seventh form; the later family's looks); each row that meets fmt, with fmt's text TOLD by the authors' own Lean function (tested against real Go, not proved from fmt's source: count such statements apart). THE CARD IS WHAT COUNTS. Prove the row's statement (the work); the ties are given (YtgmohiojddnfgaaGreatDoorTie.lean); close each card by the builder's one call (the guide's Derived/Test/ToyasCard.lean, 'card_holds'). Laid BY PROGRAM, IN A SANDBOX (cutbox-door.mjs). By AI agents, Wed Nov 11 2026. No macro, syntax, notation, axiom, sorry.
-/
import Derived.Test.YtgmohiojddnfgaaGreatDoorRows
import GoSem.ClaimSeven
namespace Go.Proofs.YtgmohiojddnfgaaGreatDoor
namespace Rows

/-- THE TIED CARD OF 'aloeswoodlaw07.HearthPlans'. -/
def hearthPlansCard : Claim7 := { stood := { row := hearthPlansRow, standIns := [], harness := (true, "67c0911e37503d6be452c995e77bc76c42a3323ae42d8cd2e998539c7423e7cd"), looks := true }, kinds := [], alts := [], laidByText := true, laidKinds := [.data, .data, .data, .data, .sentinel, .sentinel, .pinned], laidTests := true, laidLooks := .later }
def HearthPlansCardSaid : Prop := Claim7.holds Tryz.pinned (.plain (OpenSpec.ofChange hearthPlansSpec)) hearthPlansCard

/-- THE TIED CARD OF 'aloeswoodlaw03.ScoreSaves'. -/
def scoreSavesCard : Claim7 := { stood := { row := scoreSavesRow, standIns := [], harness := (true, "67c0911e37503d6be452c995e77bc76c42a3323ae42d8cd2e998539c7423e7cd"), looks := true }, kinds := [], alts := [], laidByText := true, laidKinds := [.data, .data, .data, .data, .sentinel, .sentinel, .widerDeep, .pinned], laidTests := true, laidLooks := .later }
def ScoreSavesCardSaid : Prop := Claim7.holds Tryz.pinned (.plain (OpenSpec.ofChange scoreSavesSpec)) scoreSavesCard

/-- THE TIED CARD OF 'aloeswoodlaw03.ScoreSaved'. -/
def scoreSavedCard : Claim7 := { stood := { row := scoreSavedRow, standIns := [], harness := (true, "67c0911e37503d6be452c995e77bc76c42a3323ae42d8cd2e998539c7423e7cd"), looks := true }, kinds := [], alts := [], laidByText := true, laidKinds := [.data, .data, .data, .data, .sentinel, .sentinel, .widerDeep, .pinned], laidTests := true, laidLooks := .later }
def ScoreSavedCardSaid : Prop := Claim7.holds Tryz.pinned (.plain (OpenSpec.ofChange scoreSavedSpec)) scoreSavedCard

/-- THE TIED CARD OF 'aloeswoodlaw03.ScoreInterrupted'. -/
def scoreInterruptedCard : Claim7 := { stood := { row := scoreInterruptedRow, standIns := [], harness := (true, "67c0911e37503d6be452c995e77bc76c42a3323ae42d8cd2e998539c7423e7cd"), looks := true }, kinds := [], alts := [], laidByText := true, laidKinds := [.data, .data, .data, .data, .sentinel, .sentinel, .widerDeep, .pinned], laidTests := true, laidLooks := .later }
def ScoreInterruptedCardSaid : Prop := Claim7.holds Tryz.pinned (.plain (OpenSpec.ofChange scoreInterruptedSpec)) scoreInterruptedCard

/-- THE SECOND FORM's CARD OF 'aloeswoodlaw07.HearthPlans'. -/
def hearthPlansUptoCard : Claim7 := { stood := { row := hearthPlansUptoRow, standIns := [], harness := (true, "67c0911e37503d6be452c995e77bc76c42a3323ae42d8cd2e998539c7423e7cd"), looks := true }, kinds := [], alts := [], laidByText := true, laidKinds := [.data, .data, .data, .data, .sentinel, .sentinel, .pinned], laidTests := true, laidLooks := .later }
def HearthPlansUptoCardSaid : Prop := Claim7.holds Tryz.pinned (.plain (OpenSpec.upto hearthPlansSpec)) hearthPlansUptoCard

/-- THE SECOND FORM's CARD OF 'aloeswoodlaw03.ScoreSaves'. -/
def scoreSavesUptoCard : Claim7 := { stood := { row := scoreSavesUptoRow, standIns := [], harness := (true, "67c0911e37503d6be452c995e77bc76c42a3323ae42d8cd2e998539c7423e7cd"), looks := true }, kinds := [], alts := [], laidByText := true, laidKinds := [.data, .data, .data, .data, .sentinel, .sentinel, .widerDeep, .pinned], laidTests := true, laidLooks := .later }
def ScoreSavesUptoCardSaid : Prop := Claim7.holds Tryz.pinned (.plain (OpenSpec.upto scoreSavesSpec)) scoreSavesUptoCard

/-- THE SECOND FORM's CARD OF 'aloeswoodlaw03.ScoreSaved'. -/
def scoreSavedUptoCard : Claim7 := { stood := { row := scoreSavedUptoRow, standIns := [], harness := (true, "67c0911e37503d6be452c995e77bc76c42a3323ae42d8cd2e998539c7423e7cd"), looks := true }, kinds := [], alts := [], laidByText := true, laidKinds := [.data, .data, .data, .data, .sentinel, .sentinel, .widerDeep, .pinned], laidTests := true, laidLooks := .later }
def ScoreSavedUptoCardSaid : Prop := Claim7.holds Tryz.pinned (.plain (OpenSpec.upto scoreSavedSpec)) scoreSavedUptoCard

/-- THE SECOND FORM's CARD OF 'aloeswoodlaw03.ScoreInterrupted'. -/
def scoreInterruptedUptoCard : Claim7 := { stood := { row := scoreInterruptedUptoRow, standIns := [], harness := (true, "67c0911e37503d6be452c995e77bc76c42a3323ae42d8cd2e998539c7423e7cd"), looks := true }, kinds := [], alts := [], laidByText := true, laidKinds := [.data, .data, .data, .data, .sentinel, .sentinel, .widerDeep, .pinned], laidTests := true, laidLooks := .later }
def ScoreInterruptedUptoCardSaid : Prop := Claim7.holds Tryz.pinned (.plain (OpenSpec.upto scoreInterruptedSpec)) scoreInterruptedUptoCard
end Rows
end Go.Proofs.YtgmohiojddnfgaaGreatDoor

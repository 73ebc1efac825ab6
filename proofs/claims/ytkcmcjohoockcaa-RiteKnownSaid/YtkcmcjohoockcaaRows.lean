/-
  No cell of these rows narrows 'for every input' (looked for: loops, veiled, ifaces, maps, wideKeys, modest, calm, conditions, laid).
  DERIVED. THE GIVEN ROWS OF THIS SEAT. 6 by the template 'for every input the law returns true; each argument reads behind the call as it read before'; 0 by the template 'total and deterministic' (their statements: YtkcmcjohoockcaaTotals.lean).
  GIVEN WITH THE SEED: the statements are not yours to turn. If you find one false, say at which input.
  Laid BY PROGRAM, IN A SANDBOX (cutbox-rows.mjs): the forced cells as the released guide's own fill.sh prints them over the translation dffaf1b27995e0fa… (all of the seat's roots in one cut). By AI agents, Wed Nov 11 2026. No macro, syntax, notation, axiom, sorry.
-/
import Derived.Test.YtkcmcjohoockcaaChecked
import GoSem.Claim
import GoSem.ClaimJoined
import GoSem.ClaimMapViews
import Derived.JoinedTies
import Derived.KernelRfl
namespace Go.Proofs.Ytkcmcjohoockcaa
/- THE CELL 'sum', in the pinned program and in every row, IS THE sha256 OF THE DUMP (.gsa) THAT YtkcmcjohoockcaaProg.lean LOADS. Nothing in Lean hashes anything: it is a label: what it is worth is what the hold of that sum in a sandbox is worth. -/
noncomputable def Try.pinned : Pinned := { name := "ytkcmcjohoockcaa", sum := "dffaf1b27995e0fae18e1b95760f5b88ac3d88ece282805f7815d1c3231c7e68", checked := Try.checked }
namespace Rows
def none {H : Type} : Left H := { results := [], args := [] }

/-- 'aloeswoodlaw06.RiteChecks': WHATEVER THE INPUT: true; the input reads as it did. -/
def riteChecksSpec : ChangeSpec := { name := "riteChecks", fn := fun _ => fun
  | [d1, d2, d3, d4] => { results := [.lit (.bool true)], args := [d1, d2, d3, d4] }
  | _ => none }
def riteChecksRow : OpenClaim := { program := "ytkcmcjohoockcaa", sum := "dffaf1b27995e0fae18e1b95760f5b88ac3d88ece282805f7815d1c3231c7e68", func := "aloeswood/aloeswoodlaw06.RiteChecks", spec := "riteChecks", unfollowed := true, recurses := true, plainKeys := false, apart := false }
def RiteChecksSaid : Prop := riteChecksRow.holds Try.pinned (OpenSpec.ofChange riteChecksSpec)

/-- ITS FALSE NEIGHBOUR: 'it returns false'. Refute it at one input. -/
def riteChecksWrong : ChangeSpec := { name := "riteChecks", fn := fun _ => fun
  | [d1, d2, d3, d4] => { results := [.lit (.bool false)], args := [d1, d2, d3, d4] }
  | _ => none }
def RiteChecksWrongFalsely : Prop := riteChecksRow.holds Try.pinned (OpenSpec.ofChange riteChecksWrong)

/-- 'aloeswoodlaw06.RiteHands': WHATEVER THE INPUT: true; the input reads as it did. -/
def riteHandsSpec : ChangeSpec := { name := "riteHands", fn := fun _ => fun
  | [d] => { results := [.lit (.bool true)], args := [d] }
  | _ => none }
def riteHandsRow : OpenClaim := { program := "ytkcmcjohoockcaa", sum := "dffaf1b27995e0fae18e1b95760f5b88ac3d88ece282805f7815d1c3231c7e68", func := "aloeswood/aloeswoodlaw06.RiteHands", spec := "riteHands", unfollowed := true, recurses := true, plainKeys := false, apart := false }
def RiteHandsSaid : Prop := riteHandsRow.holds Try.pinned (OpenSpec.ofChange riteHandsSpec)

/-- ITS FALSE NEIGHBOUR: 'it returns false'. Refute it at one input. -/
def riteHandsWrong : ChangeSpec := { name := "riteHands", fn := fun _ => fun
  | [d] => { results := [.lit (.bool false)], args := [d] }
  | _ => none }
def RiteHandsWrongFalsely : Prop := riteHandsRow.holds Try.pinned (OpenSpec.ofChange riteHandsWrong)

/-- 'aloeswoodlaw06.RiteEnds': WHATEVER THE INPUT: true; the input reads as it did. -/
def riteEndsSpec : ChangeSpec := { name := "riteEnds", fn := fun _ => fun
  | [d] => { results := [.lit (.bool true)], args := [d] }
  | _ => none }
def riteEndsRow : OpenClaim := { program := "ytkcmcjohoockcaa", sum := "dffaf1b27995e0fae18e1b95760f5b88ac3d88ece282805f7815d1c3231c7e68", func := "aloeswood/aloeswoodlaw06.RiteEnds", spec := "riteEnds", unfollowed := true, recurses := true, plainKeys := false, apart := false }
def RiteEndsSaid : Prop := riteEndsRow.holds Try.pinned (OpenSpec.ofChange riteEndsSpec)

/-- ITS FALSE NEIGHBOUR: 'it returns false'. Refute it at one input. -/
def riteEndsWrong : ChangeSpec := { name := "riteEnds", fn := fun _ => fun
  | [d] => { results := [.lit (.bool false)], args := [d] }
  | _ => none }
def RiteEndsWrongFalsely : Prop := riteEndsRow.holds Try.pinned (OpenSpec.ofChange riteEndsWrong)

/-- 'aloeswoodlaw06.RiteTogether': WHATEVER THE INPUT: true; the input reads as it did. -/
def riteTogetherSpec : ChangeSpec := { name := "riteTogether", fn := fun _ => fun
  | [d] => { results := [.lit (.bool true)], args := [d] }
  | _ => none }
def riteTogetherRow : OpenClaim := { program := "ytkcmcjohoockcaa", sum := "dffaf1b27995e0fae18e1b95760f5b88ac3d88ece282805f7815d1c3231c7e68", func := "aloeswood/aloeswoodlaw06.RiteTogether", spec := "riteTogether", unfollowed := true, recurses := true, plainKeys := false, apart := false }
def RiteTogetherSaid : Prop := riteTogetherRow.holds Try.pinned (OpenSpec.ofChange riteTogetherSpec)

/-- ITS FALSE NEIGHBOUR: 'it returns false'. Refute it at one input. -/
def riteTogetherWrong : ChangeSpec := { name := "riteTogether", fn := fun _ => fun
  | [d] => { results := [.lit (.bool false)], args := [d] }
  | _ => none }
def RiteTogetherWrongFalsely : Prop := riteTogetherRow.holds Try.pinned (OpenSpec.ofChange riteTogetherWrong)

/-- 'aloeswoodlaw06.RiteChosen': WHATEVER THE INPUT: true; the input reads as it did. -/
def riteChosenSpec : ChangeSpec := { name := "riteChosen", fn := fun _ => fun
  | [d] => { results := [.lit (.bool true)], args := [d] }
  | _ => none }
def riteChosenRow : OpenClaim := { program := "ytkcmcjohoockcaa", sum := "dffaf1b27995e0fae18e1b95760f5b88ac3d88ece282805f7815d1c3231c7e68", func := "aloeswood/aloeswoodlaw06.RiteChosen", spec := "riteChosen", unfollowed := true, recurses := true, plainKeys := false, apart := false }
def RiteChosenSaid : Prop := riteChosenRow.holds Try.pinned (OpenSpec.ofChange riteChosenSpec)

/-- ITS FALSE NEIGHBOUR: 'it returns false'. Refute it at one input. -/
def riteChosenWrong : ChangeSpec := { name := "riteChosen", fn := fun _ => fun
  | [d] => { results := [.lit (.bool false)], args := [d] }
  | _ => none }
def RiteChosenWrongFalsely : Prop := riteChosenRow.holds Try.pinned (OpenSpec.ofChange riteChosenWrong)

/-- 'aloeswoodlaw06.RiteKnown': WHATEVER THE INPUT: true; the input reads as it did. -/
def riteKnownSpec : ChangeSpec := { name := "riteKnown", fn := fun _ => fun
  | [] => { results := [.lit (.bool true)], args := [] }
  | _ => none }
def riteKnownRow : OpenClaim := { program := "ytkcmcjohoockcaa", sum := "dffaf1b27995e0fae18e1b95760f5b88ac3d88ece282805f7815d1c3231c7e68", func := "aloeswood/aloeswoodlaw06.RiteKnown", spec := "riteKnown", unfollowed := true, recurses := true, plainKeys := false, apart := false }
def RiteKnownSaid : Prop := riteKnownRow.holds Try.pinned (OpenSpec.ofChange riteKnownSpec)

/-- ITS FALSE NEIGHBOUR: 'it returns false'. Refute it at one input. -/
def riteKnownWrong : ChangeSpec := { name := "riteKnown", fn := fun _ => fun
  | [] => { results := [.lit (.bool false)], args := [] }
  | _ => none }
def RiteKnownWrongFalsely : Prop := riteKnownRow.holds Try.pinned (OpenSpec.ofChange riteKnownWrong)

/- THE SECOND FORM. 'bulk': how many values and letters a reading holds, each counted each time it is reached (what is shared counts as often as it is met; a slice's spare places count too). A statement '..UptoSaid' is the law's where the arguments, and the package variables that the reading takes, are together of bulk at most 1048576: NARROWER than '..Said'. Prove '..Said' where nothing that the law and all that it calls make is longer than what came in: it says more and counts as full. Else prove '..UptoSaid'. A law counts once. -/
mutual
def uptoBulk {H : Type} : DataW H → Nat
  | .lit (.string bytes) => bytes.length + 1
  | .lit _ => 1
  | .nil => 1
  | .ptr d => uptoBulk d + 1
  | .slice elems spare => uptoBulkAll elems + uptoBulkAll spare + 1
  | .agg parts => uptoBulkAll parts + 1
  | .iface _ d => uptoBulk d + 1
  | .map entries => uptoBulkEntries entries + 1
  | .held _ => 1
def uptoBulkAll {H : Type} : List (DataW H) → Nat
  | [] => 0
  | d :: r => uptoBulk d + uptoBulkAll r
def uptoBulkEntries {H : Type} : List (Lit × DataW H) → Nat
  | [] => 0
  | x :: r => uptoBulkEntry x + uptoBulkEntries r
def uptoBulkEntry {H : Type} : Lit × DataW H → Nat
  | (.string bytes, d) => bytes.length + uptoBulk d + 1
  | (_, d) => uptoBulk d + 1
 end
def uptoSmall : (H : Type) → List (DataW H) → Bool := fun _ ds => decide (uptoBulkAll ds ≤ 1048576)
def OpenSpec.upto (s : _root_.Go.ChangeSpec) : _root_.Go.OpenSpec := { _root_.Go.OpenSpec.ofChange s with cond := some uptoSmall }

/-- 'aloeswoodlaw06.RiteChecks', WHERE WHAT IT READS IS OF BULK AT MOST 1048576: true; the input reads as it did. -/
def riteChecksUptoRow : OpenClaim := { program := "ytkcmcjohoockcaa", sum := "dffaf1b27995e0fae18e1b95760f5b88ac3d88ece282805f7815d1c3231c7e68", func := "aloeswood/aloeswoodlaw06.RiteChecks", spec := "riteChecks", unfollowed := true, recurses := true, plainKeys := false, apart := false, narrowed := true }
def RiteChecksUptoSaid : Prop := riteChecksUptoRow.holds Try.pinned (OpenSpec.upto riteChecksSpec)

/-- 'aloeswoodlaw06.RiteHands', WHERE WHAT IT READS IS OF BULK AT MOST 1048576: true; the input reads as it did. -/
def riteHandsUptoRow : OpenClaim := { program := "ytkcmcjohoockcaa", sum := "dffaf1b27995e0fae18e1b95760f5b88ac3d88ece282805f7815d1c3231c7e68", func := "aloeswood/aloeswoodlaw06.RiteHands", spec := "riteHands", unfollowed := true, recurses := true, plainKeys := false, apart := false, narrowed := true }
def RiteHandsUptoSaid : Prop := riteHandsUptoRow.holds Try.pinned (OpenSpec.upto riteHandsSpec)

/-- 'aloeswoodlaw06.RiteEnds', WHERE WHAT IT READS IS OF BULK AT MOST 1048576: true; the input reads as it did. -/
def riteEndsUptoRow : OpenClaim := { program := "ytkcmcjohoockcaa", sum := "dffaf1b27995e0fae18e1b95760f5b88ac3d88ece282805f7815d1c3231c7e68", func := "aloeswood/aloeswoodlaw06.RiteEnds", spec := "riteEnds", unfollowed := true, recurses := true, plainKeys := false, apart := false, narrowed := true }
def RiteEndsUptoSaid : Prop := riteEndsUptoRow.holds Try.pinned (OpenSpec.upto riteEndsSpec)

/-- 'aloeswoodlaw06.RiteTogether', WHERE WHAT IT READS IS OF BULK AT MOST 1048576: true; the input reads as it did. -/
def riteTogetherUptoRow : OpenClaim := { program := "ytkcmcjohoockcaa", sum := "dffaf1b27995e0fae18e1b95760f5b88ac3d88ece282805f7815d1c3231c7e68", func := "aloeswood/aloeswoodlaw06.RiteTogether", spec := "riteTogether", unfollowed := true, recurses := true, plainKeys := false, apart := false, narrowed := true }
def RiteTogetherUptoSaid : Prop := riteTogetherUptoRow.holds Try.pinned (OpenSpec.upto riteTogetherSpec)

/-- 'aloeswoodlaw06.RiteChosen', WHERE WHAT IT READS IS OF BULK AT MOST 1048576: true; the input reads as it did. -/
def riteChosenUptoRow : OpenClaim := { program := "ytkcmcjohoockcaa", sum := "dffaf1b27995e0fae18e1b95760f5b88ac3d88ece282805f7815d1c3231c7e68", func := "aloeswood/aloeswoodlaw06.RiteChosen", spec := "riteChosen", unfollowed := true, recurses := true, plainKeys := false, apart := false, narrowed := true }
def RiteChosenUptoSaid : Prop := riteChosenUptoRow.holds Try.pinned (OpenSpec.upto riteChosenSpec)

/-- 'aloeswoodlaw06.RiteKnown', WHERE WHAT IT READS IS OF BULK AT MOST 1048576: true; the input reads as it did. -/
def riteKnownUptoRow : OpenClaim := { program := "ytkcmcjohoockcaa", sum := "dffaf1b27995e0fae18e1b95760f5b88ac3d88ece282805f7815d1c3231c7e68", func := "aloeswood/aloeswoodlaw06.RiteKnown", spec := "riteKnown", unfollowed := true, recurses := true, plainKeys := false, apart := false, narrowed := true }
def RiteKnownUptoSaid : Prop := riteKnownUptoRow.holds Try.pinned (OpenSpec.upto riteKnownSpec)

end Rows
end Go.Proofs.Ytkcmcjohoockcaa

/-
  No cell of these rows narrows 'for every input' (looked for: loops, veiled, ifaces, maps, wideKeys, modest, calm, conditions, laid).
  DERIVED. THE GIVEN ROWS OF THIS SEAT. 11 by the template 'for every input the law returns true; each argument reads behind the call as it read before'; 0 by the template 'total and deterministic' (their statements: YthcpepcmnmlmeaaTotals.lean).
  GIVEN WITH THE SEED: the statements are not yours to turn. If you find one false, say at which input.
  Laid BY PROGRAM, IN A SANDBOX (cutbox-rows.mjs): the forced cells as the released guide's own fill.sh prints them over the translation 26dc77fac57cc909… (all of the seat's roots in one cut). By AI agents, Wed Nov 11 2026. No macro, syntax, notation, axiom, sorry.
-/
import Derived.Test.YthcpepcmnmlmeaaChecked
import GoSem.Claim
import GoSem.ClaimJoined
import GoSem.ClaimMapViews
import Derived.JoinedTies
import Derived.KernelRfl
namespace Go.Proofs.Ythcpepcmnmlmeaa
/- THE CELL 'sum', in the pinned program and in every row, IS THE sha256 OF THE DUMP (.gsa) THAT YthcpepcmnmlmeaaProg.lean LOADS. Nothing in Lean hashes anything: it is a label: what it is worth is what the hold of that sum in a sandbox is worth. -/
noncomputable def Try.pinned : Pinned := { name := "ythcpepcmnmlmeaa", sum := "26dc77fac57cc909841c84830ac945d562fb6e106468c09b773660d0dc2774ad", checked := Try.checked }
namespace Rows
def none {H : Type} : Left H := { results := [], args := [] }

/-- 'aloeswoodtop.TopSame': WHATEVER THE INPUT: true; the input reads as it did. -/
def topSameSpec : ChangeSpec := { name := "topSame", fn := fun _ => fun
  | [d] => { results := [.lit (.bool true)], args := [d] }
  | _ => none }
def topSameRow : OpenClaim := { program := "ythcpepcmnmlmeaa", sum := "26dc77fac57cc909841c84830ac945d562fb6e106468c09b773660d0dc2774ad", func := "aloeswood/aloeswoodtop.TopSame", spec := "topSame", unfollowed := true, recurses := true, plainKeys := false, apart := false }
def TopSameSaid : Prop := topSameRow.holds Try.pinned (OpenSpec.ofChange topSameSpec)

/-- ITS FALSE NEIGHBOUR: 'it returns false'. Refute it at one input. -/
def topSameWrong : ChangeSpec := { name := "topSame", fn := fun _ => fun
  | [d] => { results := [.lit (.bool false)], args := [d] }
  | _ => none }
def TopSameWrongFalsely : Prop := topSameRow.holds Try.pinned (OpenSpec.ofChange topSameWrong)

/-- 'aloeswoodlaw03.ScoreChecks': WHATEVER THE INPUT: true; the input reads as it did. -/
def scoreChecksSpec : ChangeSpec := { name := "scoreChecks", fn := fun _ => fun
  | [d1, d2, d3, d4] => { results := [.lit (.bool true)], args := [d1, d2, d3, d4] }
  | _ => none }
def scoreChecksRow : OpenClaim := { program := "ythcpepcmnmlmeaa", sum := "26dc77fac57cc909841c84830ac945d562fb6e106468c09b773660d0dc2774ad", func := "aloeswood/aloeswoodlaw03.ScoreChecks", spec := "scoreChecks", unfollowed := true, recurses := true, plainKeys := false, apart := false }
def ScoreChecksSaid : Prop := scoreChecksRow.holds Try.pinned (OpenSpec.ofChange scoreChecksSpec)

/-- ITS FALSE NEIGHBOUR: 'it returns false'. Refute it at one input. -/
def scoreChecksWrong : ChangeSpec := { name := "scoreChecks", fn := fun _ => fun
  | [d1, d2, d3, d4] => { results := [.lit (.bool false)], args := [d1, d2, d3, d4] }
  | _ => none }
def ScoreChecksWrongFalsely : Prop := scoreChecksRow.holds Try.pinned (OpenSpec.ofChange scoreChecksWrong)

/-- 'aloeswoodlaw03.ScoreRanks': WHATEVER THE INPUT: true; the input reads as it did. -/
def scoreRanksSpec : ChangeSpec := { name := "scoreRanks", fn := fun _ => fun
  | [d1, d2, d3, d4] => { results := [.lit (.bool true)], args := [d1, d2, d3, d4] }
  | _ => none }
def scoreRanksRow : OpenClaim := { program := "ythcpepcmnmlmeaa", sum := "26dc77fac57cc909841c84830ac945d562fb6e106468c09b773660d0dc2774ad", func := "aloeswood/aloeswoodlaw03.ScoreRanks", spec := "scoreRanks", unfollowed := true, recurses := true, plainKeys := false, apart := false }
def ScoreRanksSaid : Prop := scoreRanksRow.holds Try.pinned (OpenSpec.ofChange scoreRanksSpec)

/-- ITS FALSE NEIGHBOUR: 'it returns false'. Refute it at one input. -/
def scoreRanksWrong : ChangeSpec := { name := "scoreRanks", fn := fun _ => fun
  | [d1, d2, d3, d4] => { results := [.lit (.bool false)], args := [d1, d2, d3, d4] }
  | _ => none }
def ScoreRanksWrongFalsely : Prop := scoreRanksRow.holds Try.pinned (OpenSpec.ofChange scoreRanksWrong)

/-- 'aloeswoodlaw03.ScoreDeeds': WHATEVER THE INPUT: true; the input reads as it did. -/
def scoreDeedsSpec : ChangeSpec := { name := "scoreDeeds", fn := fun _ => fun
  | [d1, d2, d3] => { results := [.lit (.bool true)], args := [d1, d2, d3] }
  | _ => none }
def scoreDeedsRow : OpenClaim := { program := "ythcpepcmnmlmeaa", sum := "26dc77fac57cc909841c84830ac945d562fb6e106468c09b773660d0dc2774ad", func := "aloeswood/aloeswoodlaw03.ScoreDeeds", spec := "scoreDeeds", unfollowed := true, recurses := true, plainKeys := false, apart := false }
def ScoreDeedsSaid : Prop := scoreDeedsRow.holds Try.pinned (OpenSpec.ofChange scoreDeedsSpec)

/-- ITS FALSE NEIGHBOUR: 'it returns false'. Refute it at one input. -/
def scoreDeedsWrong : ChangeSpec := { name := "scoreDeeds", fn := fun _ => fun
  | [d1, d2, d3] => { results := [.lit (.bool false)], args := [d1, d2, d3] }
  | _ => none }
def ScoreDeedsWrongFalsely : Prop := scoreDeedsRow.holds Try.pinned (OpenSpec.ofChange scoreDeedsWrong)

/-- 'aloeswoodlaw03.ScoreNames': WHATEVER THE INPUT: true; the input reads as it did. -/
def scoreNamesSpec : ChangeSpec := { name := "scoreNames", fn := fun _ => fun
  | [d] => { results := [.lit (.bool true)], args := [d] }
  | _ => none }
def scoreNamesRow : OpenClaim := { program := "ythcpepcmnmlmeaa", sum := "26dc77fac57cc909841c84830ac945d562fb6e106468c09b773660d0dc2774ad", func := "aloeswood/aloeswoodlaw03.ScoreNames", spec := "scoreNames", unfollowed := true, recurses := true, plainKeys := false, apart := false }
def ScoreNamesSaid : Prop := scoreNamesRow.holds Try.pinned (OpenSpec.ofChange scoreNamesSpec)

/-- ITS FALSE NEIGHBOUR: 'it returns false'. Refute it at one input. -/
def scoreNamesWrong : ChangeSpec := { name := "scoreNames", fn := fun _ => fun
  | [d] => { results := [.lit (.bool false)], args := [d] }
  | _ => none }
def ScoreNamesWrongFalsely : Prop := scoreNamesRow.holds Try.pinned (OpenSpec.ofChange scoreNamesWrong)

/-- 'aloeswoodlaw03.ScoreTruth': WHATEVER THE INPUT: true; the input reads as it did. -/
def scoreTruthSpec : ChangeSpec := { name := "scoreTruth", fn := fun _ => fun
  | [d] => { results := [.lit (.bool true)], args := [d] }
  | _ => none }
def scoreTruthRow : OpenClaim := { program := "ythcpepcmnmlmeaa", sum := "26dc77fac57cc909841c84830ac945d562fb6e106468c09b773660d0dc2774ad", func := "aloeswood/aloeswoodlaw03.ScoreTruth", spec := "scoreTruth", unfollowed := true, recurses := true, plainKeys := false, apart := false }
def ScoreTruthSaid : Prop := scoreTruthRow.holds Try.pinned (OpenSpec.ofChange scoreTruthSpec)

/-- ITS FALSE NEIGHBOUR: 'it returns false'. Refute it at one input. -/
def scoreTruthWrong : ChangeSpec := { name := "scoreTruth", fn := fun _ => fun
  | [d] => { results := [.lit (.bool false)], args := [d] }
  | _ => none }
def ScoreTruthWrongFalsely : Prop := scoreTruthRow.holds Try.pinned (OpenSpec.ofChange scoreTruthWrong)

/-- 'aloeswoodlaw03.ScoreSums': WHATEVER THE INPUT: true; the input reads as it did. -/
def scoreSumsSpec : ChangeSpec := { name := "scoreSums", fn := fun _ => fun
  | [d] => { results := [.lit (.bool true)], args := [d] }
  | _ => none }
def scoreSumsRow : OpenClaim := { program := "ythcpepcmnmlmeaa", sum := "26dc77fac57cc909841c84830ac945d562fb6e106468c09b773660d0dc2774ad", func := "aloeswood/aloeswoodlaw03.ScoreSums", spec := "scoreSums", unfollowed := true, recurses := true, plainKeys := false, apart := false }
def ScoreSumsSaid : Prop := scoreSumsRow.holds Try.pinned (OpenSpec.ofChange scoreSumsSpec)

/-- ITS FALSE NEIGHBOUR: 'it returns false'. Refute it at one input. -/
def scoreSumsWrong : ChangeSpec := { name := "scoreSums", fn := fun _ => fun
  | [d] => { results := [.lit (.bool false)], args := [d] }
  | _ => none }
def ScoreSumsWrongFalsely : Prop := scoreSumsRow.holds Try.pinned (OpenSpec.ofChange scoreSumsWrong)

/-- 'aloeswoodlaw03.ScorePlaces': WHATEVER THE INPUT: true; the input reads as it did. -/
def scorePlacesSpec : ChangeSpec := { name := "scorePlaces", fn := fun _ => fun
  | [d] => { results := [.lit (.bool true)], args := [d] }
  | _ => none }
def scorePlacesRow : OpenClaim := { program := "ythcpepcmnmlmeaa", sum := "26dc77fac57cc909841c84830ac945d562fb6e106468c09b773660d0dc2774ad", func := "aloeswood/aloeswoodlaw03.ScorePlaces", spec := "scorePlaces", unfollowed := true, recurses := true, plainKeys := false, apart := false }
def ScorePlacesSaid : Prop := scorePlacesRow.holds Try.pinned (OpenSpec.ofChange scorePlacesSpec)

/-- ITS FALSE NEIGHBOUR: 'it returns false'. Refute it at one input. -/
def scorePlacesWrong : ChangeSpec := { name := "scorePlaces", fn := fun _ => fun
  | [d] => { results := [.lit (.bool false)], args := [d] }
  | _ => none }
def ScorePlacesWrongFalsely : Prop := scorePlacesRow.holds Try.pinned (OpenSpec.ofChange scorePlacesWrong)

/-- 'aloeswoodlaw03.ScoreRefused': WHATEVER THE INPUT: true; the input reads as it did. -/
def scoreRefusedSpec : ChangeSpec := { name := "scoreRefused", fn := fun _ => fun
  | [d] => { results := [.lit (.bool true)], args := [d] }
  | _ => none }
def scoreRefusedRow : OpenClaim := { program := "ythcpepcmnmlmeaa", sum := "26dc77fac57cc909841c84830ac945d562fb6e106468c09b773660d0dc2774ad", func := "aloeswood/aloeswoodlaw03.ScoreRefused", spec := "scoreRefused", unfollowed := true, recurses := true, plainKeys := false, apart := false }
def ScoreRefusedSaid : Prop := scoreRefusedRow.holds Try.pinned (OpenSpec.ofChange scoreRefusedSpec)

/-- ITS FALSE NEIGHBOUR: 'it returns false'. Refute it at one input. -/
def scoreRefusedWrong : ChangeSpec := { name := "scoreRefused", fn := fun _ => fun
  | [d] => { results := [.lit (.bool false)], args := [d] }
  | _ => none }
def ScoreRefusedWrongFalsely : Prop := scoreRefusedRow.holds Try.pinned (OpenSpec.ofChange scoreRefusedWrong)

/-- 'aloeswoodlaw03.ScoreOrder': WHATEVER THE INPUT: true; the input reads as it did. -/
def scoreOrderSpec : ChangeSpec := { name := "scoreOrder", fn := fun _ => fun
  | [d] => { results := [.lit (.bool true)], args := [d] }
  | _ => none }
def scoreOrderRow : OpenClaim := { program := "ythcpepcmnmlmeaa", sum := "26dc77fac57cc909841c84830ac945d562fb6e106468c09b773660d0dc2774ad", func := "aloeswood/aloeswoodlaw03.ScoreOrder", spec := "scoreOrder", unfollowed := true, recurses := true, plainKeys := false, apart := false }
def ScoreOrderSaid : Prop := scoreOrderRow.holds Try.pinned (OpenSpec.ofChange scoreOrderSpec)

/-- ITS FALSE NEIGHBOUR: 'it returns false'. Refute it at one input. -/
def scoreOrderWrong : ChangeSpec := { name := "scoreOrder", fn := fun _ => fun
  | [d] => { results := [.lit (.bool false)], args := [d] }
  | _ => none }
def ScoreOrderWrongFalsely : Prop := scoreOrderRow.holds Try.pinned (OpenSpec.ofChange scoreOrderWrong)

/-- 'aloeswoodlaw03.ScoreRuns': WHATEVER THE INPUT: true; the input reads as it did. -/
def scoreRunsSpec : ChangeSpec := { name := "scoreRuns", fn := fun _ => fun
  | [d1, d2, d3, d4, d5] => { results := [.lit (.bool true)], args := [d1, d2, d3, d4, d5] }
  | _ => none }
def scoreRunsRow : OpenClaim := { program := "ythcpepcmnmlmeaa", sum := "26dc77fac57cc909841c84830ac945d562fb6e106468c09b773660d0dc2774ad", func := "aloeswood/aloeswoodlaw03.ScoreRuns", spec := "scoreRuns", unfollowed := true, recurses := true, plainKeys := false, apart := false }
def ScoreRunsSaid : Prop := scoreRunsRow.holds Try.pinned (OpenSpec.ofChange scoreRunsSpec)

/-- ITS FALSE NEIGHBOUR: 'it returns false'. Refute it at one input. -/
def scoreRunsWrong : ChangeSpec := { name := "scoreRuns", fn := fun _ => fun
  | [d1, d2, d3, d4, d5] => { results := [.lit (.bool false)], args := [d1, d2, d3, d4, d5] }
  | _ => none }
def ScoreRunsWrongFalsely : Prop := scoreRunsRow.holds Try.pinned (OpenSpec.ofChange scoreRunsWrong)

/- THE SECOND FORM. 'bulk': how many values and letters a reading holds, each counted each time it is reached (what is shared counts as often as it is met; a slice's spare places count too). A statement '..UptoSaid' is the law's where the arguments, and the package variables that the reading takes, are together of bulk at most 1048576: NARROWER than '..Said'. Prove '..Said' where nothing that the law and all that it calls make is longer than what came in: it says more and counts as full. Else prove '..UptoSaid'. A law counts once. -/
mutual
def uptoBulk {H : Type} : DataW H → Nat
  | .lit (.string bytes) => bytes.length + 1
  | .lit _ => 1
  | .nil => 1
  | .ptr d => uptoBulk d + 1
  | .slice elems spare => uptoBulkAll elems + uptoBulkAll spare + 1
  | .agg parts => uptoBulkAll parts + 1
  | .iface _ d => uptoBulk d + 1
  | .map entries => uptoBulkEntries entries + 1
  | .held _ => 1
def uptoBulkAll {H : Type} : List (DataW H) → Nat
  | [] => 0
  | d :: r => uptoBulk d + uptoBulkAll r
def uptoBulkEntries {H : Type} : List (Lit × DataW H) → Nat
  | [] => 0
  | x :: r => uptoBulkEntry x + uptoBulkEntries r
def uptoBulkEntry {H : Type} : Lit × DataW H → Nat
  | (.string bytes, d) => bytes.length + uptoBulk d + 1
  | (_, d) => uptoBulk d + 1
 end
def uptoSmall : (H : Type) → List (DataW H) → Bool := fun _ ds => decide (uptoBulkAll ds ≤ 1048576)
def OpenSpec.upto (s : _root_.Go.ChangeSpec) : _root_.Go.OpenSpec := { _root_.Go.OpenSpec.ofChange s with cond := some uptoSmall }

/-- 'aloeswoodtop.TopSame', WHERE WHAT IT READS IS OF BULK AT MOST 1048576: true; the input reads as it did. -/
def topSameUptoRow : OpenClaim := { program := "ythcpepcmnmlmeaa", sum := "26dc77fac57cc909841c84830ac945d562fb6e106468c09b773660d0dc2774ad", func := "aloeswood/aloeswoodtop.TopSame", spec := "topSame", unfollowed := true, recurses := true, plainKeys := false, apart := false, narrowed := true }
def TopSameUptoSaid : Prop := topSameUptoRow.holds Try.pinned (OpenSpec.upto topSameSpec)

/-- 'aloeswoodlaw03.ScoreChecks', WHERE WHAT IT READS IS OF BULK AT MOST 1048576: true; the input reads as it did. -/
def scoreChecksUptoRow : OpenClaim := { program := "ythcpepcmnmlmeaa", sum := "26dc77fac57cc909841c84830ac945d562fb6e106468c09b773660d0dc2774ad", func := "aloeswood/aloeswoodlaw03.ScoreChecks", spec := "scoreChecks", unfollowed := true, recurses := true, plainKeys := false, apart := false, narrowed := true }
def ScoreChecksUptoSaid : Prop := scoreChecksUptoRow.holds Try.pinned (OpenSpec.upto scoreChecksSpec)

/-- 'aloeswoodlaw03.ScoreRanks', WHERE WHAT IT READS IS OF BULK AT MOST 1048576: true; the input reads as it did. -/
def scoreRanksUptoRow : OpenClaim := { program := "ythcpepcmnmlmeaa", sum := "26dc77fac57cc909841c84830ac945d562fb6e106468c09b773660d0dc2774ad", func := "aloeswood/aloeswoodlaw03.ScoreRanks", spec := "scoreRanks", unfollowed := true, recurses := true, plainKeys := false, apart := false, narrowed := true }
def ScoreRanksUptoSaid : Prop := scoreRanksUptoRow.holds Try.pinned (OpenSpec.upto scoreRanksSpec)

/-- 'aloeswoodlaw03.ScoreDeeds', WHERE WHAT IT READS IS OF BULK AT MOST 1048576: true; the input reads as it did. -/
def scoreDeedsUptoRow : OpenClaim := { program := "ythcpepcmnmlmeaa", sum := "26dc77fac57cc909841c84830ac945d562fb6e106468c09b773660d0dc2774ad", func := "aloeswood/aloeswoodlaw03.ScoreDeeds", spec := "scoreDeeds", unfollowed := true, recurses := true, plainKeys := false, apart := false, narrowed := true }
def ScoreDeedsUptoSaid : Prop := scoreDeedsUptoRow.holds Try.pinned (OpenSpec.upto scoreDeedsSpec)

/-- 'aloeswoodlaw03.ScoreNames', WHERE WHAT IT READS IS OF BULK AT MOST 1048576: true; the input reads as it did. -/
def scoreNamesUptoRow : OpenClaim := { program := "ythcpepcmnmlmeaa", sum := "26dc77fac57cc909841c84830ac945d562fb6e106468c09b773660d0dc2774ad", func := "aloeswood/aloeswoodlaw03.ScoreNames", spec := "scoreNames", unfollowed := true, recurses := true, plainKeys := false, apart := false, narrowed := true }
def ScoreNamesUptoSaid : Prop := scoreNamesUptoRow.holds Try.pinned (OpenSpec.upto scoreNamesSpec)

/-- 'aloeswoodlaw03.ScoreTruth', WHERE WHAT IT READS IS OF BULK AT MOST 1048576: true; the input reads as it did. -/
def scoreTruthUptoRow : OpenClaim := { program := "ythcpepcmnmlmeaa", sum := "26dc77fac57cc909841c84830ac945d562fb6e106468c09b773660d0dc2774ad", func := "aloeswood/aloeswoodlaw03.ScoreTruth", spec := "scoreTruth", unfollowed := true, recurses := true, plainKeys := false, apart := false, narrowed := true }
def ScoreTruthUptoSaid : Prop := scoreTruthUptoRow.holds Try.pinned (OpenSpec.upto scoreTruthSpec)

/-- 'aloeswoodlaw03.ScoreSums', WHERE WHAT IT READS IS OF BULK AT MOST 1048576: true; the input reads as it did. -/
def scoreSumsUptoRow : OpenClaim := { program := "ythcpepcmnmlmeaa", sum := "26dc77fac57cc909841c84830ac945d562fb6e106468c09b773660d0dc2774ad", func := "aloeswood/aloeswoodlaw03.ScoreSums", spec := "scoreSums", unfollowed := true, recurses := true, plainKeys := false, apart := false, narrowed := true }
def ScoreSumsUptoSaid : Prop := scoreSumsUptoRow.holds Try.pinned (OpenSpec.upto scoreSumsSpec)

/-- 'aloeswoodlaw03.ScorePlaces', WHERE WHAT IT READS IS OF BULK AT MOST 1048576: true; the input reads as it did. -/
def scorePlacesUptoRow : OpenClaim := { program := "ythcpepcmnmlmeaa", sum := "26dc77fac57cc909841c84830ac945d562fb6e106468c09b773660d0dc2774ad", func := "aloeswood/aloeswoodlaw03.ScorePlaces", spec := "scorePlaces", unfollowed := true, recurses := true, plainKeys := false, apart := false, narrowed := true }
def ScorePlacesUptoSaid : Prop := scorePlacesUptoRow.holds Try.pinned (OpenSpec.upto scorePlacesSpec)

/-- 'aloeswoodlaw03.ScoreRefused', WHERE WHAT IT READS IS OF BULK AT MOST 1048576: true; the input reads as it did. -/
def scoreRefusedUptoRow : OpenClaim := { program := "ythcpepcmnmlmeaa", sum := "26dc77fac57cc909841c84830ac945d562fb6e106468c09b773660d0dc2774ad", func := "aloeswood/aloeswoodlaw03.ScoreRefused", spec := "scoreRefused", unfollowed := true, recurses := true, plainKeys := false, apart := false, narrowed := true }
def ScoreRefusedUptoSaid : Prop := scoreRefusedUptoRow.holds Try.pinned (OpenSpec.upto scoreRefusedSpec)

/-- 'aloeswoodlaw03.ScoreOrder', WHERE WHAT IT READS IS OF BULK AT MOST 1048576: true; the input reads as it did. -/
def scoreOrderUptoRow : OpenClaim := { program := "ythcpepcmnmlmeaa", sum := "26dc77fac57cc909841c84830ac945d562fb6e106468c09b773660d0dc2774ad", func := "aloeswood/aloeswoodlaw03.ScoreOrder", spec := "scoreOrder", unfollowed := true, recurses := true, plainKeys := false, apart := false, narrowed := true }
def ScoreOrderUptoSaid : Prop := scoreOrderUptoRow.holds Try.pinned (OpenSpec.upto scoreOrderSpec)

/-- 'aloeswoodlaw03.ScoreRuns', WHERE WHAT IT READS IS OF BULK AT MOST 1048576: true; the input reads as it did. -/
def scoreRunsUptoRow : OpenClaim := { program := "ythcpepcmnmlmeaa", sum := "26dc77fac57cc909841c84830ac945d562fb6e106468c09b773660d0dc2774ad", func := "aloeswood/aloeswoodlaw03.ScoreRuns", spec := "scoreRuns", unfollowed := true, recurses := true, plainKeys := false, apart := false, narrowed := true }
def ScoreRunsUptoSaid : Prop := scoreRunsUptoRow.holds Try.pinned (OpenSpec.upto scoreRunsSpec)

end Rows
end Go.Proofs.Ythcpepcmnmlmeaa

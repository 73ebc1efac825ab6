/-
  No cell of these rows narrows 'for every input' (looked for: loops, veiled, ifaces, maps, wideKeys, modest, calm, conditions, laid).
  DERIVED. THE GIVEN ROWS OF THIS SEAT. 6 by the template 'for every input the law returns true; each argument reads behind the call as it read before'; 0 by the template 'total and deterministic' (their statements: YtkcmcjohoockcaaGreatTotals.lean).
  GIVEN WITH THE SEED: the statements are not yours to turn. If you find one false, say at which input.
  Laid BY PROGRAM, IN A SANDBOX (cutbox-rows.mjs): the forced cells as the released guide's own fill.sh prints them over the translation 087e0e49af66a0c6… (all of the seat's roots in one cut). By AI agents, Wed Nov 11 2026. No macro, syntax, notation, axiom, sorry.
-/
import Derived.Test.YtkcmcjohoockcaaGreatChecked
import GoSem.Claim
import GoSem.ClaimJoined
import GoSem.ClaimMapViews
import Derived.JoinedTies
import Derived.KernelRfl
namespace Go.Proofs.YtkcmcjohoockcaaGreat
/- THE CELL 'sum', in the pinned program and in every row, IS THE sha256 OF THE DUMP (.gsa) THAT YtkcmcjohoockcaaGreatProg.lean LOADS. Nothing in Lean hashes anything: it is a label: what it is worth is what the hold of that sum in a sandbox is worth. -/
noncomputable def Tryz.pinned : Pinned := { name := "ytkcmcjohoockcaagreat", sum := "087e0e49af66a0c6c0ccacbde138a2f5612a300658d1c88a5b9c35c804ccad63", checked := Tryz.checked }
namespace Rows
def none {H : Type} : Left H := { results := [], args := [] }

/-- 'aloeswoodlaw06.RiteRuns': WHATEVER THE INPUT: true; the input reads as it did. -/
def riteRunsSpec : ChangeSpec := { name := "riteRuns", fn := fun _ => fun
  | [d1, d2, d3, d4, d5, d6] => { results := [.lit (.bool true)], args := [d1, d2, d3, d4, d5, d6] }
  | _ => none }
def riteRunsRow : OpenClaim := { program := "ytkcmcjohoockcaagreat", sum := "087e0e49af66a0c6c0ccacbde138a2f5612a300658d1c88a5b9c35c804ccad63", func := "aloeswood/aloeswoodlaw06.RiteRuns", spec := "riteRuns", unfollowed := true, recurses := true, plainKeys := false, apart := false }
def RiteRunsSaid : Prop := riteRunsRow.holds Tryz.pinned (OpenSpec.ofChange riteRunsSpec)

/-- ITS FALSE NEIGHBOUR: 'it returns false'. Refute it at one input. -/
def riteRunsWrong : ChangeSpec := { name := "riteRuns", fn := fun _ => fun
  | [d1, d2, d3, d4, d5, d6] => { results := [.lit (.bool false)], args := [d1, d2, d3, d4, d5, d6] }
  | _ => none }
def RiteRunsWrongFalsely : Prop := riteRunsRow.holds Tryz.pinned (OpenSpec.ofChange riteRunsWrong)

/-- 'aloeswoodlaw06.RiteLapses': WHATEVER THE INPUT: true; the input reads as it did. -/
def riteLapsesSpec : ChangeSpec := { name := "riteLapses", fn := fun _ => fun
  | [d1, d2, d3, d4, d5] => { results := [.lit (.bool true)], args := [d1, d2, d3, d4, d5] }
  | _ => none }
def riteLapsesRow : OpenClaim := { program := "ytkcmcjohoockcaagreat", sum := "087e0e49af66a0c6c0ccacbde138a2f5612a300658d1c88a5b9c35c804ccad63", func := "aloeswood/aloeswoodlaw06.RiteLapses", spec := "riteLapses", unfollowed := true, recurses := true, plainKeys := false, apart := false }
def RiteLapsesSaid : Prop := riteLapsesRow.holds Tryz.pinned (OpenSpec.ofChange riteLapsesSpec)

/-- ITS FALSE NEIGHBOUR: 'it returns false'. Refute it at one input. -/
def riteLapsesWrong : ChangeSpec := { name := "riteLapses", fn := fun _ => fun
  | [d1, d2, d3, d4, d5] => { results := [.lit (.bool false)], args := [d1, d2, d3, d4, d5] }
  | _ => none }
def RiteLapsesWrongFalsely : Prop := riteLapsesRow.holds Tryz.pinned (OpenSpec.ofChange riteLapsesWrong)

/-- 'aloeswoodlaw06.RiteMends': WHATEVER THE INPUT: true; the input reads as it did. -/
def riteMendsSpec : ChangeSpec := { name := "riteMends", fn := fun _ => fun
  | [d1, d2, d3, d4] => { results := [.lit (.bool true)], args := [d1, d2, d3, d4] }
  | _ => none }
def riteMendsRow : OpenClaim := { program := "ytkcmcjohoockcaagreat", sum := "087e0e49af66a0c6c0ccacbde138a2f5612a300658d1c88a5b9c35c804ccad63", func := "aloeswood/aloeswoodlaw06.RiteMends", spec := "riteMends", unfollowed := true, recurses := true, plainKeys := false, apart := false }
def RiteMendsSaid : Prop := riteMendsRow.holds Tryz.pinned (OpenSpec.ofChange riteMendsSpec)

/-- ITS FALSE NEIGHBOUR: 'it returns false'. Refute it at one input. -/
def riteMendsWrong : ChangeSpec := { name := "riteMends", fn := fun _ => fun
  | [d1, d2, d3, d4] => { results := [.lit (.bool false)], args := [d1, d2, d3, d4] }
  | _ => none }
def RiteMendsWrongFalsely : Prop := riteMendsRow.holds Tryz.pinned (OpenSpec.ofChange riteMendsWrong)

/-- 'aloeswoodlaw06.RiteTurned': WHATEVER THE INPUT: true; the input reads as it did. -/
def riteTurnedSpec : ChangeSpec := { name := "riteTurned", fn := fun _ => fun
  | [d] => { results := [.lit (.bool true)], args := [d] }
  | _ => none }
def riteTurnedRow : OpenClaim := { program := "ytkcmcjohoockcaagreat", sum := "087e0e49af66a0c6c0ccacbde138a2f5612a300658d1c88a5b9c35c804ccad63", func := "aloeswood/aloeswoodlaw06.RiteTurned", spec := "riteTurned", unfollowed := true, recurses := true, plainKeys := false, apart := false }
def RiteTurnedSaid : Prop := riteTurnedRow.holds Tryz.pinned (OpenSpec.ofChange riteTurnedSpec)

/-- ITS FALSE NEIGHBOUR: 'it returns false'. Refute it at one input. -/
def riteTurnedWrong : ChangeSpec := { name := "riteTurned", fn := fun _ => fun
  | [d] => { results := [.lit (.bool false)], args := [d] }
  | _ => none }
def RiteTurnedWrongFalsely : Prop := riteTurnedRow.holds Tryz.pinned (OpenSpec.ofChange riteTurnedWrong)

/-- 'aloeswoodlaw06.RiteShortest': WHATEVER THE INPUT: true; the input reads as it did. -/
def riteShortestSpec : ChangeSpec := { name := "riteShortest", fn := fun _ => fun
  | [d] => { results := [.lit (.bool true)], args := [d] }
  | _ => none }
def riteShortestRow : OpenClaim := { program := "ytkcmcjohoockcaagreat", sum := "087e0e49af66a0c6c0ccacbde138a2f5612a300658d1c88a5b9c35c804ccad63", func := "aloeswood/aloeswoodlaw06.RiteShortest", spec := "riteShortest", unfollowed := true, recurses := true, plainKeys := false, apart := false }
def RiteShortestSaid : Prop := riteShortestRow.holds Tryz.pinned (OpenSpec.ofChange riteShortestSpec)

/-- ITS FALSE NEIGHBOUR: 'it returns false'. Refute it at one input. -/
def riteShortestWrong : ChangeSpec := { name := "riteShortest", fn := fun _ => fun
  | [d] => { results := [.lit (.bool false)], args := [d] }
  | _ => none }
def RiteShortestWrongFalsely : Prop := riteShortestRow.holds Tryz.pinned (OpenSpec.ofChange riteShortestWrong)

/-- 'aloeswoodlaw06.RiteFirm': WHATEVER THE INPUT: true; the input reads as it did. -/
def riteFirmSpec : ChangeSpec := { name := "riteFirm", fn := fun _ => fun
  | [d] => { results := [.lit (.bool true)], args := [d] }
  | _ => none }
def riteFirmRow : OpenClaim := { program := "ytkcmcjohoockcaagreat", sum := "087e0e49af66a0c6c0ccacbde138a2f5612a300658d1c88a5b9c35c804ccad63", func := "aloeswood/aloeswoodlaw06.RiteFirm", spec := "riteFirm", unfollowed := true, recurses := true, plainKeys := false, apart := false }
def RiteFirmSaid : Prop := riteFirmRow.holds Tryz.pinned (OpenSpec.ofChange riteFirmSpec)

/-- ITS FALSE NEIGHBOUR: 'it returns false'. Refute it at one input. -/
def riteFirmWrong : ChangeSpec := { name := "riteFirm", fn := fun _ => fun
  | [d] => { results := [.lit (.bool false)], args := [d] }
  | _ => none }
def RiteFirmWrongFalsely : Prop := riteFirmRow.holds Tryz.pinned (OpenSpec.ofChange riteFirmWrong)

/- THE SECOND FORM. 'bulk': how many values and letters a reading holds, each counted each time it is reached (what is shared counts as often as it is met; a slice's spare places count too). A statement '..UptoSaid' is the law's where the arguments, and the package variables that the reading takes, are together of bulk at most 1048576: NARROWER than '..Said'. Prove '..Said' where nothing that the law and all that it calls make is longer than what came in: it says more and counts as full. Else prove '..UptoSaid'. A law counts once. -/
mutual
def uptoBulk {H : Type} : DataW H → Nat
  | .lit (.string bytes) => bytes.length + 1
  | .lit _ => 1
  | .nil => 1
  | .ptr d => uptoBulk d + 1
  | .slice elems spare => uptoBulkAll elems + uptoBulkAll spare + 1
  | .agg parts => uptoBulkAll parts + 1
  | .iface _ d => uptoBulk d + 1
  | .map entries => uptoBulkEntries entries + 1
  | .held _ => 1
def uptoBulkAll {H : Type} : List (DataW H) → Nat
  | [] => 0
  | d :: r => uptoBulk d + uptoBulkAll r
def uptoBulkEntries {H : Type} : List (Lit × DataW H) → Nat
  | [] => 0
  | x :: r => uptoBulkEntry x + uptoBulkEntries r
def uptoBulkEntry {H : Type} : Lit × DataW H → Nat
  | (.string bytes, d) => bytes.length + uptoBulk d + 1
  | (_, d) => uptoBulk d + 1
 end
def uptoSmall : (H : Type) → List (DataW H) → Bool := fun _ ds => decide (uptoBulkAll ds ≤ 1048576)
def OpenSpec.upto (s : _root_.Go.ChangeSpec) : _root_.Go.OpenSpec := { _root_.Go.OpenSpec.ofChange s with cond := some uptoSmall }

/-- 'aloeswoodlaw06.RiteRuns', WHERE WHAT IT READS IS OF BULK AT MOST 1048576: true; the input reads as it did. -/
def riteRunsUptoRow : OpenClaim := { program := "ytkcmcjohoockcaagreat", sum := "087e0e49af66a0c6c0ccacbde138a2f5612a300658d1c88a5b9c35c804ccad63", func := "aloeswood/aloeswoodlaw06.RiteRuns", spec := "riteRuns", unfollowed := true, recurses := true, plainKeys := false, apart := false, narrowed := true }
def RiteRunsUptoSaid : Prop := riteRunsUptoRow.holds Tryz.pinned (OpenSpec.upto riteRunsSpec)

/-- 'aloeswoodlaw06.RiteLapses', WHERE WHAT IT READS IS OF BULK AT MOST 1048576: true; the input reads as it did. -/
def riteLapsesUptoRow : OpenClaim := { program := "ytkcmcjohoockcaagreat", sum := "087e0e49af66a0c6c0ccacbde138a2f5612a300658d1c88a5b9c35c804ccad63", func := "aloeswood/aloeswoodlaw06.RiteLapses", spec := "riteLapses", unfollowed := true, recurses := true, plainKeys := false, apart := false, narrowed := true }
def RiteLapsesUptoSaid : Prop := riteLapsesUptoRow.holds Tryz.pinned (OpenSpec.upto riteLapsesSpec)

/-- 'aloeswoodlaw06.RiteMends', WHERE WHAT IT READS IS OF BULK AT MOST 1048576: true; the input reads as it did. -/
def riteMendsUptoRow : OpenClaim := { program := "ytkcmcjohoockcaagreat", sum := "087e0e49af66a0c6c0ccacbde138a2f5612a300658d1c88a5b9c35c804ccad63", func := "aloeswood/aloeswoodlaw06.RiteMends", spec := "riteMends", unfollowed := true, recurses := true, plainKeys := false, apart := false, narrowed := true }
def RiteMendsUptoSaid : Prop := riteMendsUptoRow.holds Tryz.pinned (OpenSpec.upto riteMendsSpec)

/-- 'aloeswoodlaw06.RiteTurned', WHERE WHAT IT READS IS OF BULK AT MOST 1048576: true; the input reads as it did. -/
def riteTurnedUptoRow : OpenClaim := { program := "ytkcmcjohoockcaagreat", sum := "087e0e49af66a0c6c0ccacbde138a2f5612a300658d1c88a5b9c35c804ccad63", func := "aloeswood/aloeswoodlaw06.RiteTurned", spec := "riteTurned", unfollowed := true, recurses := true, plainKeys := false, apart := false, narrowed := true }
def RiteTurnedUptoSaid : Prop := riteTurnedUptoRow.holds Tryz.pinned (OpenSpec.upto riteTurnedSpec)

/-- 'aloeswoodlaw06.RiteShortest', WHERE WHAT IT READS IS OF BULK AT MOST 1048576: true; the input reads as it did. -/
def riteShortestUptoRow : OpenClaim := { program := "ytkcmcjohoockcaagreat", sum := "087e0e49af66a0c6c0ccacbde138a2f5612a300658d1c88a5b9c35c804ccad63", func := "aloeswood/aloeswoodlaw06.RiteShortest", spec := "riteShortest", unfollowed := true, recurses := true, plainKeys := false, apart := false, narrowed := true }
def RiteShortestUptoSaid : Prop := riteShortestUptoRow.holds Tryz.pinned (OpenSpec.upto riteShortestSpec)

/-- 'aloeswoodlaw06.RiteFirm', WHERE WHAT IT READS IS OF BULK AT MOST 1048576: true; the input reads as it did. -/
def riteFirmUptoRow : OpenClaim := { program := "ytkcmcjohoockcaagreat", sum := "087e0e49af66a0c6c0ccacbde138a2f5612a300658d1c88a5b9c35c804ccad63", func := "aloeswood/aloeswoodlaw06.RiteFirm", spec := "riteFirm", unfollowed := true, recurses := true, plainKeys := false, apart := false, narrowed := true }
def RiteFirmUptoSaid : Prop := riteFirmUptoRow.holds Tryz.pinned (OpenSpec.upto riteFirmSpec)

end Rows
end Go.Proofs.YtkcmcjohoockcaaGreat

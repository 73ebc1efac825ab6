/- Readings of rites in blocks. -/
import Derived.Test.YtkcmcjohoockcaaRf
namespace Go.Gh
open Go.Proofs
set_option linter.unusedSimpArgs false
set_option linter.unusedVariables false
set_option linter.unnecessarySimpa false
set_option maxRecDepth 100000
set_option maxHeartbeats 4000000
/-- Headers in the innermost frame, read. -/
theorem rdO {F : Fr} {H : Heap} {n2 n3 n7 : Nat} {r : Rite} (h2 : r.people.map Person.row ≠ [] → F.get n2 = some (.arr 2 (r.people.map Person.row) 0 false)) (h3 : r.things.map Thing.row ≠ [] → F.get n3 = some (.arr 5 (r.things.map Thing.row) 0 false))
    (h7 : r.acts.map RAct.row ≠ [] → F.get n7 = some (.arr 9 (r.acts.map RAct.row) 0 false)) : rdG (F :: H) (ownG (H.length, n2) (H.length, n3) (H.length, n7) r) (.agg r.row) := by
  have g : ∀ k, Heap.get (F :: H) (H.length, k) = F.get k := fun k => by simp
  rw [rowR]
  unfold ownG
  rw [rdG_agg]
  simp only [rdL_cons, rdL_nil, rdC_pure, and_true, true_and]
  exact ⟨rdC_apS fun h => (g _).trans (h2 h), rdC_apS fun h => (g _).trans (h3 h), rdC_apS fun h => (g _).trans (h7 h)⟩
theorem apS_ne {nm : Nm} {es : Nat} {rows : List (List PV)} (h : rows ≠ []) : apS nm es rows = .hdr nm es rows.length 0 rows.length := if_neg h
end Go.Gh

/- Readings of rites in blocks. -/
import Derived.Test.YtkcmcjohoockcaaRf
namespace Go.Gh
open Go.Proofs
set_option linter.unusedSimpArgs false
set_option linter.unusedVariables false
set_option linter.unnecessarySimpa false
set_option maxRecDepth 100000
set_option maxHeartbeats 4000000

theorem kp19 : kp 19 = 771854356 := by decide
theorem kt19 : kt 19 = 1392611348 := by decide
theorem kl19 : kl 19 = 1610715156 := by decide
theorem ka19 : ka 19 = 253972 := by decide

/-- Headers in the innermost frame, read. -/
theorem rdO {F : Fr} {H : Heap} {n2 n3 n7 : Nat} {r : Rite} (h2 : r.people.map Person.row ≠ [] → F.get n2 = some (.arr 2 (r.people.map Person.row) 0 false)) (h3 : r.things.map Thing.row ≠ [] → F.get n3 = some (.arr 5 (r.things.map Thing.row) 0 false))
    (h7 : r.acts.map RAct.row ≠ [] → F.get n7 = some (.arr 9 (r.acts.map RAct.row) 0 false)) : rdG (F :: H) (ownG (H.length, n2) (H.length, n3) (H.length, n7) r) (.agg r.row) := by
  have g : ∀ k, Heap.get (F :: H) (H.length, k) = F.get k := fun k => by simp
  rw [rowR]
  unfold ownG
  rw [rdG_agg]
  simp only [rdL_cons, rdL_nil, rdC_pure, and_true, true_and]
  exact ⟨rdC_apS fun h => (g _).trans (h2 h), rdC_apS fun h => (g _).trans (h3 h), rdC_apS fun h => (g _).trans (h7 h)⟩
theorem rdV {F : Fr} {H : Heap} {n2 n3 n5 n7 v v7 : Nat} {r : Rite} (h2 : F.get n2 = some (.arr 2 (r.people.map Person.row) 0 false)) (h3 : F.get n3 = some (.arr 5 (r.things.map Thing.row) v false)) (hv : v ≤ r.things.length) (hv7 : v7 ≤ r.acts.length)
    (h5 : r.lapses.map irow ≠ [] → F.get n5 = some (.arr 1 (r.lapses.map irow) 0 false)) (h7 : r.acts.map RAct.row ≠ [] → F.get n7 = some (.arr 9 (r.acts.map RAct.row) v7 false)) (hs : r.seen = []) : rdG (F :: H) (riteV (H.length, n2) (H.length, n3) (H.length, n5) (H.length, n7) r) (.agg r.row) := by
  have g : ∀ k, Heap.get (F :: H) (H.length, k) = F.get k := fun k => by simp
  rw [rowR]
  unfold riteV
  rw [rdG_agg]
  simp only [rdL_cons, rdL_nil, rdC_pure, and_true, true_and]
  refine ⟨⟨_, 0, false, (g _).trans h2, Nat.zero_le _, by simp, rfl, rfl, rfl⟩, ⟨_, v, false, (g _).trans h3, hv, by simp, rfl, rfl, rfl⟩, by rw [hs]; rfl, rdC_apS fun h => (g _).trans (h5 h), ?_⟩
  unfold apS
  by_cases h : r.acts.map RAct.row = []
  · rw [if_pos h, h]; rfl
  · rw [if_neg h]
    exact ⟨_, v7, false, (g _).trans (h7 h), by simpa using hv7, rfl, rfl, by simp, rfl⟩

theorem apS_ne {nm : Nm} {es : Nat} {rows : List (List PV)} (h : rows ≠ []) : apS nm es rows = .hdr nm es rows.length 0 rows.length := if_neg h
end Go.Gh

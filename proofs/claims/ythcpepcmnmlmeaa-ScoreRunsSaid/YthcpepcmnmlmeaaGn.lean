/- What the claims of the table laws share. -/
import Derived.Test.YthcpepcmnmlmeaaGm
import Derived.Test.YthcpepcmnmlmeaaSh
namespace Go.Proofs.Ythcpepcmnmlmeaa
open Go.Gh Go.RowKit
set_option maxRecDepth 100000
set_option linter.unusedSimpArgs false
theorem cells50 : Try.prog.cellsOf 50 = 1 := by kernel_rfl
theorem cells64 : Try.prog.cellsOf 64 = 4 := by kernel_rfl
theorem cells66 : Try.prog.cellsOf 66 = 4 := by kernel_rfl
theorem shp_lists {n : Nat} {ps : List PV} (h : Shp Try.prog (n + 3) 50 ps) : ∃ l : List (List Int), l.length ≤ maxLen ∧ ps = [.slice (l.map Gh.arow)] := by
  unfold Shp at h
  rw [Try.underlying50] at h
  obtain ⟨rows, h1, h2, rfl⟩ := h
  obtain ⟨l, rfl⟩ := rows_of Gh.arow (fun r hr => by
    obtain ⟨a, _, e⟩ := shp_ints (h2 r hr).2
    exact ⟨a, e⟩)
  exact ⟨l, by simpa using h1, rfl⟩
theorem arg_table {n : Nat} {p : PV} (h : ArgP Try.prog (n + 4) 64 p) : ∃ t : Gh.Tab, t.answers.length ≤ maxLen ∧ p = .agg t.row := by
  unfold ArgP at h
  rw [Try.underlying64] at h
  obtain ⟨ps, rfl, h⟩ := h
  unfold Shp at h
  rw [Try.underlying64] at h
  simp only [cells64] at h
  obtain ⟨hl, hf⟩ := h
  match ps, hl with
  | [a, b, c, d], _ =>
    simp [cells3, cells50] at hf
    obtain ⟨h1, h2, h3, h4⟩ := hf
    obtain ⟨m1, e1⟩ := shp_int h1
    obtain ⟨m2, e2⟩ := shp_int h2
    obtain ⟨m3, e3⟩ := shp_int h3
    obtain ⟨l, hn, e4⟩ := shp_lists h4
    simp at e1 e2 e3 e4
    subst e1 e2 e3 e4
    exact ⟨⟨m1, m2, m3, l⟩, hn, rfl⟩
theorem shp_deed {n : Nat} {ps : List PV} (h : Shp Try.prog (n + 2) 66 ps) : ∃ d : Gh.Deed, ps = d.row := by
  unfold Shp at h
  rw [Try.underlying66] at h
  simp only [cells66] at h
  obtain ⟨hl, hf⟩ := h
  match ps, hl with
  | [a, b, c, d], _ =>
    simp [cells3] at hf
    obtain ⟨h1, h2, h3, h4⟩ := hf
    obtain ⟨m1, e1⟩ := shp_int h1
    obtain ⟨m2, e2⟩ := shp_int h2
    obtain ⟨m3, e3⟩ := shp_int h3
    obtain ⟨m4, e4⟩ := shp_int h4
    simp at e1 e2 e3 e4
    subst e1 e2 e3 e4
    exact ⟨⟨m1, m2, m3, m4⟩, rfl⟩
theorem arg_deeds {n : Nat} {p : PV} (h : ArgP Try.prog (n + 3) 68 p) : ∃ l : List Gh.Deed, l.length ≤ maxLen ∧ p = .slice (l.map Gh.Deed.row) := by
  unfold ArgP at h
  rw [Try.underlying68] at h
  simp only at h
  unfold Shp at h
  rw [Try.underlying68] at h
  obtain ⟨rows, h1, h2, e⟩ := h
  obtain ⟨l, rfl⟩ := rows_of Gh.Deed.row (fun r hr => shp_deed (h2 r hr).2)
  simp at e
  exact ⟨l, by simpa using h1, by simpa using e⟩
end Go.Proofs.Ythcpepcmnmlmeaa

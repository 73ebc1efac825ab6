/- Shapes of tables as arguments. -/
import Derived.Test.YtgmohiojddnfgaaGreatDoorGc4l
namespace Go.Proofs.YtgmohiojddnfgaaGreatDoor
open Go.Gh Go.RowKit Go.ChangeShapes Go.WideShapes
set_option maxRecDepth 100000
theorem cells42 : Tryz.prog.cellsOf 42 = 1 := by kernel_rfl
theorem cells44 : Tryz.prog.cellsOf 44 = 4 := by kernel_rfl
theorem shp_row {n : Nat} {ps : List PV} (h : Shp Tryz.prog (n + 2) 26 ps) : ∃ l : List Int, ps = Gh.arow l := by
  have h33 : Tryz.prog.underlying 26 = some (.slice 3) := Tryz.underlying26
  have h3 : Tryz.prog.underlying 3 = some (.int .i64) := Tryz.underlying3
  simp only [Shp, h33, h3] at h
  obtain ⟨rows, h1, h2, h4⟩ := h
  have key : ∀ rows : List (List PV), (∀ r ∈ rows, ∃ m, (Lit.int .i64 m).wf = true ∧ r = [.int .i64 m]) → ∃ l : List Int, rows = l.map irow := by
    intro rows
    induction rows with
    | nil => intro _; exact ⟨[], rfl⟩
    | cons r rs ih =>
      intro h
      obtain ⟨m, _, rfl⟩ := h _ (List.mem_cons_self ..)
      obtain ⟨l, rfl⟩ := ih (fun r hr => h r (List.mem_cons_of_mem _ hr))
      exact ⟨m :: l, rfl⟩
  obtain ⟨l, rfl⟩ := key rows (fun r hr => (h2 r hr).2)
  exact ⟨l, h4⟩
theorem shp_lists {n : Nat} {ps : List PV} (h : Shp Tryz.prog (n + 3) 42 ps) : ∃ l : List (List Int), l.length ≤ maxLen ∧ ps = [.slice (l.map Gh.arow)] := by
  unfold Shp at h
  rw [Tryz.underlying42] at h
  obtain ⟨rows, h1, h2, rfl⟩ := h
  obtain ⟨l, rfl⟩ := rows_of Gh.arow (fun r hr => shp_row (h2 r hr).2)
  exact ⟨l, by simpa using h1, rfl⟩
theorem arg_table {n : Nat} {p : PV} (h : ArgP Tryz.prog (n + 4) 44 p) : ∃ t : Gh.Tab, t.answers.length ≤ maxLen ∧ p = .agg t.row := by
  unfold ArgP at h
  rw [Tryz.underlying44] at h
  obtain ⟨ps, rfl, h⟩ := h
  unfold Shp at h
  rw [Tryz.underlying44] at h
  simp only [cells44] at h
  obtain ⟨hl, hf⟩ := h
  match ps, hl with
  | [a, b, c, d], _ =>
    simp [cells3, cells42] at hf
    obtain ⟨h1, h2, h3, h4⟩ := hf
    obtain ⟨m1, e1⟩ := shp_int h1
    obtain ⟨m2, e2⟩ := shp_int h2
    obtain ⟨m3, e3⟩ := shp_int h3
    obtain ⟨l, hn, e4⟩ := shp_lists h4
    simp at e1 e2 e3 e4
    subst e1 e2 e3 e4
    exact ⟨⟨m1, m2, m3, l⟩, hn, rfl⟩
end Go.Proofs.YtgmohiojddnfgaaGreatDoor

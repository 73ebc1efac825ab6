/- What the rite seat's claims share. -/
import Derived.Test.YtkcmcjohoockcaaGreatGc3k
import Derived.Test.YtkcmcjohoockcaaGreatGc3e
import Derived.Test.YtkcmcjohoockcaaGreatRows
namespace Go.Proofs.YtkcmcjohoockcaaGreat
open Go.Gh Go.RowKit
set_option maxRecDepth 100000
set_option linter.unusedSimpArgs false
theorem own : ownKnob Tryz.prog.godebug = none := by kernel_rfl
theorem laidOut : laidOutB Tryz.prog = true := by kernel_rfl
theorem cells3 : Tryz.prog.cellsOf 3 = 1 := by kernel_rfl
theorem cells4 : Tryz.prog.cellsOf 4 = 1 := by kernel_rfl
theorem cells22 : Tryz.prog.cellsOf 22 = 1 := by kernel_rfl
theorem cells23 : Tryz.prog.cellsOf 23 = 1 := by kernel_rfl
theorem cells24 : Tryz.prog.cellsOf 24 = 1 := by kernel_rfl
theorem cells25 : Tryz.prog.cellsOf 25 = 1 := by kernel_rfl
theorem cells27 : Tryz.prog.cellsOf 27 = 7 := by kernel_rfl
theorem cells29 : Tryz.prog.cellsOf 29 = 9 := by kernel_rfl
theorem cells86 : Tryz.prog.cellsOf 86 = 5 := by kernel_rfl
theorem cells105 : Tryz.prog.cellsOf 105 = 2 := by kernel_rfl
theorem argsP_cons {P : Program} {n : Nat} {t : TypeId} {ts : List TypeId} {pvs : List PV} (h : ArgsP P n (t :: ts) pvs) : ∃ p ps, pvs = p :: ps ∧ ArgP P n t p ∧ ArgsP P n ts ps := by
  cases pvs with
  | nil => exact h.elim
  | cons p ps => exact ⟨p, ps, rfl, h⟩
theorem argsP_nil {P : Program} {n : Nat} {pvs : List PV} (h : ArgsP P n [] pvs) : pvs = [] := by
  cases pvs with
  | nil => rfl
  | cons p ps => exact h.elim
theorem shp_int {n : Nat} {ps : List PV} (h : Shp Tryz.prog (n + 1) 3 ps) : ∃ m, ps = [.int .i64 m] := by
  simp only [Shp, Tryz.underlying3] at h
  obtain ⟨m, _, rfl⟩ := h
  exact ⟨m, rfl⟩
theorem shp_bool {n : Nat} {ps : List PV} (h : Shp Tryz.prog (n + 1) 4 ps) : ∃ m, ps = [.bool m] := by
  simp only [Shp, Tryz.underlying4] at h
  obtain ⟨m, rfl⟩ := h
  exact ⟨m, rfl⟩
theorem shp_person {n : Nat} {ps : List PV} (h : Shp Tryz.prog (n + 2) 105 ps) : ∃ x : Gh.Person, ps = x.row := by
  unfold Shp at h
  rw [Tryz.underlying105] at h
  simp only [cells105] at h
  obtain ⟨hl, hf⟩ := h
  match ps, hl with
  | [a, b], _ =>
    simp [cells3, cells4] at hf
    obtain ⟨h1, h2⟩ := hf
    obtain ⟨m1, e1⟩ := shp_int h1
    obtain ⟨m2, e2⟩ := shp_int h2
    simp at e1 e2
    subst e1 e2
    exact ⟨⟨m1, m2⟩, rfl⟩
theorem shp_thing {n : Nat} {ps : List PV} (h : Shp Tryz.prog (n + 2) 86 ps) : ∃ x : Gh.Thing, ps = x.row := by
  unfold Shp at h
  rw [Tryz.underlying86] at h
  simp only [cells86] at h
  obtain ⟨hl, hf⟩ := h
  match ps, hl with
  | [a, b, c, d, e], _ =>
    simp [cells3, cells4] at hf
    obtain ⟨h1, h2, h3, h4, h5⟩ := hf
    obtain ⟨m1, e1⟩ := shp_int h1
    obtain ⟨m2, e2⟩ := shp_int h2
    obtain ⟨m3, e3⟩ := shp_int h3
    obtain ⟨m4, e4⟩ := shp_int h4
    obtain ⟨m5, e5⟩ := shp_bool h5
    simp at e1 e2 e3 e4 e5
    subst e1 e2 e3 e4 e5
    exact ⟨⟨m1, m2, m3, m4, m5⟩, rfl⟩
theorem shp_act {n : Nat} {ps : List PV} (h : Shp Tryz.prog (n + 2) 29 ps) : ∃ x : Gh.RAct, ps = x.row := by
  unfold Shp at h
  rw [Tryz.underlying29] at h
  simp only [cells29] at h
  obtain ⟨hl, hf⟩ := h
  match ps, hl with
  | [a, b, c, d, e, f, g, h, i], _ =>
    simp [cells3, cells4] at hf
    obtain ⟨h1, h2, h3, h4, h5, h6, h7, h8, h9⟩ := hf
    obtain ⟨m1, e1⟩ := shp_int h1
    obtain ⟨m2, e2⟩ := shp_int h2
    obtain ⟨m3, e3⟩ := shp_int h3
    obtain ⟨m4, e4⟩ := shp_int h4
    obtain ⟨m5, e5⟩ := shp_int h5
    obtain ⟨m6, e6⟩ := shp_int h6
    obtain ⟨m7, e7⟩ := shp_int h7
    obtain ⟨m8, e8⟩ := shp_int h8
    obtain ⟨m9, e9⟩ := shp_int h9
    simp at e1 e2 e3 e4 e5 e6 e7 e8 e9
    subst e1 e2 e3 e4 e5 e6 e7 e8 e9
    exact ⟨⟨m1, m2, m3, m4, m5, m6, m7, m8, m9⟩, rfl⟩
theorem rows_of {α : Type} (f : α → List PV) : ∀ {rows : List (List PV)}, (∀ r ∈ rows, ∃ x : α, r = f x) → ∃ l : List α, rows = l.map f
  | [], _ => ⟨[], rfl⟩
  | r :: rs, h => by
    obtain ⟨x, rfl⟩ := h r (List.mem_cons_self ..)
    obtain ⟨l, rfl⟩ := rows_of f (rows := rs) (fun r hr => h r (List.mem_cons_of_mem _ hr))
    exact ⟨x :: l, rfl⟩
theorem shp_people {n : Nat} {ps : List PV} (h : Shp Tryz.prog (n + 3) 22 ps) : ∃ l : List Gh.Person, l.length ≤ maxLen ∧ ps = [.slice (l.map Gh.Person.row)] := by
  unfold Shp at h
  rw [Tryz.underlying22] at h
  obtain ⟨rows, h1, h2, rfl⟩ := h
  obtain ⟨l, rfl⟩ := rows_of Gh.Person.row (fun r hr => shp_person (h2 r hr).2)
  exact ⟨l, by simpa using h1, rfl⟩
theorem shp_things {n : Nat} {ps : List PV} (h : Shp Tryz.prog (n + 3) 23 ps) : ∃ l : List Gh.Thing, l.length ≤ maxLen ∧ ps = [.slice (l.map Gh.Thing.row)] := by
  unfold Shp at h
  rw [Tryz.underlying23] at h
  obtain ⟨rows, h1, h2, rfl⟩ := h
  obtain ⟨l, rfl⟩ := rows_of Gh.Thing.row (fun r hr => shp_thing (h2 r hr).2)
  exact ⟨l, by simpa using h1, rfl⟩
theorem shp_ints {n : Nat} {ps : List PV} (h : Shp Tryz.prog (n + 2) 24 ps) : ∃ l : List Int, l.length ≤ maxLen ∧ ps = [.slice (l.map irow)] := by
  unfold Shp at h
  rw [Tryz.underlying24] at h
  obtain ⟨rows, h1, h2, rfl⟩ := h
  obtain ⟨l, rfl⟩ := rows_of irow (fun r hr => shp_int (h2 r hr).2)
  exact ⟨l, by simpa using h1, rfl⟩
theorem shp_acts {n : Nat} {ps : List PV} (h : Shp Tryz.prog (n + 3) 25 ps) : ∃ l : List Gh.RAct, l.length ≤ maxLen ∧ ps = [.slice (l.map Gh.RAct.row)] := by
  unfold Shp at h
  rw [Tryz.underlying25] at h
  obtain ⟨rows, h1, h2, rfl⟩ := h
  obtain ⟨l, rfl⟩ := rows_of Gh.RAct.row (fun r hr => shp_act (h2 r hr).2)
  exact ⟨l, by simpa using h1, rfl⟩
theorem arg_rite {n : Nat} {p : PV} (h : ArgP Tryz.prog (n + 4) 27 p) : ∃ r : Gh.Rite, p = .agg r.row := by
  unfold ArgP at h
  rw [Tryz.underlying27] at h
  obtain ⟨ps, rfl, h⟩ := h
  unfold Shp at h
  rw [Tryz.underlying27] at h
  simp only [cells27] at h
  obtain ⟨hl, hf⟩ := h
  match ps, hl with
  | [a, b, c, d, e, f, g], _ =>
    simp [cells3, cells22, cells23, cells24, cells25] at hf
    obtain ⟨h1, h2, h3, h4, h5, h6, h7⟩ := hf
    obtain ⟨m1, e1⟩ := shp_int h1
    obtain ⟨m2, e2⟩ := shp_int h2
    obtain ⟨m3, _, e3⟩ := shp_people h3
    obtain ⟨m4, _, e4⟩ := shp_things h4
    obtain ⟨m5, _, e5⟩ := shp_ints h5
    obtain ⟨m6, _, e6⟩ := shp_ints h6
    obtain ⟨m7, _, e7⟩ := shp_acts h7
    simp at e1 e2 e3 e4 e5 e6 e7
    subst e1 e2 e3 e4 e5 e6 e7
    exact ⟨⟨m1, m2, m3, m4, m5, m6, m7⟩, rfl⟩
theorem arg_act {n : Nat} {p : PV} (h : ArgP Tryz.prog (n + 2) 29 p) : ∃ a : Gh.RAct, p = .agg a.row := by
  unfold ArgP at h
  rw [Tryz.underlying29] at h
  obtain ⟨ps, rfl, h⟩ := h
  obtain ⟨k, rfl⟩ := shp_act h
  exact ⟨k, rfl⟩
theorem arg_int {n : Nat} {p : PV} (h : ArgP Tryz.prog (n + 1) 3 p) : ∃ m, p = .int .i64 m := by
  unfold ArgP at h
  rw [Tryz.underlying3] at h
  simp only at h
  obtain ⟨m, e⟩ := shp_int h
  simp at e
  exact ⟨m, e⟩
theorem arg_ints {n : Nat} {p : PV} (h : ArgP Tryz.prog (n + 2) 24 p) : ∃ l : List Int, l.length ≤ maxLen ∧ p = .slice (l.map irow) := by
  unfold ArgP at h
  rw [Tryz.underlying24] at h
  simp only at h
  obtain ⟨l, hl, e⟩ := shp_ints h
  simp at e
  exact ⟨l, hl, e⟩
end Go.Proofs.YtkcmcjohoockcaaGreat

/- What the hearth seat's claims share. -/
import Derived.Test.YtldhcphijclmdaaGl
import Derived.Test.YtldhcphijclmdaaFa
import Derived.Test.YtldhcphijclmdaaRows
namespace Go.Proofs.Ytldhcphijclmdaa
open Go.Gh Go.RowKit
set_option maxRecDepth 100000

theorem own : ownKnob Try.prog.godebug = none := by kernel_rfl
theorem laidOut : laidOutB Try.prog = true := by kernel_rfl

theorem shp_ints {n : Nat} {p : PV} (h : ArgP Try.prog (n + 2) 33 p) : ∃ l : List Int, l.length ≤ maxLen ∧ p = .slice (l.map irow) := by
  have h33 : Try.prog.underlying 33 = some (.slice 3) := Try.underlying33
  have h3 : Try.prog.underlying 3 = some (.int .i64) := Try.underlying3
  unfold ArgP at h
  rw [h33] at h
  simp only [Shp, h33, h3] at h
  obtain ⟨rows, h1, h2, h4⟩ := h
  have key : ∀ rows : List (List PV), (∀ r ∈ rows, ∃ m, (Lit.int .i64 m).wf = true ∧ r = [.int .i64 m]) → ∃ l : List Int, rows = l.map irow := by
    intro rows
    induction rows with
    | nil => intro _; exact ⟨[], rfl⟩
    | cons r rs ih =>
      intro h
      obtain ⟨m, _, rfl⟩ := h _ (List.mem_cons_self ..)
      obtain ⟨l, rfl⟩ := ih (fun r hr => h r (List.mem_cons_of_mem _ hr))
      exact ⟨m :: l, rfl⟩
  obtain ⟨l, rfl⟩ := key rows (fun r hr => (h2 r hr).2)
  simp only [List.cons.injEq, and_true] at h4
  exact ⟨l, by simpa using h1, h4⟩

theorem argsP_cons {P : Program} {n : Nat} {t : TypeId} {ts : List TypeId} {pvs : List PV} (h : ArgsP P n (t :: ts) pvs) : ∃ p ps, pvs = p :: ps ∧ ArgP P n t p ∧ ArgsP P n ts ps := by
  cases pvs with
  | nil => exact h.elim
  | cons p ps => exact ⟨p, ps, rfl, h⟩
theorem argsP_nil {P : Program} {n : Nat} {pvs : List PV} (h : ArgsP P n [] pvs) : pvs = [] := by
  cases pvs with
  | nil => rfl
  | cons p ps => exact h.elim

theorem cells3 : Try.prog.cellsOf 3 = 1 := by kernel_rfl
theorem cells4 : Try.prog.cellsOf 4 = 1 := by kernel_rfl
theorem cells22 : Try.prog.cellsOf 22 = 1 := by kernel_rfl
theorem cells23 : Try.prog.cellsOf 23 = 1 := by kernel_rfl
theorem cells25 : Try.prog.cellsOf 25 = 2 := by kernel_rfl
theorem cells27 : Try.prog.cellsOf 27 = 2 := by kernel_rfl
theorem cells29 : Try.prog.cellsOf 29 = 8 := by kernel_rfl
theorem cells32 : Try.prog.cellsOf 32 = 7 := by kernel_rfl
theorem cells72 : Try.prog.cellsOf 72 = 3 := by kernel_rfl
theorem cells99 : Try.prog.cellsOf 99 = 2 := by kernel_rfl

theorem shp_int {n : Nat} {ps : List PV} (h : Shp Try.prog (n + 1) 3 ps) : ∃ m, ps = [.int .i64 m] := by
  simp only [Shp, Try.underlying3] at h
  obtain ⟨m, _, rfl⟩ := h
  exact ⟨m, rfl⟩
theorem shp_bool {n : Nat} {ps : List PV} (h : Shp Try.prog (n + 1) 4 ps) : ∃ m, ps = [.bool m] := by
  simp only [Shp, Try.underlying4] at h
  obtain ⟨m, rfl⟩ := h
  exact ⟨m, rfl⟩
theorem shp_span {n : Nat} {ps : List PV} (h : Shp Try.prog (n + 2) 27 ps) : ∃ x : Span, ps = x.row := by
  unfold Shp at h
  rw [Try.underlying27] at h
  simp only [cells27] at h
  obtain ⟨hl, hf⟩ := h
  match ps, hl with
  | [a, b], _ =>
    simp [cells3] at hf
    obtain ⟨h1, h2⟩ := hf
    obtain ⟨m1, e1⟩ := shp_int h1
    obtain ⟨m2, e2⟩ := shp_int h2
    simp at e1 e2
    subst e1 e2
    exact ⟨⟨m1, m2⟩, rfl⟩
theorem shp_touch {n : Nat} {ps : List PV} (h : Shp Try.prog (n + 2) 99 ps) : ∃ x : Gh.Touch, ps = x.row := by
  unfold Shp at h
  rw [Try.underlying99] at h
  simp only [cells99] at h
  obtain ⟨hl, hf⟩ := h
  match ps, hl with
  | [a, b], _ =>
    simp [cells3] at hf
    obtain ⟨h1, h2⟩ := hf
    obtain ⟨m1, e1⟩ := shp_int h1
    obtain ⟨m2, e2⟩ := shp_int h2
    simp at e1 e2
    subst e1 e2
    exact ⟨⟨m1, m2⟩, rfl⟩
theorem shp_pour {n : Nat} {ps : List PV} (h : Shp Try.prog (n + 2) 72 ps) : ∃ x : Pour, ps = x.row := by
  unfold Shp at h
  rw [Try.underlying72] at h
  simp only [cells72] at h
  obtain ⟨hl, hf⟩ := h
  match ps, hl with
  | [a, b, d], _ =>
    simp [cells3] at hf
    obtain ⟨h1, h2, h3⟩ := hf
    obtain ⟨m1, e1⟩ := shp_int h1
    obtain ⟨m2, e2⟩ := shp_int h2
    obtain ⟨m3, e3⟩ := shp_int h3
    simp at e1 e2 e3
    subst e1 e2 e3
    exact ⟨⟨m1, m2, m3⟩, rfl⟩
theorem shp_coal {n : Nat} {ps : List PV} (h : Shp Try.prog (n + 3) 32 ps) : ∃ x : Coal, ps = x.row := by
  unfold Shp at h
  rw [Try.underlying32] at h
  simp only [cells32] at h
  obtain ⟨hl, hf⟩ := h
  match ps, hl with
  | [a, b, d, e, f, g, j], _ =>
    simp [cells27, cells4] at hf
    obtain ⟨h1, h2, h3, h4⟩ := hf
    obtain ⟨m1, e1⟩ := shp_span h1
    obtain ⟨m2, e2⟩ := shp_span h2
    obtain ⟨m3, e3⟩ := shp_span h3
    obtain ⟨m4, e4⟩ := shp_bool h4
    simp [Span.row] at e1 e2 e3 e4
    obtain ⟨rfl, rfl⟩ := e1
    obtain ⟨rfl, rfl⟩ := e2
    obtain ⟨rfl, rfl⟩ := e3
    subst e4
    exact ⟨⟨m1, m2, m3, m4⟩, rfl⟩
theorem shp_kettle {n : Nat} {ps : List PV} (h : Shp Try.prog (n + 3) 29 ps) : ∃ x : Kettle, ps = x.row := by
  unfold Shp at h
  rw [Try.underlying29] at h
  simp only [cells29] at h
  obtain ⟨hl, hf⟩ := h
  match ps, hl with
  | [a, b, d, e, f, g, j, l], _ =>
    simp [cells27, cells3] at hf
    obtain ⟨h1, h2, h3, h4, h5, h6, h7⟩ := hf
    obtain ⟨m1, e1⟩ := shp_int h1
    obtain ⟨m2, e2⟩ := shp_span h2
    obtain ⟨m3, e3⟩ := shp_int h3
    obtain ⟨m4, e4⟩ := shp_int h4
    obtain ⟨m5, e5⟩ := shp_int h5
    obtain ⟨m6, e6⟩ := shp_int h6
    obtain ⟨m7, e7⟩ := shp_int h7
    simp [Span.row] at e1 e2 e3 e4 e5 e6 e7
    obtain ⟨rfl, rfl⟩ := e2
    subst e1 e3 e4 e5 e6 e7
    exact ⟨⟨m1, m2, m3, m4, m5, m6, m7⟩, rfl⟩
theorem rows_of {α : Type} (f : α → List PV) : ∀ {rows : List (List PV)}, (∀ r ∈ rows, ∃ x : α, r = f x) → ∃ l : List α, rows = l.map f
  | [], _ => ⟨[], rfl⟩
  | r :: rs, h => by
    obtain ⟨x, rfl⟩ := h r (List.mem_cons_self ..)
    obtain ⟨l, rfl⟩ := rows_of f (rows := rs) (fun r hr => h r (List.mem_cons_of_mem _ hr))
    exact ⟨x :: l, rfl⟩
theorem shp_coals {n : Nat} {ps : List PV} (h : Shp Try.prog (n + 4) 22 ps) : ∃ l : List Coal, ps = [.slice (l.map Coal.row)] := by
  unfold Shp at h
  rw [Try.underlying22] at h
  obtain ⟨rows, h1, h2, rfl⟩ := h
  obtain ⟨l, rfl⟩ := rows_of Coal.row (fun r hr => shp_coal (h2 r hr).2)
  exact ⟨l, rfl⟩
theorem shp_touches {n : Nat} {ps : List PV} (h : Shp Try.prog (n + 3) 23 ps) : ∃ l : List Gh.Touch, ps = [.slice (l.map Gh.Touch.row)] := by
  unfold Shp at h
  rw [Try.underlying23] at h
  obtain ⟨rows, h1, h2, rfl⟩ := h
  obtain ⟨l, rfl⟩ := rows_of Gh.Touch.row (fun r hr => shp_touch (h2 r hr).2)
  exact ⟨l, rfl⟩
theorem arg_fire {n : Nat} {p : PV} (h : ArgP Try.prog (n + 5) 25 p) : ∃ f : Fire, p = .agg f.row := by
  unfold ArgP at h
  rw [Try.underlying25] at h
  obtain ⟨ps, rfl, h⟩ := h
  unfold Shp at h
  rw [Try.underlying25] at h
  simp only [cells25] at h
  obtain ⟨hl, hf⟩ := h
  match ps, hl with
  | [a, b], _ =>
    simp [cells22, cells23] at hf
    obtain ⟨h1, h2⟩ := hf
    obtain ⟨m1, e1⟩ := shp_coals h1
    obtain ⟨m2, e2⟩ := shp_touches h2
    simp at e1 e2
    subst e1 e2
    exact ⟨⟨m1, m2⟩, rfl⟩
theorem arg_kettle {n : Nat} {p : PV} (h : ArgP Try.prog (n + 3) 29 p) : ∃ k : Kettle, p = .agg k.row := by
  unfold ArgP at h
  rw [Try.underlying29] at h
  obtain ⟨ps, rfl, h⟩ := h
  obtain ⟨k, rfl⟩ := shp_kettle h
  exact ⟨k, rfl⟩
theorem arg_coal {n : Nat} {p : PV} (h : ArgP Try.prog (n + 3) 32 p) : ∃ k : Coal, p = .agg k.row := by
  unfold ArgP at h
  rw [Try.underlying32] at h
  obtain ⟨ps, rfl, h⟩ := h
  obtain ⟨k, rfl⟩ := shp_coal h
  exact ⟨k, rfl⟩
theorem arg_pours {n : Nat} {p : PV} (h : ArgP Try.prog (n + 3) 30 p) : ∃ l : List Pour, p = .slice (l.map Pour.row) := by
  unfold ArgP at h
  rw [Try.underlying30] at h
  simp only at h
  unfold Shp at h
  rw [Try.underlying30] at h
  obtain ⟨rows, h1, h2, e⟩ := h
  obtain ⟨l, rfl⟩ := rows_of Pour.row (fun r hr => shp_pour (h2 r hr).2)
  simp at e
  exact ⟨l, e⟩
theorem arg_int {n : Nat} {p : PV} (h : ArgP Try.prog (n + 1) 3 p) : ∃ m, p = .int .i64 m := by
  unfold ArgP at h
  rw [Try.underlying3] at h
  simp only at h
  obtain ⟨m, e⟩ := shp_int h
  simp at e
  exact ⟨m, e⟩
end Go.Proofs.Ytldhcphijclmdaa

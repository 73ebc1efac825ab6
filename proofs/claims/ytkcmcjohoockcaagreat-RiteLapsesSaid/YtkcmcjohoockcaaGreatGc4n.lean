/- What the rite seat's claims share. -/
import Derived.Test.YtkcmcjohoockcaaGreatGc4m
import Derived.Test.YtkcmcjohoockcaaGreatGc4f
import Derived.Test.YtkcmcjohoockcaaGreatRows
namespace Go.Proofs.YtkcmcjohoockcaaGreat
open Go.Gh Go.RowKit
set_option maxRecDepth 100000
set_option linter.unusedSimpArgs false
theorem own : ownKnob Tryz.prog.godebug = none := by kernel_rfl
theorem laidOut : laidOutB Tryz.prog = true := by kernel_rfl
theorem zY : Tryz.prog.cellsOf 3 = 1 := by kernel_rfl
theorem DK : Tryz.prog.cellsOf 4 = 1 := by kernel_rfl
theorem Ow : Tryz.prog.cellsOf 22 = 1 := by kernel_rfl
theorem Ox : Tryz.prog.cellsOf 23 = 1 := by kernel_rfl
theorem Oy : Tryz.prog.cellsOf 24 = 1 := by kernel_rfl
theorem Oz : Tryz.prog.cellsOf 25 = 1 := by kernel_rfl
theorem OA : Tryz.prog.cellsOf 27 = 7 := by kernel_rfl
theorem OB : Tryz.prog.cellsOf 29 = 9 := by kernel_rfl
theorem OC : Tryz.prog.cellsOf 86 = 5 := by kernel_rfl
theorem Jl : Tryz.prog.cellsOf 105 = 2 := by kernel_rfl
theorem lH {P : Program} {n : Nat} {t : TypeId} {ts : List TypeId} {pvs : List PV} (h : xP P n (t :: ts) pvs) : ∃ p ps, pvs = p :: ps ∧ uM P n t p ∧ xP P n ts ps := by
  cases pvs with
  | nil => exact h.elim
  | cons p ps => exact ⟨p, ps, rfl, h⟩
theorem GO {P : Program} {n : Nat} {pvs : List PV} (h : xP P n [] pvs) : pvs = [] := by
  cases pvs with
  | nil => rfl
  | cons p ps => exact h.elim
theorem eK {n : Nat} {ps : List PV} (h : pS Tryz.prog (n + 1) 3 ps) : ∃ m, ps = [.int .i64 m] := by
  simp only [pS, Tryz.underlying3] at h
  obtain ⟨m, _, rfl⟩ := h
  exact ⟨m, rfl⟩
theorem Jm {n : Nat} {ps : List PV} (h : pS Tryz.prog (n + 1) 4 ps) : ∃ m, ps = [.bool m] := by
  simp only [pS, Tryz.underlying4] at h
  obtain ⟨m, rfl⟩ := h
  exact ⟨m, rfl⟩
theorem DL {n : Nat} {ps : List PV} (h : pS Tryz.prog (n + 2) 105 ps) : ∃ x : Gh.aQ, ps = x.row := by
  unfold pS at h
  rw [Tryz.underlying105] at h
  simp only [Jl] at h
  obtain ⟨hl, hf⟩ := h
  match ps, hl with
  | [a, b], _ =>
    simp [zY, DK] at hf
    obtain ⟨h1, h2⟩ := hf
    obtain ⟨m1, e1⟩ := eK h1
    obtain ⟨m2, e2⟩ := eK h2
    simp at e1 e2
    subst e1 e2
    exact ⟨⟨m1, m2⟩, rfl⟩
theorem GP {n : Nat} {ps : List PV} (h : pS Tryz.prog (n + 2) 86 ps) : ∃ x : Gh.aV, ps = x.row := by
  unfold pS at h
  rw [Tryz.underlying86] at h
  simp only [OC] at h
  obtain ⟨hl, hf⟩ := h
  match ps, hl with
  | [a, b, c, d, e], _ =>
    simp [zY, DK] at hf
    obtain ⟨h1, h2, h3, h4, h5⟩ := hf
    obtain ⟨m1, e1⟩ := eK h1
    obtain ⟨m2, e2⟩ := eK h2
    obtain ⟨m3, e3⟩ := eK h3
    obtain ⟨m4, e4⟩ := eK h4
    obtain ⟨m5, e5⟩ := Jm h5
    simp at e1 e2 e3 e4 e5
    subst e1 e2 e3 e4 e5
    exact ⟨⟨m1, m2, m3, m4, m5⟩, rfl⟩
theorem OD {n : Nat} {ps : List PV} (h : pS Tryz.prog (n + 2) 29 ps) : ∃ x : Gh.ak, ps = x.row := by
  unfold pS at h
  rw [Tryz.underlying29] at h
  simp only [OB] at h
  obtain ⟨hl, hf⟩ := h
  match ps, hl with
  | [a, b, c, d, e, f, g, h, i], _ =>
    simp [zY, DK] at hf
    obtain ⟨h1, h2, h3, h4, h5, h6, h7, h8, h9⟩ := hf
    obtain ⟨m1, e1⟩ := eK h1
    obtain ⟨m2, e2⟩ := eK h2
    obtain ⟨m3, e3⟩ := eK h3
    obtain ⟨m4, e4⟩ := eK h4
    obtain ⟨m5, e5⟩ := eK h5
    obtain ⟨m6, e6⟩ := eK h6
    obtain ⟨m7, e7⟩ := eK h7
    obtain ⟨m8, e8⟩ := eK h8
    obtain ⟨m9, e9⟩ := eK h9
    simp at e1 e2 e3 e4 e5 e6 e7 e8 e9
    subst e1 e2 e3 e4 e5 e6 e7 e8 e9
    exact ⟨⟨m1, m2, m3, m4, m5, m6, m7, m8, m9⟩, rfl⟩
theorem so {α : Type} (f : α → List PV) : ∀ {rows : List (List PV)}, (∀ r ∈ rows, ∃ x : α, r = f x) → ∃ l : List α, rows = l.map f
  | [], _ => ⟨[], rfl⟩
  | r :: rs, h => by
    obtain ⟨x, rfl⟩ := h r (List.mem_cons_self ..)
    obtain ⟨l, rfl⟩ := so f (rows := rs) (fun r hr => h r (List.mem_cons_of_mem _ hr))
    exact ⟨x :: l, rfl⟩
theorem DM {n : Nat} {ps : List PV} (h : pS Tryz.prog (n + 3) 22 ps) : ∃ l : List Gh.aQ, l.length ≤ maxLen ∧ ps = [.slice (l.map Gh.aQ.row)] := by
  unfold pS at h
  rw [Tryz.underlying22] at h
  obtain ⟨rows, h1, h2, rfl⟩ := h
  obtain ⟨l, rfl⟩ := so Gh.aQ.row (fun r hr => DL (h2 r hr).2)
  exact ⟨l, by simpa using h1, rfl⟩
theorem DN {n : Nat} {ps : List PV} (h : pS Tryz.prog (n + 3) 23 ps) : ∃ l : List Gh.aV, l.length ≤ maxLen ∧ ps = [.slice (l.map Gh.aV.row)] := by
  unfold pS at h
  rw [Tryz.underlying23] at h
  obtain ⟨rows, h1, h2, rfl⟩ := h
  obtain ⟨l, rfl⟩ := so Gh.aV.row (fun r hr => GP (h2 r hr).2)
  exact ⟨l, by simpa using h1, rfl⟩
theorem wN {n : Nat} {ps : List PV} (h : pS Tryz.prog (n + 2) 24 ps) : ∃ l : List Int, l.length ≤ maxLen ∧ ps = [.slice (l.map aG)] := by
  unfold pS at h
  rw [Tryz.underlying24] at h
  obtain ⟨rows, h1, h2, rfl⟩ := h
  obtain ⟨l, rfl⟩ := so aG (fun r hr => eK (h2 r hr).2)
  exact ⟨l, by simpa using h1, rfl⟩
theorem BR {n : Nat} {ps : List PV} (h : pS Tryz.prog (n + 3) 25 ps) : ∃ l : List Gh.ak, l.length ≤ maxLen ∧ ps = [.slice (l.map Gh.ak.row)] := by
  unfold pS at h
  rw [Tryz.underlying25] at h
  obtain ⟨rows, h1, h2, rfl⟩ := h
  obtain ⟨l, rfl⟩ := so Gh.ak.row (fun r hr => OD (h2 r hr).2)
  exact ⟨l, by simpa using h1, rfl⟩
theorem Jn {n : Nat} {p : PV} (h : uM Tryz.prog (n + 4) 27 p) : ∃ r : Gh.aH, p = .agg r.row := by
  unfold uM at h
  rw [Tryz.underlying27] at h
  obtain ⟨ps, rfl, h⟩ := h
  unfold pS at h
  rw [Tryz.underlying27] at h
  simp only [OA] at h
  obtain ⟨hl, hf⟩ := h
  match ps, hl with
  | [a, b, c, d, e, f, g], _ =>
    simp [zY, Ow, Ox, Oy, Oz] at hf
    obtain ⟨h1, h2, h3, h4, h5, h6, h7⟩ := hf
    obtain ⟨m1, e1⟩ := eK h1
    obtain ⟨m2, e2⟩ := eK h2
    obtain ⟨m3, _, e3⟩ := DM h3
    obtain ⟨m4, _, e4⟩ := DN h4
    obtain ⟨m5, _, e5⟩ := wN h5
    obtain ⟨m6, _, e6⟩ := wN h6
    obtain ⟨m7, _, e7⟩ := BR h7
    simp at e1 e2 e3 e4 e5 e6 e7
    subst e1 e2 e3 e4 e5 e6 e7
    exact ⟨⟨m1, m2, m3, m4, m5, m6, m7⟩, rfl⟩
theorem ET {n : Nat} {p : PV} (h : uM Tryz.prog (n + 1) 3 p) : ∃ m, p = .int .i64 m := by
  unfold uM at h
  rw [Tryz.underlying3] at h
  simp only at h
  obtain ⟨m, e⟩ := eK h
  simp at e
  exact ⟨m, e⟩
theorem Jo {n : Nat} {p : PV} (h : uM Tryz.prog (n + 2) 24 p) : ∃ l : List Int, l.length ≤ maxLen ∧ p = .slice (l.map aG) := by
  unfold uM at h
  rw [Tryz.underlying24] at h
  simp only at h
  obtain ⟨l, hl, e⟩ := wN h
  simp at e
  exact ⟨l, hl, e⟩
end Go.Proofs.YtkcmcjohoockcaaGreat

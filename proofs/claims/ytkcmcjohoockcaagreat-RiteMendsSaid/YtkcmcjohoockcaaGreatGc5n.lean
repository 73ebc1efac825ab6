/- What the rite seat's claims share. -/
import Derived.Test.YtkcmcjohoockcaaGreatGc5m
import Derived.Test.YtkcmcjohoockcaaGreatGc5f
import Derived.Test.YtkcmcjohoockcaaGreatRows
namespace Go.Proofs.YtkcmcjohoockcaaGreat
open Go.Gh Go.RowKit
set_option maxRecDepth 100000
set_option linter.unusedSimpArgs false
theorem own : ownKnob Tryz.prog.godebug = none := by kernel_rfl
theorem laidOut : laidOutB Tryz.prog = true := by kernel_rfl
theorem Aa : Tryz.prog.cellsOf 3 = 1 := by kernel_rfl
theorem DC : Tryz.prog.cellsOf 4 = 1 := by kernel_rfl
theorem Pj : Tryz.prog.cellsOf 22 = 1 := by kernel_rfl
theorem Pk : Tryz.prog.cellsOf 23 = 1 := by kernel_rfl
theorem Pl : Tryz.prog.cellsOf 24 = 1 := by kernel_rfl
theorem Pm : Tryz.prog.cellsOf 25 = 1 := by kernel_rfl
theorem Pn : Tryz.prog.cellsOf 27 = 7 := by kernel_rfl
theorem Po : Tryz.prog.cellsOf 29 = 9 := by kernel_rfl
theorem Pp : Tryz.prog.cellsOf 86 = 5 := by kernel_rfl
theorem JM : Tryz.prog.cellsOf 105 = 2 := by kernel_rfl
theorem nN {P : Program} {n : Nat} {t : TypeId} {ts : List TypeId} {pvs : List PV} (h : yG P n (t :: ts) pvs) : ∃ p ps, pvs = p :: ps ∧ ya P n t p ∧ yG P n ts ps := by
  cases pvs with
  | nil => exact h.elim
  | cons p ps => exact ⟨p, ps, rfl, h⟩
theorem G5 {P : Program} {n : Nat} {pvs : List PV} (h : yG P n [] pvs) : pvs = [] := by
  cases pvs with
  | nil => rfl
  | cons p ps => exact h.elim
theorem eI {n : Nat} {ps : List PV} (h : qu Tryz.prog (n + 1) 3 ps) : ∃ m, ps = [.int .i64 m] := by
  simp only [qu, Tryz.underlying3] at h
  obtain ⟨m, _, rfl⟩ := h
  exact ⟨m, rfl⟩
theorem JN {n : Nat} {ps : List PV} (h : qu Tryz.prog (n + 1) 4 ps) : ∃ m, ps = [.bool m] := by
  simp only [qu, Tryz.underlying4] at h
  obtain ⟨m, rfl⟩ := h
  exact ⟨m, rfl⟩
theorem DD {n : Nat} {ps : List PV} (h : qu Tryz.prog (n + 2) 105 ps) : ∃ x : Gh.aS, ps = x.row := by
  unfold qu at h
  rw [Tryz.underlying105] at h
  simp only [JM] at h
  obtain ⟨hl, hf⟩ := h
  match ps, hl with
  | [a, b], _ =>
    simp [Aa, DC] at hf
    obtain ⟨h1, h2⟩ := hf
    obtain ⟨m1, e1⟩ := eI h1
    obtain ⟨m2, e2⟩ := eI h2
    simp at e1 e2
    subst e1 e2
    exact ⟨⟨m1, m2⟩, rfl⟩
theorem G6 {n : Nat} {ps : List PV} (h : qu Tryz.prog (n + 2) 86 ps) : ∃ x : Gh.aY, ps = x.row := by
  unfold qu at h
  rw [Tryz.underlying86] at h
  simp only [Pp] at h
  obtain ⟨hl, hf⟩ := h
  match ps, hl with
  | [a, b, c, d, e], _ =>
    simp [Aa, DC] at hf
    obtain ⟨h1, h2, h3, h4, h5⟩ := hf
    obtain ⟨m1, e1⟩ := eI h1
    obtain ⟨m2, e2⟩ := eI h2
    obtain ⟨m3, e3⟩ := eI h3
    obtain ⟨m4, e4⟩ := eI h4
    obtain ⟨m5, e5⟩ := JN h5
    simp at e1 e2 e3 e4 e5
    subst e1 e2 e3 e4 e5
    exact ⟨⟨m1, m2, m3, m4, m5⟩, rfl⟩
theorem Pq {n : Nat} {ps : List PV} (h : qu Tryz.prog (n + 2) 29 ps) : ∃ x : Gh.ak, ps = x.row := by
  unfold qu at h
  rw [Tryz.underlying29] at h
  simp only [Po] at h
  obtain ⟨hl, hf⟩ := h
  match ps, hl with
  | [a, b, c, d, e, f, g, h, i], _ =>
    simp [Aa, DC] at hf
    obtain ⟨h1, h2, h3, h4, h5, h6, h7, h8, h9⟩ := hf
    obtain ⟨m1, e1⟩ := eI h1
    obtain ⟨m2, e2⟩ := eI h2
    obtain ⟨m3, e3⟩ := eI h3
    obtain ⟨m4, e4⟩ := eI h4
    obtain ⟨m5, e5⟩ := eI h5
    obtain ⟨m6, e6⟩ := eI h6
    obtain ⟨m7, e7⟩ := eI h7
    obtain ⟨m8, e8⟩ := eI h8
    obtain ⟨m9, e9⟩ := eI h9
    simp at e1 e2 e3 e4 e5 e6 e7 e8 e9
    subst e1 e2 e3 e4 e5 e6 e7 e8 e9
    exact ⟨⟨m1, m2, m3, m4, m5, m6, m7, m8, m9⟩, rfl⟩
theorem ss {α : Type} (f : α → List PV) : ∀ {rows : List (List PV)}, (∀ r ∈ rows, ∃ x : α, r = f x) → ∃ l : List α, rows = l.map f
  | [], _ => ⟨[], rfl⟩
  | r :: rs, h => by
    obtain ⟨x, rfl⟩ := h r (List.mem_cons_self ..)
    obtain ⟨l, rfl⟩ := ss f (rows := rs) (fun r hr => h r (List.mem_cons_of_mem _ hr))
    exact ⟨x :: l, rfl⟩
theorem DE {n : Nat} {ps : List PV} (h : qu Tryz.prog (n + 3) 22 ps) : ∃ l : List Gh.aS, l.length ≤ maxLen ∧ ps = [.slice (l.map Gh.aS.row)] := by
  unfold qu at h
  rw [Tryz.underlying22] at h
  obtain ⟨rows, h1, h2, rfl⟩ := h
  obtain ⟨l, rfl⟩ := ss Gh.aS.row (fun r hr => DD (h2 r hr).2)
  exact ⟨l, by simpa using h1, rfl⟩
theorem DF {n : Nat} {ps : List PV} (h : qu Tryz.prog (n + 3) 23 ps) : ∃ l : List Gh.aY, l.length ≤ maxLen ∧ ps = [.slice (l.map Gh.aY.row)] := by
  unfold qu at h
  rw [Tryz.underlying23] at h
  obtain ⟨rows, h1, h2, rfl⟩ := h
  obtain ⟨l, rfl⟩ := ss Gh.aY.row (fun r hr => G6 (h2 r hr).2)
  exact ⟨l, by simpa using h1, rfl⟩
theorem wv {n : Nat} {ps : List PV} (h : qu Tryz.prog (n + 2) 24 ps) : ∃ l : List Int, l.length ≤ maxLen ∧ ps = [.slice (l.map aE)] := by
  unfold qu at h
  rw [Tryz.underlying24] at h
  obtain ⟨rows, h1, h2, rfl⟩ := h
  obtain ⟨l, rfl⟩ := ss aE (fun r hr => eI (h2 r hr).2)
  exact ⟨l, by simpa using h1, rfl⟩
theorem JO {n : Nat} {ps : List PV} (h : qu Tryz.prog (n + 3) 25 ps) : ∃ l : List Gh.ak, l.length ≤ maxLen ∧ ps = [.slice (l.map Gh.ak.row)] := by
  unfold qu at h
  rw [Tryz.underlying25] at h
  obtain ⟨rows, h1, h2, rfl⟩ := h
  obtain ⟨l, rfl⟩ := ss Gh.ak.row (fun r hr => Pq (h2 r hr).2)
  exact ⟨l, by simpa using h1, rfl⟩
theorem JP {n : Nat} {p : PV} (h : ya Tryz.prog (n + 4) 27 p) : ∃ r : Gh.aC, p = .agg r.row := by
  unfold ya at h
  rw [Tryz.underlying27] at h
  obtain ⟨ps, rfl, h⟩ := h
  unfold qu at h
  rw [Tryz.underlying27] at h
  simp only [Pn] at h
  obtain ⟨hl, hf⟩ := h
  match ps, hl with
  | [a, b, c, d, e, f, g], _ =>
    simp [Aa, Pj, Pk, Pl, Pm] at hf
    obtain ⟨h1, h2, h3, h4, h5, h6, h7⟩ := hf
    obtain ⟨m1, e1⟩ := eI h1
    obtain ⟨m2, e2⟩ := eI h2
    obtain ⟨m3, _, e3⟩ := DE h3
    obtain ⟨m4, _, e4⟩ := DF h4
    obtain ⟨m5, _, e5⟩ := wv h5
    obtain ⟨m6, _, e6⟩ := wv h6
    obtain ⟨m7, _, e7⟩ := JO h7
    simp at e1 e2 e3 e4 e5 e6 e7
    subst e1 e2 e3 e4 e5 e6 e7
    exact ⟨⟨m1, m2, m3, m4, m5, m6, m7⟩, rfl⟩
theorem Fz {n : Nat} {p : PV} (h : ya Tryz.prog (n + 1) 3 p) : ∃ m, p = .int .i64 m := by
  unfold ya at h
  rw [Tryz.underlying3] at h
  simp only at h
  obtain ⟨m, e⟩ := eI h
  simp at e
  exact ⟨m, e⟩
theorem JQ {n : Nat} {p : PV} (h : ya Tryz.prog (n + 2) 24 p) : ∃ l : List Int, l.length ≤ maxLen ∧ p = .slice (l.map aE) := by
  unfold ya at h
  rw [Tryz.underlying24] at h
  simp only at h
  obtain ⟨l, hl, e⟩ := wv h
  simp at e
  exact ⟨l, hl, e⟩
end Go.Proofs.YtkcmcjohoockcaaGreat

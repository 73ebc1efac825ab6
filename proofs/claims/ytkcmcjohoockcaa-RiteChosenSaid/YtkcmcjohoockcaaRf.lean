/- The kit's functions: what is equal is told equal; a number taken into bounds; what is too big. -/
import Derived.Test.YtkcmcjohoockcaaRc
import Derived.Test.YtkcmcjohoockcaaRe
namespace Go.Gh
open Go.Proofs
set_option linter.unusedSimpArgs false
set_option linter.unusedVariables false
set_option linter.unnecessarySimpa false
set_option maxRecDepth 100000
set_option maxHeartbeats 4000000
variable {c : Nat} {H : Heap}
theorem eqI_loop (l : List Int) (hn : l.length ≤ 1000000) (Q : GX → GSt → Prop) (hH : 0 < H.length) : ∀ k i : Nat, i + k = l.length →
    Q (.exit 0) ⟨[(4, gdead)], H, 26⟩ →
    WPL KC needT 49 (lp Try.f49 0) [0, 1, 5] [4] Q [(0, .pure (.slice (l.map irow))), (1, .pure (.slice (l.map irow))), (5, .pure (.int .i64 i))] H 26 := by
  intro k
  induction k with
  | zero =>
    intro i hi h1
    apply WPL_step
    conv => arg 4; whnf
    have : ¬ i < l.length := by omega
    simp [this, hH]
    exact h1
  | succ k ih =>
    intro i hi h1
    have hia : i < l.length := by omega
    have hw := w64 (x := (i : Int) + 1) (by omega) (by omega)
    have ih' := ih (i + 1) (by omega) h1
    apply WPL_step
    conv => arg 4; whnf
    simp [hia, hH, irow, hw]
    simpa [irow] using ih'
theorem eqI_ok (l : List Int) (hn : l.length ≤ 1000000) (hH : 0 < H.length) :
    gcall KC (geval KC) 49 [.pure (.slice (l.map irow)), .pure (.slice (l.map irow))] c H = some (.pure (.bool true), H) := by
  refine bor_c rfl rfl rfl rfl rfl hH fun H hH => ?_
  refine WPv_eq (call_enter0 KC needT Try.func49 rfl rfl good49 (by simp) hH ?_)
  simp
  refine eqI_loop (H := [] :: H) l hn _ (by simp) l.length 0 (by omega) ?_
  simp [gleave_free]
theorem eqActs_loop (l : List RAct) (hn : l.length ≤ 1000000) (Q : GX → GSt → Prop) (hH : 0 < H.length) : ∀ k i : Nat, i + k = l.length →
    Q (.exit 0) ⟨[(4, gdead)], H, 26⟩ →
    WPL KC needT 27 (lp Try.f27 0) [0, 1, 5] [4] Q [(0, .pure (.slice (l.map RAct.row))), (1, .pure (.slice (l.map RAct.row))), (5, .pure (.int .i64 i))] H 26 := by
  intro k
  induction k with
  | zero =>
    intro i hi h1
    apply WPL_step
    conv => arg 4; whnf
    have : ¬ i < l.length := by omega
    simp [this, hH]
    exact h1
  | succ k ih =>
    intro i hi h1
    have hia : i < l.length := by omega
    have hw := w64 (x := (i : Int) + 1) (by omega) (by omega)
    have ih' := ih (i + 1) (by omega) h1
    apply WPL_step
    conv => arg 4; whnf
    simp [hia, hH, RAct.row, hw]
    simpa [RAct.row] using ih'
theorem eqActs_ok (l : List RAct) (hn : l.length ≤ 1000000) (hH : 0 < H.length) :
    gcall KC (geval KC) 27 [.pure (.slice (l.map RAct.row)), .pure (.slice (l.map RAct.row))] c H = some (.pure (.bool true), H) := by
  refine bor_c rfl rfl rfl rfl rfl hH fun H hH => ?_
  refine WPv_eq (call_enter0 KC needT Try.func27 rfl rfl good27 (by simp) hH ?_)
  simp
  refine eqActs_loop (H := [] :: H) l hn _ (by simp) l.length 0 (by omega) ?_
  simp [gleave_free]
theorem eqPeople_loop (r : Rite) (hn : r.people.length ≤ 1000000) (Q : GX → GSt → Prop) : ∀ k i : Nat, i + k = r.people.length →
    Q (.exit 0) ⟨[(2, .bptr (H.length, 2) 0), (3, .bptr (H.length, 3) 0), (4, gdead)], [(2, rbox r), (3, rbox r)] :: H, 97⟩ →
    WPL KC needT 17 (lp Try.f17 0) [2, 3, 5] [2, 3, 4] Q [(2, .bptr (H.length, 2) 0), (3, .bptr (H.length, 3) 0), (5, .pure (.int .i64 i))] ([(2, rbox r), (3, rbox r)] :: H) 97 := by
  intro k
  induction k with
  | zero =>
    intro i hi h1
    apply WPL_step
    conv => arg 4; whnf
    have : ¬ i < r.people.length := by omega
    simp [this, rbox]
    simpa [rbox] using h1
  | succ k ih =>
    intro i hi h1
    have hia : i < r.people.length := by omega
    have hw := w64 (x := (i : Int) + 1) (by omega) (by omega)
    have ih' := ih (i + 1) (by omega) h1
    apply WPL_step
    conv => arg 4; whnf
    simp [hia, Person.row, hw, rbox]
    simpa [Person.row, rbox] using ih'
theorem eqThings_loop (r : Rite) (hn : r.things.length ≤ 1000000) (Q : GX → GSt → Prop) : ∀ k i : Nat, i + k = r.things.length →
    Q (.exit 2) ⟨[(4, gdead)], [(2, rbox r), (3, rbox r)] :: H, 97⟩ →
    WPL KC needT 17 (lp Try.f17 1) [2, 3, 6] [4] Q [(2, .bptr (H.length, 2) 0), (3, .bptr (H.length, 3) 0), (6, .pure (.int .i64 i))] ([(2, rbox r), (3, rbox r)] :: H) 97 := by
  intro k
  induction k with
  | zero =>
    intro i hi h1
    apply WPL_step
    conv => arg 4; whnf
    have : ¬ i < r.things.length := by omega
    simp [this, rbox]
    simpa [rbox] using h1
  | succ k ih =>
    intro i hi h1
    have hia : i < r.things.length := by omega
    have hw := w64 (x := (i : Int) + 1) (by omega) (by omega)
    have ih' := ih (i + 1) (by omega) h1
    apply WPL_step
    conv => arg 4; whnf
    simp [hia, Thing.row, hw, rbox]
    simpa [Thing.row, rbox] using ih'
/-- A rite whose lists are not long. -/
structure Short (r : Rite) : Prop where
  p : r.people.length ≤ 1000000
  t : r.things.length ≤ 1000000
  s : r.seen.length ≤ 1000000
  l : r.lapses.length ≤ 1000000
  a : r.acts.length ≤ 1000000
theorem eqRites_ok0 (r : Rite) (h : Short r) (hH : 0 < H.length) :
    gcall0 KC (geval KC) 17 [.pure (.agg r.row), .pure (.agg r.row)] c H = some (.pure (.bool true), H) := by
  refine WPv_eq (call_enter0 KC needT Try.func17 rfl rfl good17 (by simp) hH ?_)
  rw [rowR]
  have E1 := fun c (H : Heap) (hH : 0 < H.length) => eqI_ok (c := c) (H := H) r.seen h.s hH
  have E2 := fun c (H : Heap) (hH : 0 < H.length) => eqI_ok (c := c) (H := H) r.lapses h.l hH
  have E3 := fun c (H : Heap) (hH : 0 < H.length) => eqActs_ok (c := c) (H := H) r.acts h.a hH
  simp [E1, E2, E3]
  have L1 := fun Q h1 => eqPeople_loop (H := H) r h.p Q r.people.length 0 (by omega) h1
  simp [rbox] at L1
  refine L1 _ ?_
  simp
  have L2 := fun Q h1 => eqThings_loop (H := H) r h.t Q r.things.length 0 (by omega) h1
  simp [rbox] at L2
  refine L2 _ ?_
  simp [gleave_free]
theorem frz2 {a b : GV} {p q : PV} (h1 : rdG H a p) (h2 : rdG H b q) : (frzVals H [a, b]).1.map canon = [.pure p, .pure q] := by
  obtain ⟨x1, y1⟩ := frzG_rd h1
  obtain ⟨x2, y2⟩ := frzG_rd (rdG_sim y1 h2)
  rw [frzVals_cons, x1, frzVals_cons, x2]
  rfl
theorem eqRites_ok {g1 g2 : GV} (r : Rite) (h : Short r) (r1 : rdG H g1 (.agg r.row)) (r2 : rdG H g2 (.agg r.row)) (hH : 0 < H.length) :
    gcall KC (geval KC) 17 [g1, g2] c H = some (.pure (.bool true), H) :=
  bor_flat KC rfl rfl (frz2 r1 r2) rfl hH (fun H hH => eqRites_ok0 (c := c) r h hH) rfl
end Go.Gh


/- A copy of a rite. -/
namespace Go.Gh
open Go.Proofs
set_option linter.unusedSimpArgs false
set_option linter.unusedVariables false
set_option linter.unnecessarySimpa false
set_option maxRecDepth 100000
set_option maxHeartbeats 4000000
variable {c : Nat} {H : Heap}
theorem apK_from {l key es bytes : Nat} {rows : List (List PV)} {fr : Fr} (hl : H.length = l) (hf : fr.get key = none) (hb : rows.length * bytes ≤ 1099511627776) :
    apK l key .nils es bytes rows (fr :: H) = some (apS (l, key) es rows, apF key es rows fr :: H) := by
  subst hl
  unfold apS apF
  by_cases h : rows = []
  · subst h; simp
  · have : ¬ H.length + 1 ≤ H.length := by omega
    simp [h, hf, hb, this]
theorem ints_ok (l : List Int) (hn : l.length ≤ 1000000) (hH : 0 < H.length) : gcall KC (geval KC) 31 [.pure (.slice (l.map irow))] c H = some (.pure (.slice (l.map irow)), H) := by
  refine WPv_eq (call_enter KC needT Try.func31 rfl rfl good31 rfl rfl rfl (by simp) hH ?_)
  have hb : l.length * 8 ≤ 1099511627776 := by omega
  have A := apK_from (H := H) (l := H.length) (key := 5) (es := 1) (bytes := 8) (rows := l.map irow) (fr := []) rfl rfl (by simpa using hb)
  have hall : ∀ x : Int, (irow x).length = 1 := fun x => rfl
  simp [A, hall]
  rw [gleave_free]
  · rw [WPv_some, cc_apS rfl (by omega)]
  · simp
def ownG (n2 n3 n7 : Nm) (r : Rite) : GV := .agg [.pure (.int .i64 r.wide), .pure (.int .i64 r.deep), apS n2 2 (r.people.map Person.row), apS n3 5 (r.things.map Thing.row), .pure (.slice (r.seen.map irow)), .pure (.slice (r.lapses.map irow)), apS n7 9 (r.acts.map RAct.row)]
def ownH (H : Heap) (n2 n3 n7 : Nm) (r : Rite) : Heap := apSet (apSet (apSet H n2 2 (r.people.map Person.row)) n3 5 (r.things.map Thing.row)) n7 9 (r.acts.map RAct.row)
theorem apSet_1 {F : Fr} {l key es : Nat} {rows : List (List PV)} (hl : H.length = l) : apSet (F :: H) (l, key) es rows = apF key es rows F :: H := by
  subst hl
  unfold apSet apF
  split
  · rfl
  · simp
theorem checkB_ok {g : GV} (r : Rite) (h : Short r) (hg : rdG H g (.agg r.row)) (hH : 0 < H.length) : gcall KC (geval KC) 15 [g] c H = some (.pure (.int .i64 (checkF r)), H) :=
  bor_flat KC rfl rfl (frz1 hg) rfl hH (fun H hH => check_ok0 (c := c) r h.s h.l h.p h.t h.a hH) rfl
end Go.Gh

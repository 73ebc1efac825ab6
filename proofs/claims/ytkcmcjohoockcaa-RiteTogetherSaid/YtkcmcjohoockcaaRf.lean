/- The kit's functions: what is equal is told equal; a number taken into bounds; what is too big. -/
import Derived.Test.YtkcmcjohoockcaaRc
import Derived.Test.YtkcmcjohoockcaaRe
namespace Go.Gh
open Go.Proofs
set_option linter.unusedSimpArgs false
set_option linter.unusedVariables false
set_option linter.unnecessarySimpa false
set_option maxRecDepth 100000
set_option maxHeartbeats 4000000

variable {c : Nat} {H : Heap}

theorem eqI_loop (l : List Int) (hn : l.length ≤ 1000000) (Q : GX → GSt → Prop) (hH : 0 < H.length) : ∀ k i : Nat, i + k = l.length →
    Q (.exit 0) ⟨[(4, gdead)], H, 26⟩ →
    WPL KC needT 49 (lp Try.f49 0) [0, 1, 5] [4] Q [(0, .pure (.slice (l.map irow))), (1, .pure (.slice (l.map irow))), (5, .pure (.int .i64 i))] H 26 := by
  intro k
  induction k with
  | zero =>
    intro i hi h1
    apply WPL_step
    conv => arg 4; whnf
    have : ¬ i < l.length := by omega
    simp [this, hH]
    exact h1
  | succ k ih =>
    intro i hi h1
    have hia : i < l.length := by omega
    have hw := w64 (x := (i : Int) + 1) (by omega) (by omega)
    have ih' := ih (i + 1) (by omega) h1
    apply WPL_step
    conv => arg 4; whnf
    simp [hia, hH, irow, hw]
    simpa [irow] using ih'
theorem eqI_ok (l : List Int) (hn : l.length ≤ 1000000) (hH : 0 < H.length) :
    gcall KC (geval KC) 49 [.pure (.slice (l.map irow)), .pure (.slice (l.map irow))] c H = some (.pure (.bool true), H) := by
  refine bor_c rfl rfl rfl rfl rfl hH fun H hH => ?_
  refine WPv_eq (call_enter0 KC needT Try.func49 rfl rfl good49 (by simp) hH ?_)
  simp
  refine eqI_loop (H := [] :: H) l hn _ (by simp) l.length 0 (by omega) ?_
  simp [gleave_free]

theorem eqActs_loop (l : List RAct) (hn : l.length ≤ 1000000) (Q : GX → GSt → Prop) (hH : 0 < H.length) : ∀ k i : Nat, i + k = l.length →
    Q (.exit 0) ⟨[(4, gdead)], H, 26⟩ →
    WPL KC needT 27 (lp Try.f27 0) [0, 1, 5] [4] Q [(0, .pure (.slice (l.map RAct.row))), (1, .pure (.slice (l.map RAct.row))), (5, .pure (.int .i64 i))] H 26 := by
  intro k
  induction k with
  | zero =>
    intro i hi h1
    apply WPL_step
    conv => arg 4; whnf
    have : ¬ i < l.length := by omega
    simp [this, hH]
    exact h1
  | succ k ih =>
    intro i hi h1
    have hia : i < l.length := by omega
    have hw := w64 (x := (i : Int) + 1) (by omega) (by omega)
    have ih' := ih (i + 1) (by omega) h1
    apply WPL_step
    conv => arg 4; whnf
    simp [hia, hH, RAct.row, hw]
    simpa [RAct.row] using ih'
theorem eqActs_ok (l : List RAct) (hn : l.length ≤ 1000000) (hH : 0 < H.length) :
    gcall KC (geval KC) 27 [.pure (.slice (l.map RAct.row)), .pure (.slice (l.map RAct.row))] c H = some (.pure (.bool true), H) := by
  refine bor_c rfl rfl rfl rfl rfl hH fun H hH => ?_
  refine WPv_eq (call_enter0 KC needT Try.func27 rfl rfl good27 (by simp) hH ?_)
  simp
  refine eqActs_loop (H := [] :: H) l hn _ (by simp) l.length 0 (by omega) ?_
  simp [gleave_free]

theorem eqPeople_loop (r : Rite) (hn : r.people.length ≤ 1000000) (Q : GX → GSt → Prop) : ∀ k i : Nat, i + k = r.people.length →
    Q (.exit 0) ⟨[(2, .bptr (H.length, 2) 0), (3, .bptr (H.length, 3) 0), (4, gdead)], [(2, rbox r), (3, rbox r)] :: H, 97⟩ →
    WPL KC needT 17 (lp Try.f17 0) [2, 3, 5] [2, 3, 4] Q [(2, .bptr (H.length, 2) 0), (3, .bptr (H.length, 3) 0), (5, .pure (.int .i64 i))] ([(2, rbox r), (3, rbox r)] :: H) 97 := by
  intro k
  induction k with
  | zero =>
    intro i hi h1
    apply WPL_step
    conv => arg 4; whnf
    have : ¬ i < r.people.length := by omega
    simp [this, rbox]
    simpa [rbox] using h1
  | succ k ih =>
    intro i hi h1
    have hia : i < r.people.length := by omega
    have hw := w64 (x := (i : Int) + 1) (by omega) (by omega)
    have ih' := ih (i + 1) (by omega) h1
    apply WPL_step
    conv => arg 4; whnf
    simp [hia, Person.row, hw, rbox]
    simpa [Person.row, rbox] using ih'

theorem eqThings_loop (r : Rite) (hn : r.things.length ≤ 1000000) (Q : GX → GSt → Prop) : ∀ k i : Nat, i + k = r.things.length →
    Q (.exit 2) ⟨[(4, gdead)], [(2, rbox r), (3, rbox r)] :: H, 97⟩ →
    WPL KC needT 17 (lp Try.f17 1) [2, 3, 6] [4] Q [(2, .bptr (H.length, 2) 0), (3, .bptr (H.length, 3) 0), (6, .pure (.int .i64 i))] ([(2, rbox r), (3, rbox r)] :: H) 97 := by
  intro k
  induction k with
  | zero =>
    intro i hi h1
    apply WPL_step
    conv => arg 4; whnf
    have : ¬ i < r.things.length := by omega
    simp [this, rbox]
    simpa [rbox] using h1
  | succ k ih =>
    intro i hi h1
    have hia : i < r.things.length := by omega
    have hw := w64 (x := (i : Int) + 1) (by omega) (by omega)
    have ih' := ih (i + 1) (by omega) h1
    apply WPL_step
    conv => arg 4; whnf
    simp [hia, Thing.row, hw, rbox]
    simpa [Thing.row, rbox] using ih'

theorem eqHands_loop (r : Scene) (hn : r.hands.length ≤ 1000000) (Q : GX → GSt → Prop) : ∀ k i : Nat, i + k = r.hands.length →
    Q (.exit 0) ⟨[(2, .bptr (H.length, 2) 0), (3, .bptr (H.length, 3) 0), (4, gdead)], [(2, sbox r), (3, sbox r)] :: H, 67⟩ →
    WPL KC needT 21 (lp Try.f21 0) [2, 3, 5] [2, 3, 4] Q [(2, .bptr (H.length, 2) 0), (3, .bptr (H.length, 3) 0), (5, .pure (.int .i64 i))] ([(2, sbox r), (3, sbox r)] :: H) 67 := by
  intro k
  induction k with
  | zero =>
    intro i hi h1
    apply WPL_step
    conv => arg 4; whnf
    have : ¬ i < r.hands.length := by omega
    simp [this, sbox]
    simpa [sbox] using h1
  | succ k ih =>
    intro i hi h1
    have hia : i < r.hands.length := by omega
    have hw := w64 (x := (i : Int) + 1) (by omega) (by omega)
    have ih' := ih (i + 1) (by omega) h1
    apply WPL_step
    conv => arg 4; whnf
    simp [hia, Hands.row, hw, sbox]
    simpa [Hands.row, sbox] using ih'

theorem eqSpots_loop (r : Scene) (hn : r.things.length ≤ 1000000) (Q : GX → GSt → Prop) : ∀ k i : Nat, i + k = r.things.length →
    Q (.exit 2) ⟨[(4, gdead)], [(2, sbox r), (3, sbox r)] :: H, 67⟩ →
    WPL KC needT 21 (lp Try.f21 1) [2, 3, 6] [4] Q [(2, .bptr (H.length, 2) 0), (3, .bptr (H.length, 3) 0), (6, .pure (.int .i64 i))] ([(2, sbox r), (3, sbox r)] :: H) 67 := by
  intro k
  induction k with
  | zero =>
    intro i hi h1
    apply WPL_step
    conv => arg 4; whnf
    have : ¬ i < r.things.length := by omega
    simp [this, sbox]
    simpa [sbox] using h1
  | succ k ih =>
    intro i hi h1
    have hia : i < r.things.length := by omega
    have hw := w64 (x := (i : Int) + 1) (by omega) (by omega)
    have ih' := ih (i + 1) (by omega) h1
    apply WPL_step
    conv => arg 4; whnf
    simp [hia, Spot.row, hw, sbox]
    simpa [Spot.row, sbox] using ih'

/-- A rite whose lists are not long. -/
structure Short (r : Rite) : Prop where
  p : r.people.length ≤ 1000000
  t : r.things.length ≤ 1000000
  s : r.seen.length ≤ 1000000
  l : r.lapses.length ≤ 1000000
  a : r.acts.length ≤ 1000000
theorem eqRites_ok0 (r : Rite) (h : Short r) (hH : 0 < H.length) :
    gcall0 KC (geval KC) 17 [.pure (.agg r.row), .pure (.agg r.row)] c H = some (.pure (.bool true), H) := by
  refine WPv_eq (call_enter0 KC needT Try.func17 rfl rfl good17 (by simp) hH ?_)
  rw [rowR]
  have E1 := fun c (H : Heap) (hH : 0 < H.length) => eqI_ok (c := c) (H := H) r.seen h.s hH
  have E2 := fun c (H : Heap) (hH : 0 < H.length) => eqI_ok (c := c) (H := H) r.lapses h.l hH
  have E3 := fun c (H : Heap) (hH : 0 < H.length) => eqActs_ok (c := c) (H := H) r.acts h.a hH
  simp [E1, E2, E3]
  have L1 := fun Q h1 => eqPeople_loop (H := H) r h.p Q r.people.length 0 (by omega) h1
  simp [rbox] at L1
  refine L1 _ ?_
  simp
  have L2 := fun Q h1 => eqThings_loop (H := H) r h.t Q r.things.length 0 (by omega) h1
  simp [rbox] at L2
  refine L2 _ ?_
  simp [gleave_free]
theorem frz2 {a b : GV} {p q : PV} (h1 : rdG H a p) (h2 : rdG H b q) : (frzVals H [a, b]).1.map canon = [.pure p, .pure q] := by
  obtain ⟨x1, y1⟩ := frzG_rd h1
  obtain ⟨x2, y2⟩ := frzG_rd (rdG_sim y1 h2)
  rw [frzVals_cons, x1, frzVals_cons, x2]
  rfl
theorem eqRites_ok {g1 g2 : GV} (r : Rite) (h : Short r) (r1 : rdG H g1 (.agg r.row)) (r2 : rdG H g2 (.agg r.row)) (hH : 0 < H.length) :
    gcall KC (geval KC) 17 [g1, g2] c H = some (.pure (.bool true), H) :=
  bor_flat KC rfl rfl (frz2 r1 r2) rfl hH (fun H hH => eqRites_ok0 (c := c) r h hH) rfl

structure ShortS (s : Scene) : Prop where
  p : s.people.length ≤ 1000000
  h : s.hands.length ≤ 1000000
  t : s.things.length ≤ 1000000
theorem eqScenes_ok0 (s : Scene) (h : ShortS s) (hH : 0 < H.length) :
    gcall0 KC (geval KC) 21 [.pure (.agg s.row), .pure (.agg s.row)] c H = some (.pure (.bool true), H) := by
  refine WPv_eq (call_enter0 KC needT Try.func21 rfl rfl good21 (by simp) hH ?_)
  unfold Scene.row
  have E1 := fun c (H : Heap) (hH : 0 < H.length) => eqI_ok (c := c) (H := H) s.people h.p hH
  simp [E1]
  have L1 := fun Q h1 => eqHands_loop (H := H) s h.h Q s.hands.length 0 (by omega) h1
  simp [sbox] at L1
  refine L1 _ ?_
  simp
  have L2 := fun Q h1 => eqSpots_loop (H := H) s h.t Q s.things.length 0 (by omega) h1
  simp [sbox] at L2
  refine L2 _ ?_
  simp [gleave_free]
theorem eqScenes_ok {g1 g2 : GV} (s : Scene) (h : ShortS s) (r1 : rdG H g1 (.agg s.row)) (r2 : rdG H g2 (.agg s.row)) (hH : 0 < H.length) :
    gcall KC (geval KC) 21 [g1, g2] c H = some (.pure (.bool true), H) :=
  bor_flat KC rfl rfl (frz2 r1 r2) rfl hH (fun H hH => eqScenes_ok0 (c := c) s h hH) rfl
theorem eqPlays_loop (l : List Scene) (hs : ∀ s ∈ l, ShortS s) (hn : l.length ≤ 1000000) (Q : GX → GSt → Prop) (hH : 0 < H.length) : ∀ k i : Nat, i + k = l.length →
    Q (.exit 0) ⟨[(4, gdead)], H, 27⟩ →
    WPL KC needT 23 (lp Try.f23 0) [0, 1, 5] [4] Q [(0, .pure (.slice (l.map Scene.row))), (1, .pure (.slice (l.map Scene.row))), (5, .pure (.int .i64 i))] H 27 := by
  intro k
  induction k with
  | zero =>
    intro i hi h1
    apply WPL_step
    conv => arg 4; whnf
    have : ¬ i < l.length := by omega
    simp [this, hH]
    exact h1
  | succ k ih =>
    intro i hi h1
    have hia : i < l.length := by omega
    have hw := w64 (x := (i : Int) + 1) (by omega) (by omega)
    have ih' := ih (i + 1) (by omega) h1
    have E := fun c (H : Heap) (hH : 0 < H.length) => eqScenes_ok (c := c) (H := H) (g1 := .pure (.agg l[i].row)) (g2 := .pure (.agg l[i].row)) l[i] (hs _ (List.getElem_mem hia)) rfl rfl hH
    simp only [Scene.row] at E
    apply WPL_step
    conv => arg 4; whnf
    simp [hia, hH, Scene.row, hw, E]
    simpa [Scene.row] using ih'
theorem eqPlays_ok0 (l : List Scene) (hs : ∀ s ∈ l, ShortS s) (hn : l.length ≤ 1000000) (hH : 0 < H.length) :
    gcall0 KC (geval KC) 23 [.pure (.slice (l.map Scene.row)), .pure (.slice (l.map Scene.row))] c H = some (.pure (.bool true), H) := by
  refine WPv_eq (call_enter0 KC needT Try.func23 rfl rfl good23 (by simp) hH ?_)
  simp
  refine eqPlays_loop (H := [] :: H) l hs hn _ (by simp) l.length 0 (by omega) ?_
  simp [gleave_free]
theorem eqPlays_ok (l : List Scene) (hs : ∀ s ∈ l, ShortS s) (hn : l.length ≤ 1000000) (hH : 0 < H.length) :
    gcall KC (geval KC) 23 [.pure (.slice (l.map Scene.row)), .pure (.slice (l.map Scene.row))] c H = some (.pure (.bool true), H) :=
  bor_c rfl rfl rfl rfl rfl hH fun H hH => eqPlays_ok0 l hs hn hH

/-! ### a number taken into bounds -/
theorem fit_ok (x : Int) {n : Nat} (h0 : 0 < n) (hn : n ≤ 1000000) (hH : 0 < H.length) : ∃ k : Nat, k < n ∧ ∀ (c : Nat) (H : Heap), 0 < H.length → gcall KC (geval KC) 14 [.pure (.int .i64 x), .pure (.int .i64 n)] c H = some (.pure (.int .i64 k), H) := by
  by_cases h2 : n < 2
  · refine ⟨0, h0, fun c H hH => ?_⟩
    have h2' : (n : Int) < 2 := by omega
    refine bor_c rfl rfl rfl rfl rfl hH fun H hH => ?_
    refine WPv_eq (call_enter0 KC needT Try.func14 rfl rfl good14 (by simp) hH ?_)
    simp [h2, h2', gleave_free]
  · have h2' : ¬ (n : Int) < 2 := by omega
    have hz : ¬ (n : Int) = 0 := by omega
    have hz' : ¬ n = 0 := by omega
    have b1 := Int.tmod_lt_of_pos x (show (0 : Int) < n by omega)
    have b2 : -(n : Int) < x.tmod n := Int.lt_tmod_of_pos x (by omega)
    obtain ⟨m, hm⟩ : ∃ m, x.tmod n = m := ⟨_, rfl⟩
    rw [hm] at b1 b2
    by_cases h3 : m < 0
    · refine ⟨(m + n).toNat, by omega, fun c H hH => ?_⟩
      have e : ((m + n).toNat : Int) = m + n := by omega
      have hw := w64 (x := m + n) (by omega) (by omega)
      refine bor_c rfl rfl rfl rfl rfl hH fun H hH => ?_
      refine WPv_eq (call_enter0 KC needT Try.func14 rfl rfl good14 (by simp) hH ?_)
      simp [h2, h2', hz, hz', hm, h3, gleave_free, hw]
      omega
    · refine ⟨m.toNat, by omega, fun c H hH => ?_⟩
      have e : (m.toNat : Int) = m := by omega
      refine bor_c rfl rfl rfl rfl rfl hH fun H hH => ?_
      refine WPv_eq (call_enter0 KC needT Try.func14 rfl rfl good14 (by simp) hH ?_)
      simp [h2, h2', hz, hz', hm, h3, gleave_free]
      omega

/-! ### what is too big -/
noncomputable def bigV : Rite → Bool := hid fun r => decide (9 < r.people.length) || (decide (12 < r.things.length) || (decide (40 < r.seen.length) || (decide (9 < r.lapses.length) || decide (50 < r.acts.length))))
theorem bigV_def (r : Rite) : bigV r = (decide (9 < r.people.length) || (decide (12 < r.things.length) || (decide (40 < r.seen.length) || (decide (9 < r.lapses.length) || decide (50 < r.acts.length))))) := by rw [bigV, hid_eq]
theorem bigV_false {r : Rite} (h : bigV r = false) : r.people.length ≤ 9 ∧ r.things.length ≤ 12 ∧ r.seen.length ≤ 40 ∧ r.lapses.length ≤ 9 ∧ r.acts.length ≤ 50 := by
  rw [bigV_def] at h
  simp at h
  omega
theorem big_ok (r : Rite) (hH : 0 < H.length) : gcall KC (geval KC) 9 [.pure (.agg r.row)] c H = some (.pure (.bool (bigV r)), H) := by
  refine bor_c rfl rfl rfl rfl rfl hH fun H hH => ?_
  refine WPv_eq (call_enter0 KC needT Try.func9 rfl rfl good9 (by simp) hH ?_)
  have hd := bigV_def r
  rw [rowR]
  by_cases h1 : 9 < r.people.length
  · have h1' : (9 : Int) < r.people.length := by omega
    simp [h1] at hd
    simp [h1', gleave_free, hd]
  have h1' : ¬ (9 : Int) < r.people.length := by omega
  by_cases h2 : 12 < r.things.length
  · have h2' : (12 : Int) < r.things.length := by omega
    simp [h1, h2] at hd
    simp [h1', h2', gleave_free, hd]
  have h2' : ¬ (12 : Int) < r.things.length := by omega
  by_cases h3 : 40 < r.seen.length
  · have h3' : (40 : Int) < r.seen.length := by omega
    simp [h1, h2, h3] at hd
    simp [h1', h2', h3', gleave_free, hd]
  have h3' : ¬ (40 : Int) < r.seen.length := by omega
  by_cases h4 : 9 < r.lapses.length
  · have h4' : (9 : Int) < r.lapses.length := by omega
    simp [h1, h2, h3, h4] at hd
    simp [h1', h2', h3', h4', gleave_free, hd]
  have h4' : ¬ (9 : Int) < r.lapses.length := by omega
  by_cases h5 : 50 < r.acts.length
  · have h5' : (50 : Int) < r.acts.length := by omega
    simp [h1, h2, h3, h4, h5] at hd
    simp [h1', h2', h3', h4', h5', gleave_free, hd]
  · have h5' : ¬ (50 : Int) < r.acts.length := by omega
    simp [h1, h2, h3, h4, h5] at hd
    simp [h1', h2', h3', h4', h5', gleave_free, hd]
end Go.Gh


/- A copy of a rite. -/
namespace Go.Gh
open Go.Proofs
set_option linter.unusedSimpArgs false
set_option linter.unusedVariables false
set_option linter.unnecessarySimpa false
set_option maxRecDepth 100000
set_option maxHeartbeats 4000000

variable {c : Nat} {H : Heap}

theorem apK_from {l key es bytes : Nat} {rows : List (List PV)} {fr : Fr} (hl : H.length = l) (hf : fr.get key = none) (hb : rows.length * bytes ≤ 1099511627776) :
    apK l key .nils es bytes rows (fr :: H) = some (apS (l, key) es rows, apF key es rows fr :: H) := by
  subst hl
  unfold apS apF
  by_cases h : rows = []
  · subst h; simp
  · have : ¬ H.length + 1 ≤ H.length := by omega
    simp [h, hf, hb, this]

theorem ints_ok (l : List Int) (hn : l.length ≤ 1000000) (hH : 0 < H.length) : gcall KC (geval KC) 31 [.pure (.slice (l.map irow))] c H = some (.pure (.slice (l.map irow)), H) := by
  refine WPv_eq (call_enter KC needT Try.func31 rfl rfl good31 rfl rfl rfl (by simp) hH ?_)
  have hb : l.length * 8 ≤ 1099511627776 := by omega
  have A := apK_from (H := H) (l := H.length) (key := 5) (es := 1) (bytes := 8) (rows := l.map irow) (fr := []) rfl rfl (by simpa using hb)
  have hall : ∀ x : Int, (irow x).length = 1 := fun x => rfl
  simp [A, hall]
  rw [gleave_free]
  · rw [WPv_some, cc_apS rfl (by omega)]
  · simp

def ownG (n2 n3 n7 : Nm) (r : Rite) : GV := .agg [.pure (.int .i64 r.wide), .pure (.int .i64 r.deep), apS n2 2 (r.people.map Person.row), apS n3 5 (r.things.map Thing.row), .pure (.slice (r.seen.map irow)), .pure (.slice (r.lapses.map irow)), apS n7 9 (r.acts.map RAct.row)]
def ownH (H : Heap) (n2 n3 n7 : Nm) (r : Rite) : Heap := apSet (apSet (apSet H n2 2 (r.people.map Person.row)) n3 5 (r.things.map Thing.row)) n7 9 (r.acts.map RAct.row)

theorem ownRite_ok (r : Rite) (h : Short r) (hH : 0 < H.length)
    (hf1 : H.get (H.length - 1, newKey c 6) = none) (hf2 : H.get (H.length - 1, newKey c 10) = none) (hf3 : H.get (H.length - 1, newKey c 22) = none) :
    gcall KC (geval KC) 11 [.pure (.agg r.row)] c H = some (ownG (H.length - 1, newKey c 6) (H.length - 1, newKey c 10) (H.length - 1, newKey c 22) r, ownH H (H.length - 1, newKey c 6) (H.length - 1, newKey c 10) (H.length - 1, newKey c 22) r) := by
  refine WPv_eq (call_enter KC needT Try.func11 rfl rfl good11 rfl rfl rfl (by simp) hH ?_)
  rw [rowR]
  have h1 := h.p
  have h2 := h.t
  have h3 := h.a
  have b1 : r.people.length * 16 ≤ 1099511627776 := by omega
  have b2 : r.things.length * 40 ≤ 1099511627776 := by omega
  have b3 : r.acts.length * 72 ≤ 1099511627776 := by omega
  have l1 : ∀ x : Person, x.row.length = 2 := fun x => rfl
  have l2 : ∀ x : Thing, x.row.length = 5 := fun x => rfl
  have l3 : ∀ x : RAct, x.row.length = 9 := fun x => rfl
  have I1 := fun c (H : Heap) (hH : 0 < H.length) => ints_ok (c := c) (H := H) r.seen h.s hH
  have I2 := fun c (H : Heap) (hH : 0 < H.length) => ints_ok (c := c) (H := H) r.lapses h.l hH
  have A1 := fun fr hf => apK_from (H := H) (l := H.length) (key := 6) (es := 2) (bytes := 16) (rows := r.people.map Person.row) (fr := fr) rfl hf (by simpa using b1)
  have A2 := fun fr hf => apK_from (H := H) (l := H.length) (key := 10) (es := 5) (bytes := 40) (rows := r.things.map Thing.row) (fr := fr) rfl hf (by simpa using b2)
  have A3 := fun fr hf => apK_from (H := H) (l := H.length) (key := 22) (es := 9) (bytes := 72) (rows := r.acts.map RAct.row) (fr := fr) rfl hf (by simpa using b3)
  simp [A1, A2, A3, l1, l2, l3, I1, I2]
  have n12 : newKey c 6 ≠ newKey c 10 := by unfold newKey; omega
  have n13 : newKey c 6 ≠ newKey c 22 := by unfold newKey; omega
  have n23 : newKey c 10 ≠ newKey c 22 := by unfold newKey; omega
  have nn : ∀ a b : Nat, a ≠ b → ((H.length - 1, b) : Nm) ≠ (H.length - 1, a) := fun a b h e => h (Prod.mk.inj e).2.symm
  have gg : ∀ (H' : Heap) (a b : Nat) (x : Blk), a ≠ b → (H'.set (H.length - 1, a) x).get (H.length - 1, b) = H'.get (H.length - 1, b) := fun H' a b x h => Heap.get_set_other x (nn a b h)
  have d2 := fun x => (gg H _ _ x n12).trans hf2
  have d3 := fun x => (gg H _ _ x n13).trans hf3
  have d3' := fun x => (gg H _ _ x n23).trans hf3
  have d4 := fun x y => (gg (H.set (H.length - 1, newKey c 6) x) _ _ y n23).trans (d3 x)
  suffices hs : ∀ x y, gleave KC 11 c (ownG (H.length, 6) (H.length, 10) (H.length, 22) r) (apF 22 9 (r.acts.map RAct.row) (apF 10 5 (r.things.map Thing.row) (apF 6 2 (r.people.map Person.row) [(1, x), (2, y)])) :: H) =
      some (ownG (H.length - 1, newKey c 6) (H.length - 1, newKey c 10) (H.length - 1, newKey c 22) r, ownH H (H.length - 1, newKey c 6) (H.length - 1, newKey c 10) (H.length - 1, newKey c 22) r) by
    have := hs
    unfold ownG at this
    rw [this, WPv_some]
    rfl
  intro x y
  unfold ownG ownH
  by_cases e1 : r.people = []
  · by_cases e2 : r.things = []
    · by_cases e3 : r.acts = []
      · simp [e1, e2, e3, apS, apF, gleave_keep, refs, refs2, refs1, dedup, moveOut, cleanBlk, ren, ren2, ren1, apSet, hf1, hf2, hf3, d2, d3, d3', d4]
      · simp [e1, e2, e3, apS, apF, gleave_keep, refs, refs2, refs1, dedup, moveOut, cleanBlk, ren, ren2, ren1, apSet, hf1, hf2, hf3, d2, d3, d3', d4]
    · by_cases e3 : r.acts = []
      · simp [e1, e2, e3, apS, apF, gleave_keep, refs, refs2, refs1, dedup, moveOut, cleanBlk, ren, ren2, ren1, apSet, hf1, hf2, hf3, d2, d3, d3', d4]
      · simp [e1, e2, e3, apS, apF, gleave_keep, refs, refs2, refs1, dedup, moveOut, cleanBlk, ren, ren2, ren1, apSet, hf1, hf2, hf3, d2, d3, d3', d4]
  · by_cases e2 : r.things = []
    · by_cases e3 : r.acts = []
      · simp [e1, e2, e3, apS, apF, gleave_keep, refs, refs2, refs1, dedup, moveOut, cleanBlk, ren, ren2, ren1, apSet, hf1, hf2, hf3, d2, d3, d3', d4]
      · simp [e1, e2, e3, apS, apF, gleave_keep, refs, refs2, refs1, dedup, moveOut, cleanBlk, ren, ren2, ren1, apSet, hf1, hf2, hf3, d2, d3, d3', d4]
    · by_cases e3 : r.acts = []
      · simp [e1, e2, e3, apS, apF, gleave_keep, refs, refs2, refs1, dedup, moveOut, cleanBlk, ren, ren2, ren1, apSet, hf1, hf2, hf3, d2, d3, d3', d4]
      · simp [e1, e2, e3, apS, apF, gleave_keep, refs, refs2, refs1, dedup, moveOut, cleanBlk, ren, ren2, ren1, apSet, hf1, hf2, hf3, d2, d3, d3', d4]

theorem apSet_1 {F : Fr} {l key es : Nat} {rows : List (List PV)} (hl : H.length = l) : apSet (F :: H) (l, key) es rows = apF key es rows F :: H := by
  subst hl
  unfold apSet apF
  split
  · rfl
  · simp
theorem apF_ins_self {key es : Nat} {rows : List (List PV)} {F : Fr} {b : Blk} : (apF key es rows F).ins key b = F.ins key b := by
  unfold apF
  split
  · rfl
  · exact Fr.ins_ins _
theorem checkB_ok {g : GV} (r : Rite) (h : Short r) (hg : rdG H g (.agg r.row)) (hH : 0 < H.length) : gcall KC (geval KC) 15 [g] c H = some (.pure (.int .i64 (checkF r)), H) :=
  bor_flat KC rfl rfl (frz1 hg) rfl hH (fun H hH => check_ok0 (c := c) r h.s h.l h.p h.t h.a hH) rfl
theorem checkRB_ok {g : GV} (r : Rite) (h : Short r) (hg : rdG H g (.agg r.row)) (hH : 0 < H.length) : gcall KC (geval KC) 16 [g] c H = some (.pure (.int .i64 (checkF r)), H) :=
  bor_flat KC rfl rfl (frz1 hg) rfl hH (fun H hH => checkR_ok0 (c := c) r h.s h.l h.p h.t hH) rfl
end Go.Gh

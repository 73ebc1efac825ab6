/- The reference's scenes: neighbours, states, hands. -/
import Derived.Test.YtkcmcjohoockcaaRa
namespace Go.Gh
open Go.Proofs
set_option linter.unusedSimpArgs false
set_option linter.unusedVariables false
set_option maxRecDepth 100000
set_option maxHeartbeats 4000000
variable {c : Nat} {H : Heap}
noncomputable def nearV : Int → Int → Int → Bool := hid fun w a b =>
  (IntKind.i64.wrap (a.tmod w - b.tmod w) == 0 && (IntKind.i64.wrap (IntKind.i64.wrap (a.tdiv w) - IntKind.i64.wrap (b.tdiv w)) == 1 || IntKind.i64.wrap (IntKind.i64.wrap (a.tdiv w) - IntKind.i64.wrap (b.tdiv w)) == -1)) ||
  (IntKind.i64.wrap (IntKind.i64.wrap (a.tdiv w) - IntKind.i64.wrap (b.tdiv w)) == 0 && (IntKind.i64.wrap (a.tmod w - b.tmod w) == 1 || IntKind.i64.wrap (a.tmod w - b.tmod w) == -1))
theorem nearV_def (w a b : Int) : nearV w a b =
  ((IntKind.i64.wrap (a.tmod w - b.tmod w) == 0 && (IntKind.i64.wrap (IntKind.i64.wrap (a.tdiv w) - IntKind.i64.wrap (b.tdiv w)) == 1 || IntKind.i64.wrap (IntKind.i64.wrap (a.tdiv w) - IntKind.i64.wrap (b.tdiv w)) == -1)) ||
  (IntKind.i64.wrap (IntKind.i64.wrap (a.tdiv w) - IntKind.i64.wrap (b.tdiv w)) == 0 && (IntKind.i64.wrap (a.tmod w - b.tmod w) == 1 || IntKind.i64.wrap (a.tmod w - b.tmod w) == -1))) := by rw [nearV, hid_eq]
theorem nearR_ok {w d a b : Int} {x1 x2 x3 x4 x5 : PV} (hw : w ≠ 0) (hH : 0 < H.length) : gcall KC (geval KC) 83 [.pure (.agg [.int .i64 w, .int .i64 d, x1, x2, x3, x4, x5]), .pure (.int .i64 a), .pure (.int .i64 b)] c H = some (.pure (.bool (nearV w a b)), H) := by
  refine bor_c rfl rfl rfl rfl rfl hH fun H hH => ?_
  refine WPv_eq (call_enter0 KC needT Try.func83 rfl rfl good83 (by simp) hH ?_)
  have hd := nearV_def w a b
  generalize hx : IntKind.i64.wrap (a.tmod w - b.tmod w) = x at hd
  generalize hy : IntKind.i64.wrap (IntKind.i64.wrap (a.tdiv w) - IntKind.i64.wrap (b.tdiv w)) = y at hd
  by_cases x0 : x = 0
  · subst x0
    by_cases y1 : y = 1
    · subst y1
      simp at hd
      simp [hw, hx, hy, gleave_free, hd]
    · have y1' : (y == 1) = false := by simpa using y1
      by_cases y2 : y = -1
      · subst y2
        simp at hd
        simp [hw, hx, hy, gleave_free, hd]
      · have y2' : (y == -1) = false := by simpa using y2
        by_cases y0 : y = 0
        · subst y0
          simp at hd
          simp [hw, hx, hy, gleave_free, hd]
        · have y0' : (y == 0) = false := by simpa using y0
          simp [y1', y2', y0'] at hd
          simp [hw, hx, hy, y1', y2', y0', gleave_free, hd]
  · have x0' : (x == 0) = false := by simpa using x0
    by_cases y0 : y = 0
    · subst y0
      by_cases x1 : x = 1
      · subst x1
        simp at hd
        simp [hw, hx, hy, gleave_free, hd]
      · have x1' : (x == 1) = false := by simpa using x1
        by_cases x2 : x = -1
        · subst x2
          simp at hd
          simp [hw, hx, hy, gleave_free, hd]
        · have x2' : (x == -1) = false := by simpa using x2
          simp [x0', x1', x2'] at hd
          simp [hw, hx, hy, x0', x1', x2', gleave_free, hd]
    · have y0' : (y == 0) = false := by simpa using y0
      simp [x0', y0'] at hd
      simp [hw, hx, hy, x0', y0', gleave_free, hd]
def spot0 : Spot := ⟨0, 0⟩
noncomputable def hasV : List Spot → Int → Int → Bool := hid fun ts t st => decide (0 ≤ t) && ((IntKind.i64.wrap ((ts.getD t.toNat spot0).state.tdiv st)).tmod 2 == 1)
theorem hasV_def (ts : List Spot) (t st : Int) : hasV ts t st = (decide (0 ≤ t) && ((IntKind.i64.wrap ((ts.getD t.toNat spot0).state.tdiv st)).tmod 2 == 1)) := by rw [hasV, hid_eq]
theorem hasR_ok {ts : List Spot} {x1 x2 : PV} {t st : Int} (ht : t < ts.length) (hst : st ≠ 0) (hH : 0 < H.length) :
    gcall0 KC (geval KC) 84 [.pure (.agg [x1, x2, .slice (ts.map Spot.row)]), .pure (.int .i64 t), .pure (.int .i64 st)] c H = some (.pure (.bool (hasV ts t st)), H) := by
  refine WPv_eq (call_enter0 KC needT Try.func84 rfl rfl good84 (by simp) hH ?_)
  have hd := hasV_def ts t st
  by_cases h0 : 0 ≤ t
  · have hn : ¬ t < 0 := by omega
    have hl : t.toNat < ts.length := by omega
    have hg : ts.getD t.toNat spot0 = ts[t.toNat] := by simp [List.getD_eq_getElem?_getD, hl]
    rw [hg] at hd
    simp [h0] at hd
    simp [h0, hn, hl, hst, Spot.row, gleave_free, hd]
  · simp [h0] at hd
    simp [h0, gleave_free, hd]
theorem hasP_ok {ts : List Spot} {x1 x2 : PV} {t st : Int} (ht : t < ts.length) (hst : st ≠ 0) (hH : 0 < H.length) :
    gcall KC (geval KC) 84 [.pure (.agg [x1, x2, .slice (ts.map Spot.row)]), .pure (.int .i64 t), .pure (.int .i64 st)] c H = some (.pure (.bool (hasV ts t st)), H) := bor_c rfl rfl rfl rfl rfl hH fun H hH => hasR_ok ht hst hH
def hands0 : Hands := ⟨0, 0⟩
/-- The hand into which somebody takes what is given. -/
def takerV (hs : List Hands) (who : Nat) : Int := if (hs.getD who hands0).l = -1 then 0 else if (hs.getD who hands0).r = -1 then 1 else -1
theorem takerR_ok {hs : List Hands} {x1 x2 : PV} {who : Nat} (hw : who < hs.length) (hl : hs.length ≤ 1000000) (hH : 0 < H.length) :
    gcall0 KC (geval KC) 61 [.pure (.agg [x1, .slice (hs.map Hands.row), x2]), .pure (.int .i64 who)] c H = some (.pure (.int .i64 (takerV hs who)), H) := by
  refine WPv_eq (call_enter0 KC needT Try.func61 rfl rfl good61 (by simp) hH ?_)
  have hg : hs.getD who hands0 = hs[who] := by simp [List.getD_eq_getElem?_getD, hw]
  have hd : takerV hs who = if hs[who].l = -1 then 0 else if hs[who].r = -1 then 1 else -1 := by unfold takerV; rw [hg]
  have w2 : IntKind.i64.wrap 2 = 2 := rfl
  simp
  apply WPL_step
  conv => arg 4; whnf
  by_cases h1 : hs[who].l = -1
  · simp [h1] at hd
    simp [hw, Hands.row, h1, gleave_free, hd]
  · have h1' : (hs[who].l == -1) = false := by simpa using h1
    simp [h1] at hd
    simp [hw, Hands.row, h1']
    apply WPL_step
    conv => arg 4; whnf
    by_cases h2 : hs[who].r = -1
    · simp [h2] at hd
      simp [hw, Hands.row, h2, gleave_free, hd]
    · have h2' : (hs[who].r == -1) = false := by simpa using h2
      simp [h2] at hd
      simp [hw, Hands.row, h2', w2]
      apply WPL_step
      conv => arg 4; whnf
      simp [gleave_free, hd]
theorem takerP_ok {hs : List Hands} {x1 x2 : PV} {who : Nat} (hw : who < hs.length) (hl : hs.length ≤ 1000000) (hH : 0 < H.length) :
    gcall KC (geval KC) 61 [.pure (.agg [x1, .slice (hs.map Hands.row), x2]), .pure (.int .i64 who)] c H = some (.pure (.int .i64 (takerV hs who)), H) := bor_c rfl rfl rfl rfl rfl hH fun H hH => takerR_ok hw hl hH
end Go.Gh


/- The reference's scenes: which acts are possible (printed by gen11.py: the two hands alike). -/
namespace Go.Gh
open Go.Proofs
set_option linter.unusedSimpArgs false
set_option linter.unusedVariables false
set_option maxRecDepth 100000
set_option maxHeartbeats 4000000
variable {c : Nat} {H : Heap}
def heldV (s : Scene) (w : Nat) (hand : Int) : Int := if hand = 0 then (s.hands.getD w hands0).l else (s.hands.getD w hands0).r
def thing0 : Thing := ⟨0, 0, 0, 0, false⟩
/-- Whether an act is possible. -/
noncomputable def posV : Rite → Scene → Nat → RAct → Bool := hid fun r s w a =>
  if a.kind = 1 then !(s.people.contains a.cell) && nearV r.wide (s.people.getD w 0) a.cell
  else if a.kind = 2 then heldV s w a.hand == -1 && (s.things.getD a.thing.toNat spot0).cell == s.people.getD w 0
  else if a.kind = 3 then decide (0 ≤ heldV s w a.hand)
  else if a.kind = 4 then decide (0 ≤ heldV s w a.hand) && nearV r.wide (s.people.getD w 0) (s.people.getD a.other.toNat 0) && decide (0 ≤ takerV s.hands a.other.toNat)
  else if a.kind = 5 then decide (0 ≤ heldV s w a.hand) && (r.things.getD (heldV s w a.hand).toNat thing0).cloth && decide (0 ≤ heldV s w (1 - a.hand))
  else if a.kind = 6 then hasV s.things (heldV s w a.hand) 2 && !hasV s.things (heldV s w a.hand) 4 && decide (0 ≤ heldV s w (1 - a.hand)) && !hasV s.things (heldV s w (1 - a.hand)) 2 && !hasV s.things (heldV s w (1 - a.hand)) 4
  else if a.kind = 7 then decide (0 ≤ heldV s w a.hand) && !hasV s.things (heldV s w a.hand) 4
  else hasV s.things (heldV s w a.hand) 4
theorem posV_def (r : Rite) (s : Scene) (w : Nat) (a : RAct) : posV r s w a =
  if a.kind = 1 then !(s.people.contains a.cell) && nearV r.wide (s.people.getD w 0) a.cell
  else if a.kind = 2 then heldV s w a.hand == -1 && (s.things.getD a.thing.toNat spot0).cell == s.people.getD w 0
  else if a.kind = 3 then decide (0 ≤ heldV s w a.hand)
  else if a.kind = 4 then decide (0 ≤ heldV s w a.hand) && nearV r.wide (s.people.getD w 0) (s.people.getD a.other.toNat 0) && decide (0 ≤ takerV s.hands a.other.toNat)
  else if a.kind = 5 then decide (0 ≤ heldV s w a.hand) && (r.things.getD (heldV s w a.hand).toNat thing0).cloth && decide (0 ≤ heldV s w (1 - a.hand))
  else if a.kind = 6 then hasV s.things (heldV s w a.hand) 2 && !hasV s.things (heldV s w a.hand) 4 && decide (0 ≤ heldV s w (1 - a.hand)) && !hasV s.things (heldV s w (1 - a.hand)) 2 && !hasV s.things (heldV s w (1 - a.hand)) 4
  else if a.kind = 7 then decide (0 ≤ heldV s w a.hand) && !hasV s.things (heldV s w a.hand) 4
  else hasV s.things (heldV s w a.hand) 4 := by rw [posV, hid_eq]
def sbox (s : Scene) : Blk := .box [.pure (.slice (s.people.map irow)), .pure (.slice (s.hands.map Hands.row)), .pure (.slice (s.things.map Spot.row))]
theorem notIn_loop (r : Rite) (s : Scene) (hl : s.people.length ≤ 1000000) (cell q1 q2 kind hand thing other q3 q4 : Int) (Q : GX → GSt → Prop) (fr : Fr)
    (hfr : fr = [(3, rbox r), (4, sbox s), (5, .box [.pure (.int .i64 q1), .pure (.int .i64 q2), .pure (.int .i64 kind), .pure (.int .i64 hand), .pure (.int .i64 thing), .pure (.int .i64 cell), .pure (.int .i64 other), .pure (.int .i64 q3), .pure (.int .i64 q4)])]) :
    ∀ k i : Nat, i + k = s.people.length →
    ((s.people.drop i).contains cell = false → Q (.exit 1) ⟨[(3, .bptr (H.length, 3) 0), (4, .bptr (H.length, 4) 0), (5, .bptr (H.length, 5) 0), (6, gdead)], fr :: H, 165⟩) →
    ((s.people.drop i).contains cell = true → Q .ret ⟨[(3, .bptr (H.length, 3) 0), (4, .bptr (H.length, 4) 0), (5, .bptr (H.length, 5) 0), (6, .pure (.bool false))], fr :: H, 165⟩) →
    WPL KC needT 60 (lp Try.f60 0) [3, 4, 5, 9] [3, 4, 5, 6] Q
      [(3, .bptr (H.length, 3) 0), (4, .bptr (H.length, 4) 0), (5, .bptr (H.length, 5) 0), (9, .pure (.int .i64 i))] (fr :: H) 165 := by
  subst hfr
  intro k
  induction k with
  | zero =>
    intro i hi h1 h2
    have e1 : s.people.drop i = [] := List.drop_of_length_le (by omega)
    rw [e1] at h1
    apply WPL_step
    conv => arg 4; whnf
    have : ¬ i < s.people.length := by omega
    simp [this, rbox, sbox]
    simpa [rbox, sbox] using h1 rfl
  | succ k ih =>
    intro i hi h1 h2
    have hia : i < s.people.length := by omega
    have hw := w64 (x := (i : Int) + 1) (by omega) (by omega)
    have ih' := ih (i + 1) (by omega)
    rw [List.drop_eq_getElem_cons hia, List.contains_cons] at h1 h2
    apply WPL_step
    conv => arg 4; whnf
    by_cases he : s.people[i] = cell
    · have ht : (cell == s.people[i] || (s.people.drop (i + 1)).contains cell) = true := by simp [he]
      simp [hia, rbox, sbox, irow, he]
      simpa [rbox, sbox] using h2 ht
    · have he' : (s.people[i] == cell) = false := by simpa using he
      have he2 : (cell == s.people[i]) = false := by simpa using fun h => he h.symm
      rw [he2, Bool.false_or] at h1 h2
      simp [hia, rbox, sbox, irow, he', hw]
      simpa [rbox, sbox, irow] using ih' h1 h2
theorem possible0_ok {r : Rite} {s : Scene} {w : Nat} {q1 kind thing cell other q3 q4 : Int} (hw : w < s.people.length) (hwh : w < s.hands.length) (hhl : s.hands.length ≤ 1000000) (hpl : s.people.length ≤ 1000000) (hwide : r.wide ≠ 0)
    (hL : ∀ h : w < s.hands.length, s.hands[w].l < s.things.length ∧ s.hands[w].r < s.things.length ∧ -1 ≤ s.hands[w].l ∧ -1 ≤ s.hands[w].r) (htl : s.things.length = r.things.length)
    (h2 : kind = 2 → ∃ t : Nat, thing = t ∧ t < s.things.length) (h4 : kind = 4 → ∃ o : Nat, other = o ∧ o < s.people.length ∧ o < s.hands.length) (hH : 0 < H.length) :
    gcall0 KC (geval KC) 60 [.pure (.agg r.row), .pure (.agg s.row), .pure (.agg [.int .i64 q1, .int .i64 w, .int .i64 kind, .int .i64 0, .int .i64 thing, .int .i64 cell, .int .i64 other, .int .i64 q3, .int .i64 q4])] c H =
      some (.pure (.bool (posV r s w ⟨q1, w, kind, 0, thing, cell, other, q3, q4⟩)), H) := by
  refine WPv_eq (call_enter0 KC needT Try.func60 rfl rfl good60 (by simp) hH ?_)
  have hd := posV_def r s w ⟨q1, w, kind, 0, thing, cell, other, q3, q4⟩
  obtain ⟨l1, l2, l3, l4⟩ := hL hwh
  have hg : s.hands.getD w hands0 = s.hands[w] := by simp [List.getD_eq_getElem?_getD, hwh]
  have hp : s.people.getD w 0 = s.people[w] := by simp [List.getD_eq_getElem?_getD, hw]
  have e1 : heldV s w 0 = s.hands[w].l := by unfold heldV; rw [hg]; simp
  have e2 : heldV s w (1 - 0) = s.hands[w].r := by unfold heldV; rw [hg]; simp
  simp only [e1, e2, hp] at hd
  have wr : IntKind.i64.wrap (1 - 0) = 1 := rfl
  rw [rowR]
  simp only [Scene.row]
  have sw : (1 : Int) - 0 = 1 := rfl
  by_cases k1 : kind = 1
  · subst k1
    rw [if_pos rfl] at hd
    simp [hw, hwh, Hands.row, wr]
    have L := fun Q => notIn_loop (H := H) r s hpl cell q1 w 1 0 thing other q3 q4 Q _ rfl s.people.length 0 (by omega)
    simp only [rbox, sbox] at L
    refine L _ (fun z => ?_) (fun z => ?_)
    · have z' : s.people.contains cell = false := by simpa using z
      rw [z', Bool.not_false, Bool.true_and] at hd
      simp [hw, hwide, irow, nearR_ok, gleave_free, hd]
    · have z' : s.people.contains cell = true := by simpa using z
      rw [z', Bool.not_true, Bool.false_and] at hd
      simp [gleave_free, hd]
  have k1' : (kind == 1) = false := by simpa using k1
  by_cases k2 : kind = 2
  · subst k2
    obtain ⟨t, rfl, ht⟩ := h2 rfl
    have hgt : s.things.getD t spot0 = s.things[t] := by simp [List.getD_eq_getElem?_getD, ht]
    simp [hgt] at hd
    by_cases z1 : s.hands[w].l = -1
    · simp [z1] at hd
      simp [hw, hwh, Hands.row, wr, z1, ht, Spot.row, irow, gleave_free, hd]
    · have z1' : (s.hands[w].l == -1) = false := by simpa using z1
      simp [z1'] at hd
      simp [hw, hwh, Hands.row, wr, z1', gleave_free, hd]
  have k2' : (kind == 2) = false := by simpa using k2
  by_cases k3 : kind = 3
  · subst k3
    simp at hd
    simp [hw, hwh, Hands.row, wr, gleave_free, hd]
  have k3' : (kind == 3) = false := by simpa using k3
  by_cases k4 : kind = 4
  · subst k4
    obtain ⟨o, rfl, ho, ho2⟩ := h4 rfl
    have hgo : s.people.getD o 0 = s.people[o] := by simp [List.getD_eq_getElem?_getD, ho]
    simp [hgo] at hd
    by_cases z1 : 0 ≤ s.hands[w].l
    · cases z2 : nearV r.wide s.people[w] s.people[o] with
      | true =>
        simp [z1, z2] at hd
        simp [hw, hwh, Hands.row, wr, z1, ho, irow, nearR_ok, hwide, z2, takerP_ok, ho2, hhl, gleave_free, hd]
      | false =>
        simp [z1, z2] at hd
        simp [hw, hwh, Hands.row, wr, z1, ho, irow, nearR_ok, hwide, z2, gleave_free, hd]
    · simp [z1] at hd
      simp [hw, hwh, Hands.row, wr, z1, gleave_free, hd]
  have k4' : (kind == 4) = false := by simpa using k4
  by_cases k5 : kind = 5
  · subst k5
    simp at hd
    by_cases z1 : 0 ≤ s.hands[w].l
    · have n1 : ¬ s.hands[w].l < 0 := by omega
      have n2 : (s.hands[w].l).toNat < r.things.length := by omega
      have hgt : r.things[(s.hands[w].l).toNat]?.getD thing0 = r.things[(s.hands[w].l).toNat] := by simp [n2]
      rw [hgt] at hd
      cases z2 : r.things[(s.hands[w].l).toNat].cloth with
      | true =>
        simp [z1, z2] at hd
        simp [hw, hwh, Hands.row, wr, z1, n1, n2, Thing.row, z2, gleave_free, hd]
      | false =>
        simp [z1, z2] at hd
        simp [hw, hwh, Hands.row, wr, z1, n1, n2, Thing.row, z2, gleave_free, hd]
    · simp [z1] at hd
      simp [hw, hwh, Hands.row, wr, z1, gleave_free, hd]
  have k5' : (kind == 5) = false := by simpa using k5
  by_cases k6 : kind = 6
  · subst k6
    simp at hd
    have P := fun (t st : Int) (ht : t < s.things.length) (hst : st ≠ 0) (c : Nat) (H : Heap) (hH : 0 < H.length) => hasP_ok (c := c) (H := H) (ts := s.things) (x1 := .slice (s.people.map irow)) (x2 := .slice (s.hands.map Hands.row)) ht hst hH
    cases z1 : hasV s.things s.hands[w].l 2 with
    | false =>
      simp [z1] at hd
      simp [hw, hwh, Hands.row, wr, P, l1, l2, z1, gleave_free, hd]
    | true =>
    cases z2 : hasV s.things s.hands[w].l 4 with
    | true =>
      simp [z1, z2] at hd
      simp [hw, hwh, Hands.row, wr, P, l1, l2, z1, z2, gleave_free, hd]
    | false =>
    by_cases z3 : 0 ≤ s.hands[w].r
    · cases z4 : hasV s.things s.hands[w].r 2 with
      | true =>
        simp [z1, z2, z3, z4] at hd
        simp [hw, hwh, Hands.row, wr, P, l1, l2, z1, z2, z3, z4, gleave_free, hd]
      | false =>
        simp [z1, z2, z3, z4] at hd
        simp [hw, hwh, Hands.row, wr, P, l1, l2, z1, z2, z3, z4, gleave_free, hd]
    · simp [z1, z2, z3] at hd
      simp [hw, hwh, Hands.row, wr, P, l1, l2, z1, z2, z3, gleave_free, hd]
  have k6' : (kind == 6) = false := by simpa using k6
  have P := fun (t st : Int) (ht : t < s.things.length) (hst : st ≠ 0) (c : Nat) (H : Heap) (hH : 0 < H.length) => hasP_ok (c := c) (H := H) (ts := s.things) (x1 := .slice (s.people.map irow)) (x2 := .slice (s.hands.map Hands.row)) ht hst hH
  by_cases k7 : kind = 7
  · subst k7
    simp at hd
    by_cases z1 : 0 ≤ s.hands[w].l
    · simp [z1] at hd
      simp [hw, hwh, Hands.row, wr, P, l1, l2, z1, gleave_free, hd]
    · simp [z1] at hd
      simp [hw, hwh, Hands.row, wr, z1, gleave_free, hd]
  have k7' : (kind == 7) = false := by simpa using k7
  simp only [k1, k2, k3, k4, k5, k6, k7, if_false] at hd
  simp [hw, hwh, Hands.row, wr, P, l1, l2, k1', k2', k3', k4', k5', k6', k7', gleave_free, hd]
theorem possible1_ok {r : Rite} {s : Scene} {w : Nat} {q1 kind thing cell other q3 q4 : Int} (hw : w < s.people.length) (hwh : w < s.hands.length) (hhl : s.hands.length ≤ 1000000) (hpl : s.people.length ≤ 1000000) (hwide : r.wide ≠ 0)
    (hL : ∀ h : w < s.hands.length, s.hands[w].l < s.things.length ∧ s.hands[w].r < s.things.length ∧ -1 ≤ s.hands[w].l ∧ -1 ≤ s.hands[w].r) (htl : s.things.length = r.things.length)
    (h2 : kind = 2 → ∃ t : Nat, thing = t ∧ t < s.things.length) (h4 : kind = 4 → ∃ o : Nat, other = o ∧ o < s.people.length ∧ o < s.hands.length) (hH : 0 < H.length) :
    gcall0 KC (geval KC) 60 [.pure (.agg r.row), .pure (.agg s.row), .pure (.agg [.int .i64 q1, .int .i64 w, .int .i64 kind, .int .i64 1, .int .i64 thing, .int .i64 cell, .int .i64 other, .int .i64 q3, .int .i64 q4])] c H =
      some (.pure (.bool (posV r s w ⟨q1, w, kind, 1, thing, cell, other, q3, q4⟩)), H) := by
  refine WPv_eq (call_enter0 KC needT Try.func60 rfl rfl good60 (by simp) hH ?_)
  have hd := posV_def r s w ⟨q1, w, kind, 1, thing, cell, other, q3, q4⟩
  obtain ⟨l1, l2, l3, l4⟩ := hL hwh
  have hg : s.hands.getD w hands0 = s.hands[w] := by simp [List.getD_eq_getElem?_getD, hwh]
  have hp : s.people.getD w 0 = s.people[w] := by simp [List.getD_eq_getElem?_getD, hw]
  have e1 : heldV s w 1 = s.hands[w].r := by unfold heldV; rw [hg]; simp
  have e2 : heldV s w (1 - 1) = s.hands[w].l := by unfold heldV; rw [hg]; simp
  simp only [e1, e2, hp] at hd
  have wr : IntKind.i64.wrap (1 - 1) = 0 := rfl
  rw [rowR]
  simp only [Scene.row]
  have sw : (1 : Int) - 1 = 0 := rfl
  by_cases k1 : kind = 1
  · subst k1
    rw [if_pos rfl] at hd
    simp [hw, hwh, Hands.row, wr]
    have L := fun Q => notIn_loop (H := H) r s hpl cell q1 w 1 1 thing other q3 q4 Q _ rfl s.people.length 0 (by omega)
    simp only [rbox, sbox] at L
    refine L _ (fun z => ?_) (fun z => ?_)
    · have z' : s.people.contains cell = false := by simpa using z
      rw [z', Bool.not_false, Bool.true_and] at hd
      simp [hw, hwide, irow, nearR_ok, gleave_free, hd]
    · have z' : s.people.contains cell = true := by simpa using z
      rw [z', Bool.not_true, Bool.false_and] at hd
      simp [gleave_free, hd]
  have k1' : (kind == 1) = false := by simpa using k1
  by_cases k2 : kind = 2
  · subst k2
    obtain ⟨t, rfl, ht⟩ := h2 rfl
    have hgt : s.things.getD t spot0 = s.things[t] := by simp [List.getD_eq_getElem?_getD, ht]
    simp [hgt] at hd
    by_cases z1 : s.hands[w].r = -1
    · simp [z1] at hd
      simp [hw, hwh, Hands.row, wr, z1, ht, Spot.row, irow, gleave_free, hd]
    · have z1' : (s.hands[w].r == -1) = false := by simpa using z1
      simp [z1'] at hd
      simp [hw, hwh, Hands.row, wr, z1', gleave_free, hd]
  have k2' : (kind == 2) = false := by simpa using k2
  by_cases k3 : kind = 3
  · subst k3
    simp at hd
    simp [hw, hwh, Hands.row, wr, gleave_free, hd]
  have k3' : (kind == 3) = false := by simpa using k3
  by_cases k4 : kind = 4
  · subst k4
    obtain ⟨o, rfl, ho, ho2⟩ := h4 rfl
    have hgo : s.people.getD o 0 = s.people[o] := by simp [List.getD_eq_getElem?_getD, ho]
    simp [hgo] at hd
    by_cases z1 : 0 ≤ s.hands[w].r
    · cases z2 : nearV r.wide s.people[w] s.people[o] with
      | true =>
        simp [z1, z2] at hd
        simp [hw, hwh, Hands.row, wr, z1, ho, irow, nearR_ok, hwide, z2, takerP_ok, ho2, hhl, gleave_free, hd]
      | false =>
        simp [z1, z2] at hd
        simp [hw, hwh, Hands.row, wr, z1, ho, irow, nearR_ok, hwide, z2, gleave_free, hd]
    · simp [z1] at hd
      simp [hw, hwh, Hands.row, wr, z1, gleave_free, hd]
  have k4' : (kind == 4) = false := by simpa using k4
  by_cases k5 : kind = 5
  · subst k5
    simp at hd
    by_cases z1 : 0 ≤ s.hands[w].r
    · have n1 : ¬ s.hands[w].r < 0 := by omega
      have n2 : (s.hands[w].r).toNat < r.things.length := by omega
      have hgt : r.things[(s.hands[w].r).toNat]?.getD thing0 = r.things[(s.hands[w].r).toNat] := by simp [n2]
      rw [hgt] at hd
      cases z2 : r.things[(s.hands[w].r).toNat].cloth with
      | true =>
        simp [z1, z2] at hd
        simp [hw, hwh, Hands.row, wr, z1, n1, n2, Thing.row, z2, gleave_free, hd]
      | false =>
        simp [z1, z2] at hd
        simp [hw, hwh, Hands.row, wr, z1, n1, n2, Thing.row, z2, gleave_free, hd]
    · simp [z1] at hd
      simp [hw, hwh, Hands.row, wr, z1, gleave_free, hd]
  have k5' : (kind == 5) = false := by simpa using k5
  by_cases k6 : kind = 6
  · subst k6
    simp at hd
    have P := fun (t st : Int) (ht : t < s.things.length) (hst : st ≠ 0) (c : Nat) (H : Heap) (hH : 0 < H.length) => hasP_ok (c := c) (H := H) (ts := s.things) (x1 := .slice (s.people.map irow)) (x2 := .slice (s.hands.map Hands.row)) ht hst hH
    cases z1 : hasV s.things s.hands[w].r 2 with
    | false =>
      simp [z1] at hd
      simp [hw, hwh, Hands.row, wr, P, l1, l2, z1, gleave_free, hd]
    | true =>
    cases z2 : hasV s.things s.hands[w].r 4 with
    | true =>
      simp [z1, z2] at hd
      simp [hw, hwh, Hands.row, wr, P, l1, l2, z1, z2, gleave_free, hd]
    | false =>
    by_cases z3 : 0 ≤ s.hands[w].l
    · cases z4 : hasV s.things s.hands[w].l 2 with
      | true =>
        simp [z1, z2, z3, z4] at hd
        simp [hw, hwh, Hands.row, wr, P, l1, l2, z1, z2, z3, z4, gleave_free, hd]
      | false =>
        simp [z1, z2, z3, z4] at hd
        simp [hw, hwh, Hands.row, wr, P, l1, l2, z1, z2, z3, z4, gleave_free, hd]
    · simp [z1, z2, z3] at hd
      simp [hw, hwh, Hands.row, wr, P, l1, l2, z1, z2, z3, gleave_free, hd]
  have k6' : (kind == 6) = false := by simpa using k6
  have P := fun (t st : Int) (ht : t < s.things.length) (hst : st ≠ 0) (c : Nat) (H : Heap) (hH : 0 < H.length) => hasP_ok (c := c) (H := H) (ts := s.things) (x1 := .slice (s.people.map irow)) (x2 := .slice (s.hands.map Hands.row)) ht hst hH
  by_cases k7 : kind = 7
  · subst k7
    simp at hd
    by_cases z1 : 0 ≤ s.hands[w].r
    · simp [z1] at hd
      simp [hw, hwh, Hands.row, wr, P, l1, l2, z1, gleave_free, hd]
    · simp [z1] at hd
      simp [hw, hwh, Hands.row, wr, z1, gleave_free, hd]
  have k7' : (kind == 7) = false := by simpa using k7
  simp only [k1, k2, k3, k4, k5, k6, k7, if_false] at hd
  simp [hw, hwh, Hands.row, wr, P, l1, l2, k1', k2', k3', k4', k5', k6', k7', gleave_free, hd]
end Go.Gh


/- All acts that a person may do. -/
namespace Go.Gh
open Go.Proofs
set_option linter.unusedSimpArgs false
set_option linter.unusedVariables false
set_option maxRecDepth 100000
set_option maxHeartbeats 4000000
variable {c : Nat} {H : Heap}
def act1 (who kind hand thing cell other : Int) : RAct := ⟨0, who, kind, hand, thing, cell, other, 0, 0⟩
def stepL (who : Int) (k i : Nat) : List RAct := (List.range' i k).map fun (x : Nat) => act1 who 1 0 0 x 0
def thingL (who hand : Int) (k i : Nat) : List RAct := (List.range' i k).map fun (x : Nat) => act1 who 2 hand x 0 0
def otherL (who hand : Int) (k i : Nat) : List RAct := ((List.range' i k).filter fun (x : Nat) => !((x : Int) == who)).map fun (x : Nat) => act1 who 4 hand 0 0 x
def kindL (nt np : Nat) (who : Int) (kind : Nat) (hand : Int) : List RAct := if kind = 2 then thingL who hand nt 0 else if kind = 4 then otherL who hand np 0 else [act1 who kind hand 0 0 0]
def bothL (nt np : Nat) (who : Int) (kind : Nat) : List RAct := kindL nt np who kind 0 ++ kindL nt np who kind 1
def kindsL (nt np : Nat) (who : Int) (k i : Nat) : List RAct := (List.range' i k).flatMap (bothL nt np who)
def everyL (n nt np : Nat) (who : Int) : List RAct := stepL who n 0 ++ kindsL nt np who 7 2
theorem stepL_succ (who : Int) (k i : Nat) : stepL who (k + 1) i = act1 who 1 0 0 i 0 :: stepL who k (i + 1) := by simp [stepL, List.range'_succ]
theorem thingL_succ (who hand : Int) (k i : Nat) : thingL who hand (k + 1) i = act1 who 2 hand i 0 0 :: thingL who hand k (i + 1) := by simp [thingL, List.range'_succ]
theorem otherL_succ (who hand : Int) (k i : Nat) : otherL who hand (k + 1) i = if (i : Int) = who then otherL who hand k (i + 1) else act1 who 4 hand 0 0 i :: otherL who hand k (i + 1) := by
  by_cases h : (i : Int) = who
  · simp [otherL, List.range'_succ, h]
  · simp [otherL, List.range'_succ, h]
theorem kindsL_succ (nt np : Nat) (who : Int) (k i : Nat) : kindsL nt np who (k + 1) i = bothL nt np who i ++ kindsL nt np who k (i + 1) := by simp [kindsL, List.range'_succ]
theorem thingL_len (who hand : Int) (k i : Nat) : (thingL who hand k i).length = k := by simp [thingL]
theorem otherL_len (who hand : Int) (k i : Nat) : (otherL who hand k i).length ≤ k := by
  simp only [otherL, List.length_map]
  exact Nat.le_trans (List.length_filter_le _ _) (by simp)
theorem kindL_len (nt np : Nat) (who : Int) (kind : Nat) (hand : Int) : (kindL nt np who kind hand).length ≤ nt + np + 1 := by
  have := otherL_len who hand np 0
  have := thingL_len who hand nt 0
  unfold kindL
  split
  · omega
  · split
    · omega
    · simp
theorem bothL_len (nt np : Nat) (who : Int) (kind : Nat) : (bothL nt np who kind).length ≤ 2 * (nt + np + 1) := by
  have := kindL_len nt np who kind 0
  have := kindL_len nt np who kind 1
  simp only [bothL, List.length_append]; omega
/-- The list of acts in a function's frame. -/
def evF (r : Rite) (l : List RAct) : Fr := [(2, rbox r), (26, .arr 9 (l.map RAct.row) 0 false)]
def evH (L : Nat) (l : List RAct) : GV := .hdr (L, 26) 9 l.length 0 l.length
theorem evThing (r : Rite) (who hand : Int) (nt : Nat) (hnt : r.things.length = nt) (hb : nt ≤ 1000000) (Q : GX → GSt → Prop) : ∀ (k i : Nat) (l : List RAct) (x : Int), i + k = nt → l.length + k ≤ 100000000 →
    (∀ y, Q (.exit 7) ⟨[(1, .pure (.int .i64 who)), (2, .bptr (H.length, 2) 0), (5, evH H.length (l ++ thingL who hand k i)), (7, .pure (.int .i64 2)), (8, .pure (.int .i64 hand))], [(9, abox (act1 who 2 hand y 0 0))] :: [] :: evF r (l ++ thingL who hand k i) :: H, 78⟩) →
    WPL KC needT 59 (lp Try.f59 3) [1, 2, 5, 7, 8, 9, 10] [1, 2, 5, 7, 8] Q
      [(1, .pure (.int .i64 who)), (2, .bptr (H.length, 2) 0), (5, evH H.length l), (7, .pure (.int .i64 2)), (8, .pure (.int .i64 hand)), (9, .bptr (H.length + 2, 9) 0), (10, .pure (.int .i64 i))]
      ([(9, abox (act1 who 2 hand x 0 0))] :: [] :: evF r l :: H) 78 := by
  intro k
  induction k with
  | zero =>
    intro i l x hi hl h1
    have e0 : thingL who hand 0 i = [] := rfl
    rw [e0, List.append_nil] at h1
    have : ¬ i < nt := by omega
    apply WPL_step
    conv => arg 4; whnf
    simp [evF, evH, rbox, abox, act1, hnt, this]
    simpa [evF, evH, rbox, abox, act1] using h1 x
  | succ k ih =>
    intro i l x hi hl h1
    have hia : i < nt := by omega
    have hw := w64 (x := (i : Int) + 1) (by omega) (by omega)
    rw [thingL_succ] at h1
    have ih' := ih (i + 1) (l ++ [act1 who 2 hand i 0 0]) i (by omega) (by simp; omega)
    simp only [List.append_assoc, List.singleton_append] at ih'
    have hb2 : (l.length + 1) * 72 ≤ 1099511627776 := by omega
    apply WPL_step
    conv => arg 4; whnf
    simp [evF, evH, rbox, abox, act1, hnt, hia, hw, hb2]
    have := ih' h1
    simpa [evF, evH, rbox, abox, act1, RAct.row] using this
theorem evOther (r : Rite) (who hand : Int) (np : Nat) (hnp : r.people.length = np) (hb : np ≤ 1000000) (Q : GX → GSt → Prop) : ∀ (k i : Nat) (l : List RAct) (x : Int), i + k = np → l.length + k ≤ 100000000 → l ≠ [] →
    (∀ y, Q (.exit 9) ⟨[(1, .pure (.int .i64 who)), (2, .bptr (H.length, 2) 0), (5, evH H.length (l ++ otherL who hand k i)), (7, .pure (.int .i64 4)), (8, .pure (.int .i64 hand))], [(9, abox (act1 who 4 hand 0 0 y))] :: [] :: evF r (l ++ otherL who hand k i) :: H, 78⟩) →
    WPL KC needT 59 (lp Try.f59 4) [1, 2, 5, 7, 8, 9, 11] [1, 2, 5, 7, 8] Q
      [(1, .pure (.int .i64 who)), (2, .bptr (H.length, 2) 0), (5, evH H.length l), (7, .pure (.int .i64 4)), (8, .pure (.int .i64 hand)), (9, .bptr (H.length + 2, 9) 0), (11, .pure (.int .i64 i))]
      ([(9, abox (act1 who 4 hand 0 0 x))] :: [] :: evF r l :: H) 78 := by
  intro k
  induction k with
  | zero =>
    intro i l x hi hl hne h1
    have e0 : otherL who hand 0 i = [] := rfl
    rw [e0, List.append_nil] at h1
    have : ¬ i < np := by omega
    apply WPL_step
    conv => arg 4; whnf
    simp [evF, evH, rbox, abox, act1, hnp, this]
    simpa [evF, evH, rbox, abox, act1] using h1 x
  | succ k ih =>
    intro i l x hi hl hne h1
    have hia : i < np := by omega
    have hw := w64 (x := (i : Int) + 1) (by omega) (by omega)
    rw [otherL_succ] at h1
    have hb2 : (l.length + 1) * 72 ≤ 1099511627776 := by omega
    by_cases hwho : (i : Int) = who
    · rw [if_pos hwho] at h1
      have ih' := ih (i + 1) l i (by omega) (by omega) hne h1
      apply WPL_step
      conv => arg 4; whnf
      have hwho' : ((i : Int) == who) = true := by simpa using hwho
      simp [evF, evH, rbox, abox, act1, hnp, hia, hw, hb2, bne, hwho']
      simpa [evF, evH, rbox, abox, act1, RAct.row] using ih'
    · rw [if_neg hwho] at h1
      have ih' := ih (i + 1) (l ++ [act1 who 4 hand 0 0 i]) i (by omega) (by simp; omega) (by simp)
      simp only [List.append_assoc, List.singleton_append] at ih'
      have hwho' : ((i : Int) == who) = false := by simpa using hwho
      apply WPL_step
      conv => arg 4; whnf
      simp [evF, evH, rbox, abox, act1, hnp, hia, hw, hb2, bne, hwho']
      have := ih' h1
      simpa [evF, evH, rbox, abox, act1, RAct.row] using this
/-- A hand's round. -/
theorem evRound (r : Rite) (who hand : Int) (kind : Nat) (hh : hand = 0 ∨ hand = 1) (hk : 2 ≤ kind ∧ kind ≤ 8) (nt np : Nat) (hnt : r.things.length = nt) (hnp : r.people.length = np) (hb1 : nt ≤ 1000000) (hb2 : np ≤ 1000000)
    (Q : GX → GSt → Prop) (l : List RAct) (hl : l.length ≤ 50000000) (hne : l ≠ [])
    (h : WPL KC needT 59 (lp Try.f59 2) [1, 2, 5, 7, 8] [1, 2, 5, 7] Q
      [(1, .pure (.int .i64 who)), (2, .bptr (H.length, 2) 0), (5, evH H.length (l ++ kindL nt np who kind hand)), (7, .pure (.int .i64 kind)), (8, .pure (.int .i64 (hand + 1)))] ([] :: evF r (l ++ kindL nt np who kind hand) :: H) 78) :
    WPL KC needT 59 (lp Try.f59 2) [1, 2, 5, 7, 8] [1, 2, 5, 7] Q
      [(1, .pure (.int .i64 who)), (2, .bptr (H.length, 2) 0), (5, evH H.length l), (7, .pure (.int .i64 kind)), (8, .pure (.int .i64 hand))] ([] :: evF r l :: H) 78 := by
  have hw := w64 (x := hand + 1) (by omega) (by omega)
  have hlt : hand < 2 := by omega
  have hb3 : (l.length + 1) * 72 ≤ 1099511627776 := by omega
  have w2 : IntKind.i64.wrap 2 = 2 := rfl
  apply WPL_step
  conv => arg 4; whnf
  by_cases k2 : kind = 2
  · subst k2
    have e : kindL nt np who 2 hand = thingL who hand nt 0 := by simp [kindL]
    rw [e] at h
    have L := fun Q h => evThing (H := H) r who hand nt hnt hb1 Q nt 0 l 0 (by omega) (by omega) h
    simp [evF, evH, rbox, abox, act1] at L h
    simp [evF, evH, rbox, hlt]
    refine L _ fun y => ?_
    simp [hw]
    exact h
  · by_cases k4 : kind = 4
    · subst k4
      have e : kindL nt np who 4 hand = otherL who hand np 0 := by simp [kindL]
      rw [e] at h
      have L := fun Q h => evOther (H := H) r who hand np hnp hb2 Q np 0 l 0 (by omega) (by omega) hne h
      simp [evF, evH, rbox, abox, act1] at L h
      simp [evF, evH, rbox, hlt]
      refine L _ fun y => ?_
      simp [hw]
      exact h
    · have e : kindL nt np who kind hand = [act1 who kind hand 0 0 0] := by simp [kindL, k2, k4]
      rw [e] at h
      have k2' : ((kind : Int) == 2) = false := by simp; omega
      have k4' : ((kind : Int) == 4) = false := by simp; omega
      simp [evF, evH, rbox, act1, RAct.row] at h
      simp [evF, evH, rbox, hlt, k2', k4', hb3, hw]
      exact h
/-- A kind's round. -/
theorem evHands (r : Rite) (who : Int) (kind : Nat) (hk : 2 ≤ kind ∧ kind ≤ 8) (nt np : Nat) (hnt : r.things.length = nt) (hnp : r.people.length = np) (hb1 : nt ≤ 1000000) (hb2 : np ≤ 1000000)
    (Q : GX → GSt → Prop) (l : List RAct) (hl : l.length ≤ 40000000) (hne : l ≠ [])
    (h : Q (.exit 4) ⟨[(1, .pure (.int .i64 who)), (2, .bptr (H.length, 2) 0), (5, evH H.length (l ++ bothL nt np who kind)), (7, .pure (.int .i64 kind))], [] :: evF r (l ++ bothL nt np who kind) :: H, 78⟩) :
    WPL KC needT 59 (lp Try.f59 2) [1, 2, 5, 7, 8] [1, 2, 5, 7] Q
      [(1, .pure (.int .i64 who)), (2, .bptr (H.length, 2) 0), (5, evH H.length l), (7, .pure (.int .i64 kind)), (8, .pure (.int .i64 0))] ([] :: evF r l :: H) 78 := by
  have l0 := kindL_len nt np who kind 0
  refine evRound r who 0 kind (.inl rfl) hk nt np hnt hnp hb1 hb2 Q l (by omega) hne ?_
  refine evRound r who 1 kind (.inr rfl) hk nt np hnt hnp hb1 hb2 Q _ (by simp; omega) (by simp [hne]) ?_
  rw [bothL, ← List.append_assoc] at h
  apply WPL_step
  conv => arg 4; whnf
  simp [evF, evH] at h ⊢
  exact h
theorem evKinds (r : Rite) (who : Int) (nt np : Nat) (hnt : r.things.length = nt) (hnp : r.people.length = np) (hb1 : nt ≤ 1000000) (hb2 : np ≤ 1000000)
    (Q : GX → GSt → Prop) : ∀ (k i : Nat) (l : List RAct), i + k = 9 → 2 ≤ i → l.length + 5000000 * k ≤ 39000000 → l ≠ [] →
    Q (.exit 2) ⟨[(5, evH H.length (l ++ kindsL nt np who k i))], evF r (l ++ kindsL nt np who k i) :: H, 78⟩ →
    WPL KC needT 59 (lp Try.f59 1) [1, 2, 5, 7] [5] Q
      [(1, .pure (.int .i64 who)), (2, .bptr (H.length, 2) 0), (5, evH H.length l), (7, .pure (.int .i64 i))] (evF r l :: H) 78 := by
  intro k
  induction k with
  | zero =>
    intro i l hi h2 hl hne h1
    have e0 : kindsL nt np who 0 i = [] := rfl
    rw [e0, List.append_nil] at h1
    have : i = 9 := by omega
    subst this
    apply WPL_step
    conv => arg 4; whnf
    simp [evF, evH] at h1 ⊢
    exact h1
  | succ k ih =>
    intro i l hi h2 hl hne h1
    have hw := w64 (x := (i : Int) + 1) (by omega) (by omega)
    have hle : (i : Int) ≤ 8 := by omega
    rw [kindsL_succ, ← List.append_assoc] at h1
    have lb := bothL_len nt np who i
    have ih' := ih (i + 1) (l ++ bothL nt np who i) (by omega) (by omega) (by simp; omega) (by simp [hne]) h1
    apply WPL_step
    conv => arg 4; whnf
    have L := fun Q h => evHands (H := H) r who i (by omega) nt np hnt hnp hb1 hb2 Q l (by omega) hne h
    simp [evF, evH] at L ih'
    simp [evF, evH, hle]
    refine L _ ?_
    simp [hw]
    exact ih'
theorem evSteps (r : Rite) (who : Int) (n : Nat) (hn : IntKind.i64.wrap (r.wide * r.deep) = n) (hb : n ≤ 1000000) (Q : GX → GSt → Prop) : ∀ (k i : Nat) (l : List RAct), i + k = n → l.length + k ≤ 1000000 →
    Q (.exit 0) ⟨[(1, .pure (.int .i64 who)), (2, .bptr (H.length, 2) 0), (5, apS (H.length, 26) 9 ((l ++ stepL who k i).map RAct.row))], apF 26 9 ((l ++ stepL who k i).map RAct.row) [(2, rbox r)] :: H, 78⟩ →
    WPL KC needT 59 (lp Try.f59 0) [1, 2, 5, 6] [1, 2, 5] Q
      [(1, .pure (.int .i64 who)), (2, .bptr (H.length, 2) 0), (5, apS (H.length, 26) 9 (l.map RAct.row)), (6, .pure (.int .i64 i))] (apF 26 9 (l.map RAct.row) [(2, rbox r)] :: H) 78 := by
  intro k
  induction k with
  | zero =>
    intro i l hi hl h1
    have e0 : stepL who 0 i = [] := rfl
    rw [e0, List.append_nil] at h1
    have : ¬ i < n := by omega
    apply WPL_step
    conv => arg 4; whnf
    simp [rbox, hn, this]
    simpa [rbox] using h1
  | succ k ih =>
    intro i l hi hl h1
    have hia : i < n := by omega
    have hw := w64 (x := (i : Int) + 1) (by omega) (by omega)
    rw [stepL_succ] at h1
    have ih' := ih (i + 1) (l ++ [act1 who 1 0 0 i 0]) (by omega) (by simp; omega)
    simp only [List.append_assoc, List.singleton_append] at ih'
    have hb2 : (l.length + 1) * 72 ≤ 1099511627776 := by omega
    apply WPL_step
    conv => arg 4; whnf
    simp [rbox, hn, hia, hw, hb2, Fr.get]
    have := ih' h1
    simpa [rbox, act1, RAct.row] using this
theorem every_ok (r : Rite) (who : Int) (n nt np : Nat) (hn : IntKind.i64.wrap (r.wide * r.deep) = n) (hn0 : 0 < n) (hb : n ≤ 1000000) (hnt : r.things.length = nt) (hnp : r.people.length = np) (hb1 : nt ≤ 1000000) (hb2 : np ≤ 1000000) (hH : 0 < H.length) :
    gcall KC (geval KC) 59 [.pure (.agg r.row), .pure (.int .i64 who)] c H = some (.pure (.slice ((everyL n nt np who).map RAct.row)), H) := by
  refine WPv_eq ?_
  rw [show gcall KC (geval KC) 59 [.pure (.agg r.row), .pure (.int .i64 who)] c H = gcall0 KC (geval KC) 59 [.pure (.agg r.row), .pure (.int .i64 who)] c H from gcall_plain KC rfl rfl rfl]
  refine call_enter0 KC needT Try.func59 rfl rfl good59 (by simp) hH ?_
  rw [rowR]
  simp
  have L := fun Q h => evSteps (H := H) r who n hn hb Q n 0 [] (by omega) (by simp; omega) h
  simp [apS_nil, apF_nil, rbox] at L
  refine L _ ?_
  have hne : stepL who n 0 ≠ [] := by
    obtain ⟨m, rfl⟩ : ∃ m, n = m + 1 := ⟨n - 1, by omega⟩
    rw [stepL_succ]; simp
  have hlen : (stepL who n 0).length = n := by simp [stepL]
  have L2 := fun Q h => evKinds (H := H) r who nt np hnt hnp hb1 hb2 Q 7 2 (stepL who n 0) rfl (by omega) (by omega) hne h
  simp [evF, evH, rbox] at L2
  simp [apS, apF, hne, Fr.ins]
  refine L2 _ ?_
  have e : everyL n nt np who = stepL who n 0 ++ kindsL nt np who 7 2 := rfl
  have hnl : ¬ H.length ≤ H.length - 1 := by omega
  have t1 : List.take ((stepL who n 0).length + (kindsL nt np who 7 2).length) (List.map RAct.row (stepL who n 0) ++ List.map RAct.row (kindsL nt np who 7 2)) = List.map RAct.row (stepL who n 0) ++ List.map RAct.row (kindsL nt np who 7 2) := List.take_of_length_le (by simp)
  simp [gleave_free, e, hne, hnl, t1]
end Go.Gh


/- An act that might be done. -/
namespace Go.Gh
open Go.Proofs
set_option linter.unusedSimpArgs false
set_option linter.unusedVariables false
set_option maxRecDepth 100000
set_option maxHeartbeats 4000000
variable {c : Nat} {H : Heap}
structure ScB (r : Rite) (s : Scene) : Prop where
  pl : s.people.length = r.people.length
  hl : s.hands.length = r.people.length
  tl : s.things.length = r.things.length
  hr : ∀ i (h : i < s.hands.length), s.hands[i].l < s.things.length ∧ s.hands[i].r < s.things.length ∧ -1 ≤ s.hands[i].l ∧ -1 ≤ s.hands[i].r
structure EvB (np nt w : Nat) (a : RAct) : Prop where
  who : a.who = w
  hand : a.hand = 0 ∨ a.hand = 1
  thing : a.kind = 2 → ∃ t : Nat, a.thing = t ∧ t < nt
  other : a.kind = 4 → ∃ o : Nat, a.other = o ∧ o < np
theorem everyL_ok {n nt np w : Nat} {a : RAct} (h : a ∈ everyL n nt np w) : EvB np nt w a := by
  have one : ∀ hand kind : Nat, (hand = 0 ∨ hand = 1) → a ∈ kindL nt np w kind hand → EvB np nt w a := fun hand kind hh ha => by
    have hh' : (hand : Int) = 0 ∨ (hand : Int) = 1 := by omega
    unfold kindL at ha
    split at ha
    · simp only [thingL, List.mem_map, List.mem_range'] at ha
      obtain ⟨x, ⟨i, hi, rfl⟩, rfl⟩ := ha
      exact ⟨rfl, hh', fun _ => ⟨_, rfl, by omega⟩, fun h => by simp [act1] at h⟩
    · split at ha
      · simp only [otherL, List.mem_map, List.mem_filter, List.mem_range'] at ha
        obtain ⟨x, ⟨⟨i, hi, rfl⟩, _⟩, rfl⟩ := ha
        exact ⟨rfl, hh', fun h => by simp [act1] at h, fun _ => ⟨_, rfl, by omega⟩⟩
      · rename_i k2 k4
        simp only [List.mem_singleton] at ha
        subst ha
        exact ⟨rfl, hh', fun h => by simp [act1] at h; omega, fun h => by simp [act1] at h; omega⟩
  simp only [everyL, List.mem_append] at h
  rcases h with h | h
  · simp only [stepL, List.mem_map, List.mem_range'] at h
    obtain ⟨x, ⟨i, hi, rfl⟩, rfl⟩ := h
    exact ⟨rfl, .inl rfl, fun h => by simp [act1] at h, fun h => by simp [act1] at h⟩
  · simp only [kindsL, List.mem_flatMap, bothL, List.mem_append] at h
    obtain ⟨k, _, h | h⟩ := h
    · exact one 0 k (.inl rfl) h
    · exact one 1 k (.inr rfl) h
theorem everyL_len (n nt np : Nat) (who : Int) : (everyL n nt np who).length ≤ n + 14 * (nt + np + 1) := by
  have h : ∀ k i, (kindsL nt np who k i).length ≤ k * (2 * (nt + np + 1)) := by
    intro k
    induction k with
    | zero => intro i; simp [kindsL]
    | succ k ih =>
      intro i
      rw [kindsL_succ, List.length_append, Nat.add_mul]
      have := bothL_len nt np who i
      have := ih (i + 1)
      omega
  have := h 7 2
  simp only [everyL, List.length_append, stepL, List.length_map, List.length_range']
  omega
theorem possible_ok {r : Rite} {s : Scene} {w : Nat} {a : RAct} (hs : ScB r s) (hw : w < r.people.length) (hpl : r.people.length ≤ 1000000) (hwide : r.wide ≠ 0) (ha : EvB r.people.length r.things.length w a) (hH : 0 < H.length) :
    gcall0 KC (geval KC) 60 [.pure (.agg r.row), .pure (.agg s.row), .pure (.agg a.row)] c H = some (.pure (.bool (posV r s w a)), H) := by
  obtain ⟨q1, who, kind, hand, thing, cell, other, q3, q4⟩ := a
  obtain ⟨h1, h2, h3, h4⟩ := ha
  simp only at h1 h2 h3 h4
  subst h1
  have e1 := hs.pl
  have e2 := hs.hl
  have e3 := hs.tl
  rcases h2 with rfl | rfl
  · exact possible0_ok (by omega) (by omega) (by omega) (by omega) hwide (fun h => hs.hr w h) e3 (fun h => by obtain ⟨t, a, b⟩ := h3 h; exact ⟨t, a, by omega⟩) (fun h => by obtain ⟨t, a, b⟩ := h4 h; exact ⟨t, a, by omega, by omega⟩) hH
  · exact possible1_ok (by omega) (by omega) (by omega) (by omega) hwide (fun h => hs.hr w h) e3 (fun h => by obtain ⟨t, a, b⟩ := h3 h; exact ⟨t, a, by omega⟩) (fun h => by obtain ⟨t, a, b⟩ := h4 h; exact ⟨t, a, by omega, by omega⟩) hH
theorem possibleP_ok {r : Rite} {s : Scene} {w : Nat} {a : RAct} (hs : ScB r s) (hw : w < r.people.length) (hpl : r.people.length ≤ 1000000) (hwide : r.wide ≠ 0) (ha : EvB r.people.length r.things.length w a) (hH : 0 < H.length) :
    gcall KC (geval KC) 60 [.pure (.agg r.row), .pure (.agg s.row), .pure (.agg a.row)] c H = some (.pure (.bool (posV r s w a)), H) := bor_c rfl rfl rfl rfl rfl hH fun H hH => possible_ok hs hw hpl hwide ha hH
/-- What might be done: things more often than steps. -/
noncomputable def mightL : Rite → Scene → Nat → List RAct → List RAct := hid fun r s w l => l.flatMap fun a => if posV r s w a = true then (if a.kind = 1 then [a] else [a, a, a]) else []
theorem mightL_def (r : Rite) (s : Scene) (w : Nat) (l : List RAct) : mightL r s w l = l.flatMap fun a => if posV r s w a = true then (if a.kind = 1 then [a] else [a, a, a]) else [] := by rw [mightL, hid_eq]
theorem mightL_nil (r : Rite) (s : Scene) (w : Nat) : mightL r s w [] = [] := by rw [mightL_def]; rfl
theorem mightL_cons (r : Rite) (s : Scene) (w : Nat) (a : RAct) (l : List RAct) : mightL r s w (a :: l) = (if posV r s w a = true then (if a.kind = 1 then [a] else [a, a, a]) else []) ++ mightL r s w l := by simp only [mightL_def, List.flatMap_cons]
theorem mightL_mem {r : Rite} {s : Scene} {w : Nat} {a : RAct} {l : List RAct} (h : a ∈ mightL r s w l) : a ∈ l ∧ posV r s w a = true := by
  rw [mightL_def, List.mem_flatMap] at h
  obtain ⟨x, hx, h⟩ := h
  split at h
  · rename_i hp
    split at h
    · simp at h; subst h; exact ⟨hx, hp⟩
    · simp at h; subst h; exact ⟨hx, hp⟩
  · simp at h
theorem mightL_len (r : Rite) (s : Scene) (w : Nat) : ∀ l : List RAct, (mightL r s w l).length ≤ 3 * l.length
  | [] => by simp [mightL_nil]
  | a :: l => by
    have := mightL_len r s w l
    rw [mightL_cons, List.length_append, List.length_cons]
    split
    · split <;> simp <;> omega
    · simp; omega
theorem apK2_1 {key key2 es : Nat} {rows : List (List PV)} {fr f0 : Fr} {l bytes : Nat} {r r1 r2 : List PV} (hl : H.length = l) (hf : fr.get key = none) (hb : (rows.length + 1 + 2) * bytes ≤ 1099511627776) :
    apK l key2 (apS (l, key) es (rows ++ [r])) es bytes [r1, r2] (f0 :: apF key es (rows ++ [r]) fr :: H) = some (apS (l, key) es (rows ++ [r, r1, r2]), f0 :: apF key es (rows ++ [r, r1, r2]) fr :: H) := by
  subst hl
  simp [apS, apF, hb, Fr.get_ins, Fr.ins_ins]
def mightF (r : Rite) (s : Scene) : Fr := [(5, rbox r), (6, sbox s), (8, abox act0)]
theorem might_loop (r : Rite) (s : Scene) (w : Nat) (hs : ScB r s) (hw : w < r.people.length) (hpl : r.people.length ≤ 1000000) (hwide : r.wide ≠ 0) (all : List RAct) (hall : ∀ a ∈ all, EvB r.people.length r.things.length w a) (hal : all.length ≤ 30000000) (nm : Nm) (hnm : nm.1 < H.length) (Q : GX → GSt → Prop) :
    ∀ (k i : Nat) (l : List RAct), i + k = all.length → l.length ≤ 3 * i →
    Q (.exit 0) ⟨[(0, .bptr nm 0), (8, .bptr (H.length, 8) 0), (10, apS (H.length, 35) 9 ((l ++ mightL r s w (all.drop i)).map RAct.row))], apF 35 9 ((l ++ mightL r s w (all.drop i)).map RAct.row) (mightF r s) :: H, 64⟩ →
    WPL KC needT 35 (lp Try.f35 0) [0, 5, 6, 8, 10, 11, 12] [0, 8, 10] Q
      [(0, .bptr nm 0), (5, .bptr (H.length, 5) 0), (6, .bptr (H.length, 6) 0), (8, .bptr (H.length, 8) 0), (10, apS (H.length, 35) 9 (l.map RAct.row)), (11, .pure (.slice (all.map RAct.row))), (12, .pure (.int .i64 i))]
      (apF 35 9 (l.map RAct.row) (mightF r s) :: H) 64 := by
  have hle : nm.1 ≤ H.length := by omega
  intro k
  induction k with
  | zero =>
    intro i l hi hl h1
    have e1 : all.drop i = [] := List.drop_of_length_le (by omega)
    rw [e1, mightL_nil, List.append_nil] at h1
    have : ¬ i < all.length := by omega
    apply WPL_step
    conv => arg 4; whnf
    simp [this, hle]
    exact h1
  | succ k ih =>
    intro i l hi hl h1
    have hia : i < all.length := by omega
    have hw1 := w64 (x := (i : Int) + 1) (by omega) (by omega)
    have hev := hall all[i] (List.getElem_mem hia)
    have P := fun (c : Nat) (H : Heap) (hH : 0 < H.length) => possibleP_ok (c := c) (H := H) hs hw hpl hwide hev hH
    simp only [rowR, Scene.row, RAct.row] at P
    rw [List.drop_eq_getElem_cons hia, mightL_cons, ← List.append_assoc] at h1
    apply WPL_step
    conv => arg 4; whnf
    cases hp : posV r s w all[i] with
    | false =>
      simp only [hp, Bool.false_eq_true, if_false, List.append_nil] at h1
      have ih' := ih (i + 1) l (by omega) (by omega) h1
      simp [mightF, rbox, sbox, abox, hia, RAct.row, P, hp, hw1, hle, Fr.get]
      simpa [mightF, rbox, sbox, abox, RAct.row] using ih'
    | true =>
      have hb : (l.length + 1) * 72 ≤ 1099511627776 := by omega
      have hl4 : l.length + 3 ≤ 90000003 := by omega
      have hb2 : (l.length + 1 + 2) * 72 ≤ 1099511627776 := Nat.le_trans (Nat.mul_le_mul_right 72 (show l.length + 1 + 2 ≤ 90000003 from hl4)) (by decide)
      have hi1 : (i + 1) + k = all.length := by omega
      have hl1 : (l ++ [all[i]]).length ≤ 3 * (i + 1) := by simp; omega
      have hl3 : (l ++ [all[i], all[i], all[i]]).length ≤ 3 * (i + 1) := by simp; omega
      by_cases hk : all[i].kind = 1
      · simp only [hp, hk, if_true] at h1
        have ih' := ih (i + 1) (l ++ [all[i]]) hi1 hl1 h1
        have hk' : (all[i].kind == 1) = true := by simpa using hk
        simp [mightF, rbox, sbox, abox, hia, RAct.row, P, hp, hw1, hle, hb, bne, hk', Fr.get]
        simpa [mightF, rbox, sbox, abox, RAct.row] using ih'
      · have hk' : (all[i].kind == 1) = false := by simpa using hk
        simp only [hp, hk, if_true, if_false] at h1
        have ih' := ih (i + 1) (l ++ [all[i], all[i], all[i]]) hi1 hl3 h1
        simp [mightF, rbox, sbox, abox, hia, RAct.row, P, hp, hw1, hle, hb, bne, hk', Fr.get, apK2_1, hb2]
        simpa [mightF, rbox, sbox, abox, RAct.row] using ih'
/-- What is chosen. -/
noncomputable def mightR : Rite → Scene → Nat → List RAct → Int → (RAct × Bool) × Int := hid fun r s w all wd =>
  if mightL r s w all = [] then ((act0, false), wd) else (((mightL r s w all).getD (upR wd (mightL r s w all).length).1.toNat act0, true), (upR wd (mightL r s w all).length).2)
theorem mightR_def (r : Rite) (s : Scene) (w : Nat) (all : List RAct) (wd : Int) : mightR r s w all wd =
  if mightL r s w all = [] then ((act0, false), wd) else (((mightL r s w all).getD (upR wd (mightL r s w all).length).1.toNat act0, true), (upR wd (mightL r s w all).length).2) := by rw [mightR, hid_eq]
theorem might_ok (r : Rite) (s : Scene) (w n : Nat) (hs : ScB r s) (hw : w < r.people.length) (hpl : r.people.length ≤ 1000000) (htl : r.things.length ≤ 1000000) (hwide : r.wide ≠ 0) (hn : IntKind.i64.wrap (r.wide * r.deep) = n) (hn0 : 0 < n) (hnb : n ≤ 1000000) {nm : Nm} (hB : isBox H nm) :
    gcall0 KC (geval KC) 35 [.bptr nm 0, .pure (.agg r.row), .pure (.agg s.row), .pure (.int .i64 w)] c H =
      some (.pure (.tuple [.agg (mightR r s w (everyL n r.things.length r.people.length w) (wordAt H nm)).1.1.row, .bool (mightR r s w (everyL n r.things.length r.people.length w) (wordAt H nm)).1.2]), H.set nm (wbox (mightR r s w (everyL n r.things.length r.people.length w) (wordAt H nm)).2)) := by
  have hlt := isBox_lt hB
  have hset := isBox_set hB
  have hne : ¬ nm.1 = H.length := by omega
  have hle : nm.1 ≤ H.length := by omega
  refine WPv_eq (call_enter0 KC needT Try.func35 rfl rfl good35 (by simp) (by omega) ?_)
  have E := fun c (H : Heap) (hH : 0 < H.length) => every_ok (c := c) (H := H) r w n r.things.length r.people.length hn hn0 hnb rfl rfl htl hpl hH
  have el := everyL_len n r.things.length r.people.length (w : Int)
  have L := fun Q h => might_loop (H := H) r s w hs hw hpl hwide (everyL n r.things.length r.people.length w) (fun a ha => everyL_ok ha) (by omega) nm hlt Q _ 0 [] (Nat.zero_add _) (by simp) h
  have hd := mightR_def r s w (everyL n r.things.length r.people.length w) (wordAt H nm)
  have ml := mightL_len r s w (everyL n r.things.length r.people.length w)
  rw [rowR] at E ⊢
  simp only [Scene.row]
  simp [apS_nil, apF_nil, mightF, rbox, sbox, abox, act0] at L
  simp [E]
  refine L _ ?_
  generalize mightL r s w (everyL n r.things.length r.people.length w) = l at *
  generalize mightR r s w (everyL n r.things.length r.people.length w) (wordAt H nm) = res at *
  by_cases hl : l = []
  · subst hl
    simp at hd
    subst hd
    simp [apS_nil, apF_nil, gleave_free, RAct.row, act0, hset]
  · rw [if_neg hl] at hd
    have hl0 : 0 < l.length := List.length_pos_iff.2 hl
    have hll : (l.length : Int) ≤ 9223372036854775807 := by omega
    have hr := upR_rng (wordAt H nm) l.length hll
    have h3 : ¬ (upR (wordAt H nm) l.length).1 < 0 := by omega
    have h4 : (upR (wordAt H nm) l.length).1.toNat < l.length := by have := hr; omega
    have h5 : (upR (wordAt H nm) l.length).1 < (l.length : Int) := by have := hr; omega
    have hl2 : ((l.length : Int) == 0) = false := beq_eq_false_iff_ne.2 (by omega)
    have hgd : l.getD (upR (wordAt H nm) l.length).1.toNat act0 = l[(upR (wordAt H nm) l.length).1.toNat] := by simp [List.getD_eq_getElem?_getD, h4]
    rw [hgd] at hd
    subst hd
    have hB' : ∀ fr, isBox (fr :: H) nm := fun fr => isBox_up hB
    simp [apS, apF, hl, hl2, up_ok, hB', hll, wordAt_up, hlt, hne, Heap.set_up, h3, h4, h5, gleave_free, RAct.row, Fr.ins]
end Go.Gh


/- The first scene of the reference, a copy of a scene. -/
namespace Go.Gh
open Go.Proofs
set_option linter.unusedSimpArgs false
set_option linter.unusedVariables false
set_option maxRecDepth 100000
set_option maxHeartbeats 4000000
variable {c : Nat} {H : Heap}
def empty : Hands := ⟨-1, -1⟩
def spotOf (t : Thing) : Spot := ⟨t.cell, t.state⟩
def firstV (r : Rite) : Scene := ⟨r.people.map (·.cell), r.people.map fun _ => empty, r.things.map spotOf⟩
def ff1 (r : Rite) (L : Nat) (p : List Int) (h : List Hands) : Fr :=
  [(1, rbox r), (2, .box [.nils, .nils, .nils]), (3, .box [.hdr (L, 22) 1 p.length 0 p.length, .hdr (L, 27) 2 h.length 0 h.length, .nils]), (22, .arr 1 (p.map irow) 0 false), (27, .arr 2 (h.map Hands.row) 0 false)]
def ff2 (r : Rite) (L : Nat) (p : List Int) (h : List Hands) (t : List Spot) : Fr :=
  [(1, rbox r), (2, .box [.nils, .nils, .nils]), (3, .box [.hdr (L, 22) 1 p.length 0 p.length, .hdr (L, 27) 2 h.length 0 h.length, .hdr (L, 53) 2 t.length 0 t.length]), (22, .arr 1 (p.map irow) 0 false), (27, .arr 2 (h.map Hands.row) 0 false), (53, .arr 2 (t.map Spot.row) 0 false)]
theorem first_loop1 (r : Rite) (hpl : r.people.length ≤ 1000000) (Q : GX → GSt → Prop) : ∀ (k i : Nat) (p : List Int) (h : List Hands), i + k = r.people.length → p.length = i → h.length = i → 0 < i →
    Q (.exit 0) ⟨[(1, .bptr (H.length, 1) 0), (2, .bptr (H.length, 2) 0), (3, .bptr (H.length, 3) 0)], ff1 r H.length (p ++ (r.people.drop i).map (·.cell)) (h ++ (r.people.drop i).map fun _ => empty) :: H, 56⟩ →
    WPL KC needT 33 (lp Try.f33 0) [1, 2, 3, 4] [1, 2, 3] Q
      [(1, .bptr (H.length, 1) 0), (2, .bptr (H.length, 2) 0), (3, .bptr (H.length, 3) 0), (4, .pure (.int .i64 i))] (ff1 r H.length p h :: H) 56 := by
  intro k
  induction k with
  | zero =>
    intro i p h hi h1 h2 h3 hq
    have e1 : r.people.drop i = [] := List.drop_of_length_le (by omega)
    rw [e1] at hq
    have : ¬ i < r.people.length := by omega
    apply WPL_step
    conv => arg 4; whnf
    simp [ff1, rbox, this]
    simpa [ff1, rbox] using hq
  | succ k ih =>
    intro i p h hi h1 h2 h3 hq
    have hia : i < r.people.length := by omega
    have hw := w64 (x := (i : Int) + 1) (by omega) (by omega)
    rw [List.drop_eq_getElem_cons hia] at hq
    have hb1 : (i + 1) * 8 ≤ 1099511627776 := by omega
    have hb2 : (i + 1) * 16 ≤ 1099511627776 := by omega
    have ih' := ih (i + 1) (p ++ [r.people[i].cell]) (h ++ [empty]) (by omega) (by simp [h1]) (by simp [h2]) (by omega)
    simp only [List.append_assoc, List.singleton_append, List.map_cons] at ih' hq
    apply WPL_step
    conv => arg 4; whnf
    simp [ff1, rbox, hia, hw, Person.row, h1, h2, hb1, hb2]
    have := ih' hq
    simpa [ff1, rbox, irow, Hands.row, empty, h1, h2, Person.row] using this
theorem first_loop2 (r : Rite) (htl : r.things.length ≤ 1000000) (p : List Int) (h : List Hands) (Q : GX → GSt → Prop) : ∀ (k i : Nat) (t : List Spot), i + k = r.things.length → t.length = i → 0 < i →
    Q (.exit 2) ⟨[(2, .bptr (H.length, 2) 0), (3, .bptr (H.length, 3) 0)], ff2 r H.length p h (t ++ (r.things.drop i).map spotOf) :: H, 56⟩ →
    WPL KC needT 33 (lp Try.f33 1) [1, 2, 3, 5] [2, 3] Q
      [(1, .bptr (H.length, 1) 0), (2, .bptr (H.length, 2) 0), (3, .bptr (H.length, 3) 0), (5, .pure (.int .i64 i))] (ff2 r H.length p h t :: H) 56 := by
  intro k
  induction k with
  | zero =>
    intro i t hi h1 h3 hq
    have e1 : r.things.drop i = [] := List.drop_of_length_le (by omega)
    rw [e1] at hq
    have : ¬ i < r.things.length := by omega
    apply WPL_step
    conv => arg 4; whnf
    simp [ff2, rbox, this]
    simpa [ff2, rbox] using hq
  | succ k ih =>
    intro i t hi h1 h3 hq
    have hia : i < r.things.length := by omega
    have hw := w64 (x := (i : Int) + 1) (by omega) (by omega)
    rw [List.drop_eq_getElem_cons hia] at hq
    have hb2 : (i + 1) * 16 ≤ 1099511627776 := by omega
    have ih' := ih (i + 1) (t ++ [spotOf r.things[i]]) (by omega) (by simp [h1]) (by omega)
    simp only [List.append_assoc, List.singleton_append, List.map_cons] at ih' hq
    apply WPL_step
    conv => arg 4; whnf
    simp [ff2, rbox, hia, hw, Thing.row, h1, hb2]
    have := ih' hq
    simpa [ff2, rbox, irow, Spot.row, spotOf, h1, Thing.row] using this
def hdrS (L k1 k2 k3 : Nat) (s : Scene) : GV := .agg [.hdr (L, k1) 1 s.people.length 0 s.people.length, .hdr (L, k2) 2 s.hands.length 0 s.hands.length, .hdr (L, k3) 2 s.things.length 0 s.things.length]
theorem map_head {α β : Type} (f : α → β) (l : List α) (h : 0 < l.length) : f l[0] :: (l.drop 1).map f = l.map f := by
  cases l with
  | nil => simp at h
  | cons a t => rfl
theorem first_ok0 (r : Rite) (hp0 : r.people ≠ []) (ht0 : r.things ≠ []) (hpl : r.people.length ≤ 1000000) (htl : r.things.length ≤ 1000000) (hH : 0 < H.length)
    (hf1 : H.get (H.length - 1, newKey c 22) = none) (hf2 : H.get (H.length - 1, newKey c 27) = none) (hf3 : H.get (H.length - 1, newKey c 53) = none) :
    gcall0 KC (geval KC) 33 [.pure (.agg r.row)] c H = some (hdrS (H.length - 1) (newKey c 22) (newKey c 27) (newKey c 53) (firstV r),
      ((H.set (H.length - 1, newKey c 22) (.arr 1 ((firstV r).people.map irow) 0 false)).set (H.length - 1, newKey c 27) (.arr 2 ((firstV r).hands.map Hands.row) 0 false)).set (H.length - 1, newKey c 53) (.arr 2 ((firstV r).things.map Spot.row) 0 false)) := by
  refine WPv_eq (call_enter0 KC needT Try.func33 rfl rfl good33 (by simp) hH ?_)
  rw [rowR]
  have lp0 : 0 < r.people.length := List.length_pos_iff.2 hp0
  have lt0 : 0 < r.things.length := List.length_pos_iff.2 ht0
  have n12 : newKey c 22 ≠ newKey c 27 := by unfold newKey; omega
  have n13 : newKey c 22 ≠ newKey c 53 := by unfold newKey; omega
  have n23 : newKey c 27 ≠ newKey c 53 := by unfold newKey; omega
  have L1 := fun Q => first_loop1 (H := H) r hpl Q (r.people.length - 1) 1 [r.people[0].cell] [empty] (by omega) rfl rfl (by omega)
  have L2 := fun p h Q => first_loop2 (H := H) r htl p h Q (r.things.length - 1) 1 [spotOf r.things[0]] (by omega) rfl (by omega)
  have ep : r.people[0].cell :: (r.people.drop 1).map (fun p => p.cell) = r.people.map (fun p => p.cell) := map_head (fun p : Person => p.cell) r.people lp0
  have eh : empty :: ((r.people.drop 1).map fun _ => empty) = r.people.map fun _ => empty := map_head (fun _ : Person => empty) r.people lp0
  have et : spotOf r.things[0] :: (r.things.drop 1).map spotOf = r.things.map spotOf := map_head spotOf r.things lt0
  simp only [List.singleton_append, ep, eh, et] at L1 L2
  simp [ff1, rbox, irow, Hands.row, empty] at L1
  simp
  apply WPL_step
  conv => arg 4; whnf
  simp [lp0, Person.row]
  refine L1 _ ?_
  clear L1
  have L3 := L2 (r.people.map (·.cell)) (r.people.map fun _ => empty)
  simp [ff2, rbox, irow, Hands.row, empty, Spot.row, spotOf] at L3
  simp
  apply WPL_step
  conv => arg 4; whnf
  simp [lt0, Thing.row]
  refine L3 _ ?_
  have k1 : (H.length - 1, newKey c 27) ≠ ((H.length - 1, newKey c 22) : Nm) := fun e => n12 (Prod.mk.inj e).2.symm
  have k2 : (H.length - 1, newKey c 53) ≠ ((H.length - 1, newKey c 22) : Nm) := fun e => n13 (Prod.mk.inj e).2.symm
  have k3 : (H.length - 1, newKey c 53) ≠ ((H.length - 1, newKey c 27) : Nm) := fun e => n23 (Prod.mk.inj e).2.symm
  have g2 : ∀ b, (H.set (H.length - 1, newKey c 22) b).get (H.length - 1, newKey c 27) = none := fun b => (Heap.get_set_other b k1).trans hf2
  have g3 : ∀ b b', ((H.set (H.length - 1, newKey c 22) b).set (H.length - 1, newKey c 27) b').get (H.length - 1, newKey c 53) = none := fun b b' => (Heap.get_set_other b' k3).trans ((Heap.get_set_other b k2).trans hf3)
  simp [gleave_keep, refs, refs2, refs1, dedup, moveOut, cleanBlk, hf1, g2, g3, ren, ren2, ren1, hdrS, firstV, mkAgg, allPure, irow, Hands.row, empty, Spot.row, spotOf]
end Go.Gh


/- Calls with slices in blocks; the reference's 'set'. -/
namespace Go.Gh
open Go.Proofs
set_option linter.unusedSimpArgs false
set_option linter.unusedVariables false
set_option maxRecDepth 100000
set_option maxHeartbeats 4000000
variable {c : Nat} {H : Heap}
/-- A scene in three blocks. -/
structure ScAt (H : Heap) (n1 n2 n3 : Nm) (v1 v2 v3 : Nat) (s : Scene) : Prop where
  n12 : n1 ≠ n2
  n13 : n1 ≠ n3
  n23 : n2 ≠ n3
  g1 : H.get n1 = some (.arr 1 (s.people.map irow) v1 false)
  g2 : H.get n2 = some (.arr 2 (s.hands.map Hands.row) v2 false)
  g3 : H.get n3 = some (.arr 2 (s.things.map Spot.row) v3 false)
  e1 : v1 ≤ s.people.length
  e2 : v2 ≤ s.hands.length
  e3 : v3 ≤ s.things.length
def scH (n1 n2 n3 : Nm) (s : Scene) : GV := .agg [.hdr n1 1 s.people.length 0 s.people.length, .hdr n2 2 s.hands.length 0 s.hands.length, .hdr n3 2 s.things.length 0 s.things.length]
theorem hdrP {nm : Nm} {es v n : Nat} {rows : List (List PV)} {ro : Bool} (h : H.get nm = some (.arr es rows v ro)) (hn : rows.length = n) (hv : v ≤ n) :
    pureCell H (.hdr nm es n 0 n) = (.slice rows, H.set nm (.arr es rows v true)) := by
  subst hn
  simp [h, hv]
theorem frz_sc {n1 n2 n3 : Nm} {v1 v2 v3 : Nat} {s : Scene} (h : ScAt H n1 n2 n3 v1 v2 v3 s) : (frzVal H (scH n1 n2 n3 s)).1 = .pure (.agg s.row) := by
  have a1 : (H.set n1 (.arr 1 (s.people.map irow) v1 true)).get n2 = some (.arr 2 (s.hands.map Hands.row) v2 false) := by rw [Heap.get_set_other _ h.n12.symm]; exact h.g2
  have a2 : ((H.set n1 (.arr 1 (s.people.map irow) v1 true)).set n2 (.arr 2 (s.hands.map Hands.row) v2 true)).get n3 = some (.arr 2 (s.things.map Spot.row) v3 false) := by
    rw [Heap.get_set_other _ h.n23.symm, Heap.get_set_other _ h.n13.symm]; exact h.g3
  simp only [scH, frzVal, frzCells, frzCell, hdrP h.g1 (by simp) h.e1, hdrP a1 (by simp) h.e2, hdrP a2 (by simp) h.e3, Scene.row]
  simp
/-- 'has' of a scene in blocks. -/
theorem hasS_ok {n1 n2 n3 : Nm} {v1 v2 v3 : Nat} {s : Scene} (h : ScAt H n1 n2 n3 v1 v2 v3 s) {t st : Int} (ht : t < s.things.length) (hst : st ≠ 0) (hH : 0 < H.length) :
    gcall KC (geval KC) 84 [scH n1 n2 n3 s, .pure (.int .i64 t), .pure (.int .i64 st)] c H = some (.pure (.bool (hasV s.things t st)), H) := by
  refine bor_flat KC rfl rfl (args' := [.pure (.agg s.row), .pure (.int .i64 t), .pure (.int .i64 st)]) ?_ rfl hH (fun H hH => hasR_ok (c := c) ht hst hH) rfl
  simp only [frzVals, frz_sc h, frzVal_pure]
  rfl
noncomputable def setV : List Spot → Nat → Int → Bool → List Spot := hid fun ts t bit on =>
  if hasV ts t bit = on then ts else ts.set t ⟨(ts.getD t spot0).cell, if on then IntKind.i64.wrap ((ts.getD t spot0).state + bit) else IntKind.i64.wrap ((ts.getD t spot0).state - bit)⟩
theorem setV_def (ts : List Spot) (t : Nat) (bit : Int) (on : Bool) : setV ts t bit on = if hasV ts t bit = on then ts else ts.set t ⟨(ts.getD t spot0).cell, if on then IntKind.i64.wrap ((ts.getD t spot0).state + bit) else IntKind.i64.wrap ((ts.getD t spot0).state - bit)⟩ := by rw [setV, hid_eq]
theorem setV_len (ts : List Spot) (t : Nat) (bit : Int) (on : Bool) : (setV ts t bit on).length = ts.length := by
  rw [setV_def]; split <;> simp
theorem set_ok {n1 n2 n3 : Nm} {v1 v2 v3 : Nat} {s : Scene} (h : ScAt H n1 n2 n3 v1 v2 v3 s) {t : Nat} {bit : Int} {on : Bool} (ht : t < s.things.length) (hst : bit ≠ 0) (hH : 0 < H.length) :
    gcall KC (geval KC) 62 [scH n1 n2 n3 s, .pure (.int .i64 t), .pure (.int .i64 bit), .pure (.bool on)] c H =
      some (.pure (.tuple []), if hasV s.things t bit = on then H else H.set n3 (.arr 2 ((setV s.things t bit on).map Spot.row) s.things.length false)) := by
  refine WPv_eq (call_enterR KC needT Try.func62 rfl rfl good62 rfl rfl rfl (by simp) hH ?_)
  have l1 := Heap.get_lt h.g1
  have l2 := Heap.get_lt h.g2
  have l3 := Heap.get_lt h.g3
  have d1 : ¬ n1.1 = H.length := by omega
  have d2 : ¬ n2.1 = H.length := by omega
  have d3 : ¬ n3.1 = H.length := by omega
  have hg : s.things.getD t spot0 = s.things[t] := by simp [List.getD_eq_getElem?_getD, ht]
  have hd := setV_def s.things t bit on
  rw [hg] at hd
  have P := fun (c : Nat) => hasS_ok (c := c) (H := [(4, .box [.hdr n1 1 s.people.length 0 s.people.length, .hdr n2 2 s.hands.length 0 s.hands.length, .hdr n3 2 s.things.length 0 s.things.length])] :: H) (n1 := n1) (n2 := n2) (n3 := n3) (v1 := v1) (v2 := v2) (v3 := v3) (s := s)
    ⟨h.n12, h.n13, h.n23, by simp [d1, h.g1], by simp [d2, h.g2], by simp [d3, h.g3], h.e1, h.e2, h.e3⟩ (t := t) (st := bit) (by omega) hst (by simp)
  simp only [scH] at P ⊢
  cases on with
  | true =>
    cases hv : hasV s.things t bit with
    | true => simp [P, hv, gleave_free]
    | false =>
      simp [hv] at hd
      simp [P, hv, d3, h.g3, h.e3, ht, Spot.row, gleave_free, hd, splice]
  | false =>
    cases hv : hasV s.things t bit with
    | false => simp [P, hv, gleave_free]
    | true =>
      simp [hv] at hd
      simp [P, hv, d3, h.g3, h.e3, ht, Spot.row, gleave_free, hd, splice]
end Go.Gh


/- The reference's 'Do': a scene in blocks after an act. -/
namespace Go.Gh
open Go.Proofs
set_option linter.unusedSimpArgs false
set_option linter.unusedVariables false
set_option maxRecDepth 100000
set_option maxHeartbeats 4000000
variable {c : Nat} {H : Heap}
def putHand (hs : List Hands) (w : Nat) (hand : Int) (v : Int) : List Hands := hs.set w (if hand = 0 then ⟨v, (hs.getD w hands0).r⟩ else ⟨(hs.getD w hands0).l, v⟩)
/-- A scene after an act. -/
noncomputable def doV : Scene → Nat → RAct → Scene := hid fun s w a =>
  if a.kind = 1 then { s with people := s.people.set w a.cell }
  else if a.kind = 2 then { s with hands := putHand s.hands w a.hand a.thing, things := s.things.set a.thing.toNat ⟨-1, (s.things.getD a.thing.toNat spot0).state⟩ }
  else if a.kind = 3 then { s with hands := putHand s.hands w a.hand (-1), things := s.things.set (heldV s w a.hand).toNat ⟨s.people.getD w 0, (s.things.getD (heldV s w a.hand).toNat spot0).state⟩ }
  else if a.kind = 4 then { s with hands := putHand (putHand s.hands a.other.toNat (takerV s.hands a.other.toNat) (heldV s w a.hand)) w a.hand (-1) }
  else if a.kind = 5 then { s with things := setV s.things (heldV s w (1 - a.hand)).toNat 1 true }
  else if a.kind = 6 then { s with things := setV (setV (setV s.things (heldV s w a.hand).toNat 2 false) (heldV s w a.hand).toNat 1 false) (heldV s w (1 - a.hand)).toNat 2 true }
  else if a.kind = 7 then { s with things := setV s.things (heldV s w a.hand).toNat 4 true }
  else { s with things := setV s.things (heldV s w a.hand).toNat 4 false }
theorem doV_def (s : Scene) (w : Nat) (a : RAct) : doV s w a =
  if a.kind = 1 then { s with people := s.people.set w a.cell }
  else if a.kind = 2 then { s with hands := putHand s.hands w a.hand a.thing, things := s.things.set a.thing.toNat ⟨-1, (s.things.getD a.thing.toNat spot0).state⟩ }
  else if a.kind = 3 then { s with hands := putHand s.hands w a.hand (-1), things := s.things.set (heldV s w a.hand).toNat ⟨s.people.getD w 0, (s.things.getD (heldV s w a.hand).toNat spot0).state⟩ }
  else if a.kind = 4 then { s with hands := putHand (putHand s.hands a.other.toNat (takerV s.hands a.other.toNat) (heldV s w a.hand)) w a.hand (-1) }
  else if a.kind = 5 then { s with things := setV s.things (heldV s w (1 - a.hand)).toNat 1 true }
  else if a.kind = 6 then { s with things := setV (setV (setV s.things (heldV s w a.hand).toNat 2 false) (heldV s w a.hand).toNat 1 false) (heldV s w (1 - a.hand)).toNat 2 true }
  else if a.kind = 7 then { s with things := setV s.things (heldV s w a.hand).toNat 4 true }
  else { s with things := setV s.things (heldV s w a.hand).toNat 4 false } := by rw [doV, hid_eq]
/-- What an act must be for 'Do'. -/
structure DoB (s : Scene) (w : Nat) (a : RAct) : Prop where
  hp : w < s.people.length
  hh : w < s.hands.length
  who : a.who = w
  hand : a.hand = 0 ∨ a.hand = 1
  kind : 1 ≤ a.kind ∧ a.kind ≤ 8
  take : a.kind = 2 → ∃ t : Nat, a.thing = t ∧ t < s.things.length
  held : 3 ≤ a.kind → ∃ t : Nat, heldV s w a.hand = t ∧ t < s.things.length
  give : a.kind = 4 → ∃ o : Nat, a.other = o ∧ o < s.hands.length ∧ o ≠ w ∧ (takerV s.hands o = 0 ∨ takerV s.hands o = 1)
  oth : a.kind = 5 ∨ a.kind = 6 → ∃ t : Nat, heldV s w (1 - a.hand) = t ∧ t < s.things.length
theorem Heap.set_comm {n m : Nm} {x y : Blk} (h : n ≠ m) : ∀ {H : Heap}, (H.set n x).set m y = (H.set m y).set n x
  | [] => rfl
  | fr :: H => by
    by_cases e1 : n.1 = H.length
    · by_cases e2 : m.1 = H.length
      · have : n.2 ≠ m.2 := fun e => h (Prod.ext (e1.trans e2.symm) e)
        simp [e1, e2, Fr.ins_comm _ _ this.symm]
      · simp [e1, e2]
    · by_cases e2 : m.1 = H.length
      · simp [e1, e2]
      · simp [e1, e2, Heap.length_set, Heap.set_comm h (H := H)]
structure ScSelf (H : Heap) (n1 n2 n3 : Nm) (v1 v2 v3 : Nat) (s : Scene) : Prop extends ScAt H n1 n2 n3 v1 v2 v3 s where
  s1 : H.set n1 (.arr 1 (s.people.map irow) v1 false) = H
  s2 : H.set n2 (.arr 2 (s.hands.map Hands.row) v2 false) = H
  s3 : H.set n3 (.arr 2 (s.things.map Spot.row) v3 false) = H
def scSet (H : Heap) (n1 n2 n3 : Nm) (v1 v2 v3 : Nat) (s : Scene) : Heap := ((H.set n1 (.arr 1 (s.people.map irow) v1 false)).set n2 (.arr 2 (s.hands.map Hands.row) v2 false)).set n3 (.arr 2 (s.things.map Spot.row) v3 false)
/-- 'set', in a frame above. -/
theorem setF_ok {fr : Fr} {n1 n2 n3 : Nm} {v1 v2 v3 : Nat} {s : Scene} (h : ScSelf H n1 n2 n3 v1 v2 v3 s) {t : Nat} {bit : Int} {on : Bool} (ht : t < s.things.length) (hst : bit ≠ 0) (c : Nat) :
    ∃ v, v ≤ s.things.length ∧ gcall KC (geval KC) 62 [scH n1 n2 n3 s, .pure (.int .i64 t), .pure (.int .i64 bit), .pure (.bool on)] c (fr :: H) =
      some (.pure (.tuple []), fr :: H.set n3 (.arr 2 ((setV s.things t bit on).map Spot.row) v false)) ∧
      ScSelf (H.set n3 (.arr 2 ((setV s.things t bit on).map Spot.row) v false)) n1 n2 n3 v1 v2 v { s with things := setV s.things t bit on } := by
  have l1 := Heap.get_lt h.g1
  have l2 := Heap.get_lt h.g2
  have l3 := Heap.get_lt h.g3
  have d1 : ¬ n1.1 = H.length := by omega
  have d2 : ¬ n2.1 = H.length := by omega
  have d3 : ¬ n3.1 = H.length := by omega
  have hS : ScAt (fr :: H) n1 n2 n3 v1 v2 v3 s := ⟨h.n12, h.n13, h.n23, by simp [d1, h.g1], by simp [d2, h.g2], by simp [d3, h.g3], h.e1, h.e2, h.e3⟩
  have C := set_ok (c := c) hS (t := t) (bit := bit) (on := on) ht hst (by simp)
  have fin : ∀ v, v ≤ s.things.length → ScSelf (H.set n3 (.arr 2 ((setV s.things t bit on).map Spot.row) v false)) n1 n2 n3 v1 v2 v { s with things := setV s.things t bit on } := fun v hv =>
    { n12 := h.n12, n13 := h.n13, n23 := h.n23, g1 := by rw [Heap.get_set_other _ h.n13]; exact h.g1, g2 := by rw [Heap.get_set_other _ h.n23]; exact h.g2, g3 := Heap.get_set' l3,
      e1 := h.e1, e2 := h.e2, e3 := by simpa [setV_len] using hv, s1 := by rw [Heap.set_comm h.n13.symm, h.s1], s2 := by rw [Heap.set_comm h.n23.symm, h.s2], s3 := Heap.set_set }
  by_cases hv : hasV s.things t bit = on
  · have e : setV s.things t bit on = s.things := by rw [setV_def, if_pos hv]
    rw [if_pos hv] at C
    refine ⟨v3, h.e3, ?_, fin v3 h.e3⟩
    rw [C, e, h.s3]
  · rw [if_neg hv] at C
    refine ⟨s.things.length, Nat.le_refl _, ?_, fin _ (Nat.le_refl _)⟩
    rw [C, Heap.set_up l3]
theorem ScAt.up {fr : Fr} {n1 n2 n3 : Nm} {v1 v2 v3 : Nat} {s : Scene} (h : ScAt H n1 n2 n3 v1 v2 v3 s) : ScAt (fr :: H) n1 n2 n3 v1 v2 v3 s := by
  have l1 := Heap.get_lt h.g1
  have l2 := Heap.get_lt h.g2
  have l3 := Heap.get_lt h.g3
  have d1 : ¬ n1.1 = H.length := by omega
  have d2 : ¬ n2.1 = H.length := by omega
  have d3 : ¬ n3.1 = H.length := by omega
  exact ⟨h.n12, h.n13, h.n23, by simp [d1, h.g1], by simp [d2, h.g2], by simp [d3, h.g3], h.e1, h.e2, h.e3⟩
theorem do0_ok {n1 n2 n3 : Nm} {v1 v2 v3 : Nat} {s : Scene} (h : ScSelf H n1 n2 n3 v1 v2 v3 s) {w : Nat} {q1 kind thing cell other q3 q4 : Int} (hb : DoB s w ⟨q1, w, kind, 0, thing, cell, other, q3, q4⟩) (hhl : s.hands.length ≤ 1000000) (hH : 0 < H.length) :
    ∃ v1' v2' v3', v1' ≤ s.people.length ∧ v2' ≤ s.hands.length ∧ v3' ≤ s.things.length ∧
      gcall KC (geval KC) 37 [scH n1 n2 n3 s, .pure (.agg [.int .i64 q1, .int .i64 w, .int .i64 kind, .int .i64 0, .int .i64 thing, .int .i64 cell, .int .i64 other, .int .i64 q3, .int .i64 q4])] c H =
        some (.pure (.tuple []), scSet H n1 n2 n3 v1' v2' v3' (doV s w ⟨q1, w, kind, 0, thing, cell, other, q3, q4⟩)) := by
  have l1 := Heap.get_lt h.g1
  have l2 := Heap.get_lt h.g2
  have l3 := Heap.get_lt h.g3
  have d1 : ¬ n1.1 = H.length := by omega
  have d2 : ¬ n2.1 = H.length := by omega
  have d3 : ¬ n3.1 = H.length := by omega
  have hp := hb.hp
  have hh := hb.hh
  have hg : s.hands.getD w hands0 = s.hands[w] := by simp [List.getD_eq_getElem?_getD, hh]
  have hgp : s.people.getD w 0 = s.people[w] := by simp [List.getD_eq_getElem?_getD, hp]
  have eh : heldV s w 0 = s.hands[w].l := by unfold heldV; rw [hg]; simp
  have eo : heldV s w (1 - 0) = s.hands[w].r := by unfold heldV; rw [hg]; simp
  have wr : IntKind.i64.wrap (1 - 0) = 1 := rfl
  have hk := hb.kind
  have hd := doV_def s w ⟨q1, w, kind, 0, thing, cell, other, q3, q4⟩
  have hheld := hb.held
  have hoth := hb.oth
  have htake := hb.take
  have hgive := hb.give
  have G23 : ∀ b, (H.set n2 b).get n3 = H.get n3 := fun b => Heap.get_set_other b h.n23.symm
  have S2 : ∀ x, (H.set n1 x).set n2 (.arr 2 (s.hands.map Hands.row) v2 false) = H.set n1 x := fun x => by rw [Heap.set_comm h.n12, h.s2]
  have S3 : ∀ x, (H.set n1 x).set n3 (.arr 2 (s.things.map Spot.row) v3 false) = H.set n1 x := fun x => by rw [Heap.set_comm h.n13, h.s3]
  have S4 : ∀ x, (H.set n2 x).set n3 (.arr 2 (s.things.map Spot.row) v3 false) = H.set n2 x := fun x => by rw [Heap.set_comm h.n23, h.s3]
  have s1 := h.s1
  have s2 := h.s2
  have s3 := h.s3
  have G22 : ∀ b, (H.set n2 b).get n2 = some b := fun b => Heap.get_set' l2
  simp only [eh, eo, hgp, putHand, hg] at hd hk hheld hoth htake hgive
  simp only [scH]
  by_cases k1 : kind = 1
  · subst k1
    simp at hd
    refine ⟨s.people.length, v2, v3, Nat.le_refl _, h.e2, h.e3, WPv_eq (call_enterR KC needT Try.func37 rfl rfl good37 rfl rfl rfl (by simp) hH ?_)⟩
    simp [d1, d2, d3, h.g1, h.g2, h.g3, h.e1, h.e2, h.e3, hp, hh, irow, Hands.row, wr, splice, gleave_free, hd, scSet, S2, S3]
  by_cases k2 : kind = 2
  · subst k2
    obtain ⟨t, rfl, ht⟩ := htake rfl
    have hgt : s.things[t]?.getD spot0 = s.things[t] := by simp [ht]
    simp [hgt] at hd
    refine ⟨v1, s.hands.length, s.things.length, h.e1, Nat.le_refl _, Nat.le_refl _, WPv_eq (call_enterR KC needT Try.func37 rfl rfl good37 rfl rfl rfl (by simp) hH ?_)⟩
    simp [d1, d2, d3, h.g1, h.g2, h.g3, h.e1, h.e2, h.e3, hp, hh, ht, Hands.row, Spot.row, wr, splice, gleave_free, hd, scSet, G23, s1]
  have hk3 : 3 ≤ kind := by omega
  obtain ⟨t, et, ht⟩ := hheld hk3
  simp only [et] at hd hgive
  have hgt : s.things[t]?.getD spot0 = s.things[t] := by simp [ht]
  by_cases k3 : kind = 3
  · subst k3
    simp [hgt] at hd
    refine ⟨v1, s.hands.length, s.things.length, h.e1, Nat.le_refl _, Nat.le_refl _, WPv_eq (call_enterR KC needT Try.func37 rfl rfl good37 rfl rfl rfl (by simp) hH ?_)⟩
    simp [d1, d2, d3, h.g1, h.g2, h.g3, h.e1, h.e2, h.e3, hp, hh, ht, et, irow, Hands.row, Spot.row, wr, splice, gleave_free, hd, scSet, G23, s1]
  by_cases k4 : kind = 4
  · subst k4
    obtain ⟨o, rfl, ho, how, htk⟩ := hgive rfl
    have hgo : s.hands[o]?.getD hands0 = s.hands[o] := by simp [ho]
    have hsw : ∀ x, (s.hands.set o x)[w]?.getD hands0 = s.hands[w] := fun x => by rw [List.getElem?_set_ne how]; simp [hh]
    simp [hgo, hsw] at hd
    have R : (frzVals ([(2, .box [.hdr n1 1 s.people.length 0 s.people.length, .hdr n2 2 s.hands.length 0 s.hands.length, .hdr n3 2 s.things.length 0 s.things.length]), (3, abox ⟨q1, w, 4, 0, thing, cell, o, q3, q4⟩)] :: H) [scH n1 n2 n3 s, .pure (.int .i64 o)]).1.map canon = [.pure (.agg s.row), .pure (.int .i64 o)] := by
      simp only [frzVals, frz_sc (ScAt.up h.toScAt), frzVal_pure]; rfl
    have T := fun (c : Nat) => bor_flat KC (f := 61) (c := c) rfl rfl R rfl (by simp) (fun H hH => takerR_ok (c := c) ho hhl hH) rfl
    simp only [scH, abox] at T
    rcases htk with z | z
    · rw [z] at hd T
      simp at hd
      refine ⟨v1, s.hands.length, v3, h.e1, Nat.le_refl _, h.e3, WPv_eq (call_enterR KC needT Try.func37 rfl rfl good37 rfl rfl rfl (by simp) hH ?_)⟩
      simp [d1, d2, d3, h.g1, h.g2, h.g3, h.e1, h.e2, h.e3, hp, hh, ht, et, ho, T, irow, Hands.row, Spot.row, wr, splice, gleave_free, hd, scSet, G22, G23, s1, S4, how, List.getElem_set_ne]
    · rw [z] at hd T
      simp at hd
      refine ⟨v1, s.hands.length, v3, h.e1, Nat.le_refl _, h.e3, WPv_eq (call_enterR KC needT Try.func37 rfl rfl good37 rfl rfl rfl (by simp) hH ?_)⟩
      simp [d1, d2, d3, h.g1, h.g2, h.g3, h.e1, h.e2, h.e3, hp, hh, ht, et, ho, T, irow, Hands.row, Spot.row, wr, splice, gleave_free, hd, scSet, G22, G23, s1, S4, how, List.getElem_set_ne]
  by_cases k5 : kind = 5
  · subst k5
    obtain ⟨u, eu, hu⟩ := hoth (.inl rfl)
    rw [eu] at hd
    simp at hd
    obtain ⟨v, hv, C, hS⟩ := setF_ok (fr := [(2, .box [.hdr n1 1 s.people.length 0 s.people.length, .hdr n2 2 s.hands.length 0 s.hands.length, .hdr n3 2 s.things.length 0 s.things.length]), (3, abox ⟨q1, w, 5, 0, thing, cell, other, q3, q4⟩)]) h (t := u) (bit := 1) (on := true) hu (by decide) 100
    simp only [scH, abox] at C
    refine ⟨v1, v2, v, h.e1, h.e2, hv, WPv_eq (call_enterR KC needT Try.func37 rfl rfl good37 rfl rfl rfl (by simp) hH ?_)⟩
    simp [d1, d2, d3, h.g1, h.g2, h.g3, h.e1, h.e2, h.e3, hp, hh, ht, et, eu, C, Hands.row, wr, gleave_free, hd, scSet, s1, s2]
  by_cases k6 : kind = 6
  · subst k6
    obtain ⟨u, eu, hu⟩ := hoth (.inr rfl)
    rw [eu] at hd
    simp at hd
    obtain ⟨v, hv, C, hS⟩ := setF_ok (fr := [(2, .box [.hdr n1 1 s.people.length 0 s.people.length, .hdr n2 2 s.hands.length 0 s.hands.length, .hdr n3 2 s.things.length 0 s.things.length]), (3, abox ⟨q1, w, 6, 0, thing, cell, other, q3, q4⟩)]) h (t := t) (bit := 2) (on := false) ht (by decide) 105
    obtain ⟨v', hv', C', hS'⟩ := setF_ok (fr := [(2, .box [.hdr n1 1 s.people.length 0 s.people.length, .hdr n2 2 s.hands.length 0 s.hands.length, .hdr n3 2 s.things.length 0 s.things.length]), (3, abox ⟨q1, w, 6, 0, thing, cell, other, q3, q4⟩)]) hS (t := t) (bit := 1) (on := false) (by rw [setV_len]; exact ht) (by decide) 108
    obtain ⟨v'', hv'', C'', hS''⟩ := setF_ok (fr := [(2, .box [.hdr n1 1 s.people.length 0 s.people.length, .hdr n2 2 s.hands.length 0 s.hands.length, .hdr n3 2 s.things.length 0 s.things.length]), (3, abox ⟨q1, w, 6, 0, thing, cell, other, q3, q4⟩)]) hS' (t := u) (bit := 2) (on := true) (by simp only [setV_len]; exact hu) (by decide) 111
    simp only [scH, abox, setV_len, Heap.set_set] at C C' C''
    simp only [setV_len] at hv''
    refine ⟨v1, v2, v'', h.e1, h.e2, hv'', WPv_eq (call_enterR KC needT Try.func37 rfl rfl good37 rfl rfl rfl (by simp) hH ?_)⟩
    simp [d1, d2, d3, h.g1, h.g2, h.g3, h.e1, h.e2, h.e3, hp, hh, ht, et, eu, C, C', C'', Hands.row, wr, gleave_free, hd, scSet, s1, s2]
  by_cases k7 : kind = 7
  · subst k7
    simp at hd
    obtain ⟨v, hv, C, hS⟩ := setF_ok (fr := [(2, .box [.hdr n1 1 s.people.length 0 s.people.length, .hdr n2 2 s.hands.length 0 s.hands.length, .hdr n3 2 s.things.length 0 s.things.length]), (3, abox ⟨q1, w, 7, 0, thing, cell, other, q3, q4⟩)]) h (t := t) (bit := 4) (on := true) ht (by decide) 116
    simp only [scH, abox] at C
    refine ⟨v1, v2, v, h.e1, h.e2, hv, WPv_eq (call_enterR KC needT Try.func37 rfl rfl good37 rfl rfl rfl (by simp) hH ?_)⟩
    simp [d1, d2, d3, h.g1, h.g2, h.g3, h.e1, h.e2, h.e3, hp, hh, ht, et, C, Hands.row, wr, gleave_free, hd, scSet, s1, s2]
  have k8 : kind = 8 := by omega
  subst k8
  simp at hd
  obtain ⟨v, hv, C, hS⟩ := setF_ok (fr := [(2, .box [.hdr n1 1 s.people.length 0 s.people.length, .hdr n2 2 s.hands.length 0 s.hands.length, .hdr n3 2 s.things.length 0 s.things.length]), (3, abox ⟨q1, w, 8, 0, thing, cell, other, q3, q4⟩)]) h (t := t) (bit := 4) (on := false) ht (by decide) 121
  simp only [scH, abox] at C
  refine ⟨v1, v2, v, h.e1, h.e2, hv, WPv_eq (call_enterR KC needT Try.func37 rfl rfl good37 rfl rfl rfl (by simp) hH ?_)⟩
  simp [d1, d2, d3, h.g1, h.g2, h.g3, h.e1, h.e2, h.e3, hp, hh, ht, et, C, Hands.row, wr, gleave_free, hd, scSet, s1, s2]
theorem do1_ok {n1 n2 n3 : Nm} {v1 v2 v3 : Nat} {s : Scene} (h : ScSelf H n1 n2 n3 v1 v2 v3 s) {w : Nat} {q1 kind thing cell other q3 q4 : Int} (hb : DoB s w ⟨q1, w, kind, 1, thing, cell, other, q3, q4⟩) (hhl : s.hands.length ≤ 1000000) (hH : 0 < H.length) :
    ∃ v1' v2' v3', v1' ≤ s.people.length ∧ v2' ≤ s.hands.length ∧ v3' ≤ s.things.length ∧
      gcall KC (geval KC) 37 [scH n1 n2 n3 s, .pure (.agg [.int .i64 q1, .int .i64 w, .int .i64 kind, .int .i64 1, .int .i64 thing, .int .i64 cell, .int .i64 other, .int .i64 q3, .int .i64 q4])] c H =
        some (.pure (.tuple []), scSet H n1 n2 n3 v1' v2' v3' (doV s w ⟨q1, w, kind, 1, thing, cell, other, q3, q4⟩)) := by
  have l1 := Heap.get_lt h.g1
  have l2 := Heap.get_lt h.g2
  have l3 := Heap.get_lt h.g3
  have d1 : ¬ n1.1 = H.length := by omega
  have d2 : ¬ n2.1 = H.length := by omega
  have d3 : ¬ n3.1 = H.length := by omega
  have hp := hb.hp
  have hh := hb.hh
  have hg : s.hands.getD w hands0 = s.hands[w] := by simp [List.getD_eq_getElem?_getD, hh]
  have hgp : s.people.getD w 0 = s.people[w] := by simp [List.getD_eq_getElem?_getD, hp]
  have eh : heldV s w 1 = s.hands[w].r := by unfold heldV; rw [hg]; simp
  have eo : heldV s w (1 - 1) = s.hands[w].l := by unfold heldV; rw [hg]; simp
  have wr : IntKind.i64.wrap (1 - 1) = 0 := rfl
  have hk := hb.kind
  have hd := doV_def s w ⟨q1, w, kind, 1, thing, cell, other, q3, q4⟩
  have hheld := hb.held
  have hoth := hb.oth
  have htake := hb.take
  have hgive := hb.give
  have G23 : ∀ b, (H.set n2 b).get n3 = H.get n3 := fun b => Heap.get_set_other b h.n23.symm
  have S2 : ∀ x, (H.set n1 x).set n2 (.arr 2 (s.hands.map Hands.row) v2 false) = H.set n1 x := fun x => by rw [Heap.set_comm h.n12, h.s2]
  have S3 : ∀ x, (H.set n1 x).set n3 (.arr 2 (s.things.map Spot.row) v3 false) = H.set n1 x := fun x => by rw [Heap.set_comm h.n13, h.s3]
  have S4 : ∀ x, (H.set n2 x).set n3 (.arr 2 (s.things.map Spot.row) v3 false) = H.set n2 x := fun x => by rw [Heap.set_comm h.n23, h.s3]
  have s1 := h.s1
  have s2 := h.s2
  have s3 := h.s3
  have G22 : ∀ b, (H.set n2 b).get n2 = some b := fun b => Heap.get_set' l2
  simp only [eh, eo, hgp, putHand, hg] at hd hk hheld hoth htake hgive
  simp only [scH]
  by_cases k1 : kind = 1
  · subst k1
    simp at hd
    refine ⟨s.people.length, v2, v3, Nat.le_refl _, h.e2, h.e3, WPv_eq (call_enterR KC needT Try.func37 rfl rfl good37 rfl rfl rfl (by simp) hH ?_)⟩
    simp [d1, d2, d3, h.g1, h.g2, h.g3, h.e1, h.e2, h.e3, hp, hh, irow, Hands.row, wr, splice, gleave_free, hd, scSet, S2, S3]
  by_cases k2 : kind = 2
  · subst k2
    obtain ⟨t, rfl, ht⟩ := htake rfl
    have hgt : s.things[t]?.getD spot0 = s.things[t] := by simp [ht]
    simp [hgt] at hd
    refine ⟨v1, s.hands.length, s.things.length, h.e1, Nat.le_refl _, Nat.le_refl _, WPv_eq (call_enterR KC needT Try.func37 rfl rfl good37 rfl rfl rfl (by simp) hH ?_)⟩
    simp [d1, d2, d3, h.g1, h.g2, h.g3, h.e1, h.e2, h.e3, hp, hh, ht, Hands.row, Spot.row, wr, splice, gleave_free, hd, scSet, G23, s1]
  have hk3 : 3 ≤ kind := by omega
  obtain ⟨t, et, ht⟩ := hheld hk3
  simp only [et] at hd hgive
  have hgt : s.things[t]?.getD spot0 = s.things[t] := by simp [ht]
  by_cases k3 : kind = 3
  · subst k3
    simp [hgt] at hd
    refine ⟨v1, s.hands.length, s.things.length, h.e1, Nat.le_refl _, Nat.le_refl _, WPv_eq (call_enterR KC needT Try.func37 rfl rfl good37 rfl rfl rfl (by simp) hH ?_)⟩
    simp [d1, d2, d3, h.g1, h.g2, h.g3, h.e1, h.e2, h.e3, hp, hh, ht, et, irow, Hands.row, Spot.row, wr, splice, gleave_free, hd, scSet, G23, s1]
  by_cases k4 : kind = 4
  · subst k4
    obtain ⟨o, rfl, ho, how, htk⟩ := hgive rfl
    have hgo : s.hands[o]?.getD hands0 = s.hands[o] := by simp [ho]
    have hsw : ∀ x, (s.hands.set o x)[w]?.getD hands0 = s.hands[w] := fun x => by rw [List.getElem?_set_ne how]; simp [hh]
    simp [hgo, hsw] at hd
    have R : (frzVals ([(2, .box [.hdr n1 1 s.people.length 0 s.people.length, .hdr n2 2 s.hands.length 0 s.hands.length, .hdr n3 2 s.things.length 0 s.things.length]), (3, abox ⟨q1, w, 4, 1, thing, cell, o, q3, q4⟩)] :: H) [scH n1 n2 n3 s, .pure (.int .i64 o)]).1.map canon = [.pure (.agg s.row), .pure (.int .i64 o)] := by
      simp only [frzVals, frz_sc (ScAt.up h.toScAt), frzVal_pure]; rfl
    have T := fun (c : Nat) => bor_flat KC (f := 61) (c := c) rfl rfl R rfl (by simp) (fun H hH => takerR_ok (c := c) ho hhl hH) rfl
    simp only [scH, abox] at T
    rcases htk with z | z
    · rw [z] at hd T
      simp at hd
      refine ⟨v1, s.hands.length, v3, h.e1, Nat.le_refl _, h.e3, WPv_eq (call_enterR KC needT Try.func37 rfl rfl good37 rfl rfl rfl (by simp) hH ?_)⟩
      simp [d1, d2, d3, h.g1, h.g2, h.g3, h.e1, h.e2, h.e3, hp, hh, ht, et, ho, T, irow, Hands.row, Spot.row, wr, splice, gleave_free, hd, scSet, G22, G23, s1, S4, how, List.getElem_set_ne]
    · rw [z] at hd T
      simp at hd
      refine ⟨v1, s.hands.length, v3, h.e1, Nat.le_refl _, h.e3, WPv_eq (call_enterR KC needT Try.func37 rfl rfl good37 rfl rfl rfl (by simp) hH ?_)⟩
      simp [d1, d2, d3, h.g1, h.g2, h.g3, h.e1, h.e2, h.e3, hp, hh, ht, et, ho, T, irow, Hands.row, Spot.row, wr, splice, gleave_free, hd, scSet, G22, G23, s1, S4, how, List.getElem_set_ne]
  by_cases k5 : kind = 5
  · subst k5
    obtain ⟨u, eu, hu⟩ := hoth (.inl rfl)
    rw [eu] at hd
    simp at hd
    obtain ⟨v, hv, C, hS⟩ := setF_ok (fr := [(2, .box [.hdr n1 1 s.people.length 0 s.people.length, .hdr n2 2 s.hands.length 0 s.hands.length, .hdr n3 2 s.things.length 0 s.things.length]), (3, abox ⟨q1, w, 5, 1, thing, cell, other, q3, q4⟩)]) h (t := u) (bit := 1) (on := true) hu (by decide) 100
    simp only [scH, abox] at C
    refine ⟨v1, v2, v, h.e1, h.e2, hv, WPv_eq (call_enterR KC needT Try.func37 rfl rfl good37 rfl rfl rfl (by simp) hH ?_)⟩
    simp [d1, d2, d3, h.g1, h.g2, h.g3, h.e1, h.e2, h.e3, hp, hh, ht, et, eu, C, Hands.row, wr, gleave_free, hd, scSet, s1, s2]
  by_cases k6 : kind = 6
  · subst k6
    obtain ⟨u, eu, hu⟩ := hoth (.inr rfl)
    rw [eu] at hd
    simp at hd
    obtain ⟨v, hv, C, hS⟩ := setF_ok (fr := [(2, .box [.hdr n1 1 s.people.length 0 s.people.length, .hdr n2 2 s.hands.length 0 s.hands.length, .hdr n3 2 s.things.length 0 s.things.length]), (3, abox ⟨q1, w, 6, 1, thing, cell, other, q3, q4⟩)]) h (t := t) (bit := 2) (on := false) ht (by decide) 105
    obtain ⟨v', hv', C', hS'⟩ := setF_ok (fr := [(2, .box [.hdr n1 1 s.people.length 0 s.people.length, .hdr n2 2 s.hands.length 0 s.hands.length, .hdr n3 2 s.things.length 0 s.things.length]), (3, abox ⟨q1, w, 6, 1, thing, cell, other, q3, q4⟩)]) hS (t := t) (bit := 1) (on := false) (by rw [setV_len]; exact ht) (by decide) 108
    obtain ⟨v'', hv'', C'', hS''⟩ := setF_ok (fr := [(2, .box [.hdr n1 1 s.people.length 0 s.people.length, .hdr n2 2 s.hands.length 0 s.hands.length, .hdr n3 2 s.things.length 0 s.things.length]), (3, abox ⟨q1, w, 6, 1, thing, cell, other, q3, q4⟩)]) hS' (t := u) (bit := 2) (on := true) (by simp only [setV_len]; exact hu) (by decide) 111
    simp only [scH, abox, setV_len, Heap.set_set] at C C' C''
    simp only [setV_len] at hv''
    refine ⟨v1, v2, v'', h.e1, h.e2, hv'', WPv_eq (call_enterR KC needT Try.func37 rfl rfl good37 rfl rfl rfl (by simp) hH ?_)⟩
    simp [d1, d2, d3, h.g1, h.g2, h.g3, h.e1, h.e2, h.e3, hp, hh, ht, et, eu, C, C', C'', Hands.row, wr, gleave_free, hd, scSet, s1, s2]
  by_cases k7 : kind = 7
  · subst k7
    simp at hd
    obtain ⟨v, hv, C, hS⟩ := setF_ok (fr := [(2, .box [.hdr n1 1 s.people.length 0 s.people.length, .hdr n2 2 s.hands.length 0 s.hands.length, .hdr n3 2 s.things.length 0 s.things.length]), (3, abox ⟨q1, w, 7, 1, thing, cell, other, q3, q4⟩)]) h (t := t) (bit := 4) (on := true) ht (by decide) 116
    simp only [scH, abox] at C
    refine ⟨v1, v2, v, h.e1, h.e2, hv, WPv_eq (call_enterR KC needT Try.func37 rfl rfl good37 rfl rfl rfl (by simp) hH ?_)⟩
    simp [d1, d2, d3, h.g1, h.g2, h.g3, h.e1, h.e2, h.e3, hp, hh, ht, et, C, Hands.row, wr, gleave_free, hd, scSet, s1, s2]
  have k8 : kind = 8 := by omega
  subst k8
  simp at hd
  obtain ⟨v, hv, C, hS⟩ := setF_ok (fr := [(2, .box [.hdr n1 1 s.people.length 0 s.people.length, .hdr n2 2 s.hands.length 0 s.hands.length, .hdr n3 2 s.things.length 0 s.things.length]), (3, abox ⟨q1, w, 8, 1, thing, cell, other, q3, q4⟩)]) h (t := t) (bit := 4) (on := false) ht (by decide) 121
  simp only [scH, abox] at C
  refine ⟨v1, v2, v, h.e1, h.e2, hv, WPv_eq (call_enterR KC needT Try.func37 rfl rfl good37 rfl rfl rfl (by simp) hH ?_)⟩
  simp [d1, d2, d3, h.g1, h.g2, h.g3, h.e1, h.e2, h.e3, hp, hh, ht, et, C, Hands.row, wr, gleave_free, hd, scSet, s1, s2]
theorem do_ok {n1 n2 n3 : Nm} {v1 v2 v3 : Nat} {s : Scene} (h : ScSelf H n1 n2 n3 v1 v2 v3 s) {w : Nat} {a : RAct} (hb : DoB s w a) (hhl : s.hands.length ≤ 1000000) (hH : 0 < H.length) :
    ∃ v1' v2' v3', v1' ≤ s.people.length ∧ v2' ≤ s.hands.length ∧ v3' ≤ s.things.length ∧
      gcall KC (geval KC) 37 [scH n1 n2 n3 s, .pure (.agg a.row)] c H = some (.pure (.tuple []), scSet H n1 n2 n3 v1' v2' v3' (doV s w a)) := by
  obtain ⟨q1, who, kind, hand, thing, cell, other, q3, q4⟩ := a
  have e1 := hb.who
  have e2 := hb.hand
  simp only at e1 e2
  subst e1
  rcases e2 with rfl | rfl
  · exact do0_ok h hb hhl hH
  · exact do1_ok h hb hhl hH
end Go.Gh

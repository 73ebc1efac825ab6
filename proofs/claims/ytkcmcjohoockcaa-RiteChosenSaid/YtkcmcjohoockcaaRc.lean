/- What acts touch; acts apart (printed by gen17.py: the two hands alike). -/
import Derived.Test.YtkcmcjohoockcaaRb
namespace Go.Gh
open Go.Proofs
set_option linter.unusedSimpArgs false
set_option linter.unusedVariables false
set_option maxRecDepth 100000
set_option maxHeartbeats 4000000
variable {c : Nat} {H : Heap}
/-- Two lists have something in common. -/
noncomputable def commonV : List Int → List Int → Bool := hid fun l m => l.any fun x => m.contains x
theorem commonV_def (l m : List Int) : commonV l m = l.any fun x => m.contains x := by rw [commonV, hid_eq]
theorem common_loop2 (l m : List Int) (hm : m.length ≤ 1000000) (i : Nat) (hi : i < l.length) (H' : Heap) (f0 f1 : Fr) (hH' : H' = f1 :: f0 :: H) (Q : GX → GSt → Prop) :
    ∀ k j : Nat, j + k = m.length →
    ((m.drop j).contains l[i] = false → Q (.exit 2) ⟨[(0, .pure (.slice (l.map irow))), (1, .pure (.slice (m.map irow))), (4, gdead), (5, .pure (.int .i64 i))], H', 28⟩) →
    ((m.drop j).contains l[i] = true → Q .ret ⟨[(0, .pure (.slice (l.map irow))), (1, .pure (.slice (m.map irow))), (4, .pure (.bool true)), (5, .pure (.int .i64 i))], H', 28⟩) →
    WPL KC needT 85 (lp Try.f85 1) [0, 1, 5, 6] [0, 1, 4, 5] Q
      [(0, .pure (.slice (l.map irow))), (1, .pure (.slice (m.map irow))), (5, .pure (.int .i64 i)), (6, .pure (.int .i64 j))] H' 28 := by
  subst hH'
  intro k
  induction k with
  | zero =>
    intro j hj h1 h2
    have e1 : m.drop j = [] := List.drop_of_length_le (by omega)
    rw [e1] at h1
    have : ¬ j < m.length := by omega
    apply WPL_step
    conv => arg 4; whnf
    simp [this]
    exact h1 rfl
  | succ k ih =>
    intro j hj h1 h2
    have hja : j < m.length := by omega
    have hw := w64 (x := (j : Int) + 1) (by omega) (by omega)
    have ih' := ih (j + 1) (by omega)
    rw [List.drop_eq_getElem_cons hja, List.contains_cons] at h1 h2
    apply WPL_step
    conv => arg 4; whnf
    cases he : l[i] == m[j] with
    | true =>
      rw [he] at h2
      simp [hi, hja, irow, he]
      exact h2 rfl
    | false =>
      rw [he] at h1 h2
      rw [Bool.false_or] at h1 h2
      simp [hi, hja, irow, he, hw]
      exact ih' h1 h2
theorem common_loop (l m : List Int) (hl : l.length ≤ 1000000) (hm : m.length ≤ 1000000) (f0 : Fr) (Q : GX → GSt → Prop) :
    ∀ k i : Nat, i + k = l.length →
    (((l.drop i).any fun x => m.contains x) = false → Q (.exit 0) ⟨[(4, gdead)], f0 :: H, 28⟩) →
    (((l.drop i).any fun x => m.contains x) = true → Q .ret ⟨[(4, .pure (.bool true))], f0 :: H, 28⟩) →
    WPL KC needT 85 (lp Try.f85 0) [0, 1, 5] [4] Q
      [(0, .pure (.slice (l.map irow))), (1, .pure (.slice (m.map irow))), (5, .pure (.int .i64 i))] (f0 :: H) 28 := by
  intro k
  induction k with
  | zero =>
    intro i hi h1 h2
    have e1 : l.drop i = [] := List.drop_of_length_le (by omega)
    rw [e1] at h1
    have : ¬ i < l.length := by omega
    apply WPL_step
    conv => arg 4; whnf
    simp [this]
    exact h1 rfl
  | succ k ih =>
    intro i hi h1 h2
    have hia : i < l.length := by omega
    have hw := w64 (x := (i : Int) + 1) (by omega) (by omega)
    have ih' := ih (i + 1) (by omega)
    rw [List.drop_eq_getElem_cons hia, List.any_cons] at h1 h2
    apply WPL_step
    conv => arg 4; whnf
    have L := fun f1 Q => common_loop2 l m hm i hia (f1 :: f0 :: H) f0 f1 rfl Q m.length 0 (by omega)
    simp only [List.drop_zero] at L
    simp [hia]
    refine L _ _ (fun z => ?_) (fun z => ?_)
    · rw [z, Bool.false_or] at h1 h2
      simp [hw]
      exact ih' h1 h2
    · rw [z, Bool.true_or] at h2
      simp
      exact h2 rfl
theorem common_ok {l m : List Int} (hl : l.length ≤ 1000000) (hm : m.length ≤ 1000000) (hH : 0 < H.length) :
    gcall KC (geval KC) 85 [.pure (.slice (l.map irow)), .pure (.slice (m.map irow))] c H = some (.pure (.bool (commonV l m)), H) := by
  refine bor_c rfl rfl rfl rfl rfl hH fun H hH => ?_
  refine WPv_eq (call_enter0 KC needT Try.func85 rfl rfl good85 (by simp) hH ?_)
  have hd := commonV_def l m
  have L := fun f0 Q => common_loop (H := H) l m hl hm f0 Q l.length 0 (by omega)
  simp only [List.drop_zero] at L
  simp
  refine L _ _ (fun z => ?_) (fun z => ?_)
  · rw [z] at hd
    simp [gleave_free, hd]
  · rw [z] at hd
    simp [gleave_free, hd]
/-- What an act touches: people, things, cells. -/
structure Touch where
  people : List Int
  things : List Int
  cells : List Int
def Touch.row (t : Touch) : List PV := [.slice (t.people.map irow), .slice (t.things.map irow), .slice (t.cells.map irow)]
noncomputable def touchV : Scene → Nat → RAct → Touch := hid fun s w a =>
  if a.kind = 1 then ⟨[a.who], [], [s.people.getD w 0, a.cell]⟩
  else if a.kind = 2 then ⟨[a.who], [a.thing], []⟩
  else if a.kind = 4 then ⟨[a.who, a.other], [heldV s w a.hand], []⟩
  else if a.kind = 5 ∨ a.kind = 6 then ⟨[a.who], [heldV s w a.hand, heldV s w (1 - a.hand)], []⟩
  else ⟨[a.who], [heldV s w a.hand], []⟩
theorem touchV_def (s : Scene) (w : Nat) (a : RAct) : touchV s w a =
  if a.kind = 1 then ⟨[a.who], [], [s.people.getD w 0, a.cell]⟩
  else if a.kind = 2 then ⟨[a.who], [a.thing], []⟩
  else if a.kind = 4 then ⟨[a.who, a.other], [heldV s w a.hand], []⟩
  else if a.kind = 5 ∨ a.kind = 6 then ⟨[a.who], [heldV s w a.hand, heldV s w (1 - a.hand)], []⟩
  else ⟨[a.who], [heldV s w a.hand], []⟩ := by rw [touchV, hid_eq]
theorem touchV_len (s : Scene) (w : Nat) (a : RAct) : (touchV s w a).people.length ≤ 2 ∧ (touchV s w a).things.length ≤ 2 ∧ (touchV s w a).cells.length ≤ 2 := by
  rw [touchV_def]
  repeat' split
  all_goals simp
theorem touch0_ok {s : Scene} {w : Nat} {q1 kind thing cell other q3 q4 : Int} (hp : w < s.people.length) (hh : w < s.hands.length) (hH : 0 < H.length) :
    gcall KC (geval KC) 64 [.pure (.agg s.row), .pure (.agg [.int .i64 q1, .int .i64 w, .int .i64 kind, .int .i64 0, .int .i64 thing, .int .i64 cell, .int .i64 other, .int .i64 q3, .int .i64 q4])] c H =
        some (.pure (.agg (touchV s w ⟨q1, w, kind, 0, thing, cell, other, q3, q4⟩).row), H) := by
  refine WPv_eq (call_enter KC needT Try.func64 rfl rfl good64 rfl rfl rfl (by simp) hH ?_)
  have hg : s.hands.getD w hands0 = s.hands[w] := by simp [List.getD_eq_getElem?_getD, hh]
  have hgp : s.people.getD w 0 = s.people[w] := by simp [List.getD_eq_getElem?_getD, hp]
  have eh : heldV s w 0 = s.hands[w].l := by unfold heldV; rw [hg]; simp
  have eo : heldV s w (1 - 0) = s.hands[w].r := by unfold heldV; rw [hg]; simp
  have wr : IntKind.i64.wrap (1 - 0) = 1 := rfl
  have hnl : ¬ H.length ≤ H.length - 1 := by omega
  have hd := touchV_def s w ⟨q1, w, kind, 0, thing, cell, other, q3, q4⟩
  simp only [eh, eo, hgp] at hd
  simp only [Scene.row]
  by_cases k1 : kind = 1
  · subst k1
    simp at hd
    simp [hp, hh, irow, Hands.row, wr, gleave_free, hd, Touch.row, hnl]
  by_cases k2 : kind = 2
  · subst k2
    simp at hd
    simp [hp, hh, irow, Hands.row, wr, gleave_free, hd, Touch.row, hnl]
  by_cases k4 : kind = 4
  · subst k4
    simp at hd
    simp [hp, hh, irow, Hands.row, wr, gleave_free, hd, Touch.row, hnl]
  by_cases k5 : kind = 5
  · subst k5
    simp at hd
    simp [hp, hh, irow, Hands.row, wr, gleave_free, hd, Touch.row, hnl]
  by_cases k6 : kind = 6
  · subst k6
    simp at hd
    simp [hp, hh, irow, Hands.row, wr, gleave_free, hd, Touch.row, hnl]
  have k1' : (kind == 1) = false := by simpa using k1
  have k2' : (kind == 2) = false := by simpa using k2
  have k4' : (kind == 4) = false := by simpa using k4
  have k5' : (kind == 5) = false := by simpa using k5
  have k6' : (kind == 6) = false := by simpa using k6
  simp [k1, k2, k4, k5, k6] at hd
  simp [hp, hh, irow, Hands.row, wr, k1', k2', k4', k5', k6', gleave_free, hd, Touch.row, hnl]
theorem touch1_ok {s : Scene} {w : Nat} {q1 kind thing cell other q3 q4 : Int} (hp : w < s.people.length) (hh : w < s.hands.length) (hH : 0 < H.length) :
    gcall KC (geval KC) 64 [.pure (.agg s.row), .pure (.agg [.int .i64 q1, .int .i64 w, .int .i64 kind, .int .i64 1, .int .i64 thing, .int .i64 cell, .int .i64 other, .int .i64 q3, .int .i64 q4])] c H =
        some (.pure (.agg (touchV s w ⟨q1, w, kind, 1, thing, cell, other, q3, q4⟩).row), H) := by
  refine WPv_eq (call_enter KC needT Try.func64 rfl rfl good64 rfl rfl rfl (by simp) hH ?_)
  have hg : s.hands.getD w hands0 = s.hands[w] := by simp [List.getD_eq_getElem?_getD, hh]
  have hgp : s.people.getD w 0 = s.people[w] := by simp [List.getD_eq_getElem?_getD, hp]
  have eh : heldV s w 1 = s.hands[w].r := by unfold heldV; rw [hg]; simp
  have eo : heldV s w (1 - 1) = s.hands[w].l := by unfold heldV; rw [hg]; simp
  have wr : IntKind.i64.wrap (1 - 1) = 0 := rfl
  have hnl : ¬ H.length ≤ H.length - 1 := by omega
  have hd := touchV_def s w ⟨q1, w, kind, 1, thing, cell, other, q3, q4⟩
  simp only [eh, eo, hgp] at hd
  simp only [Scene.row]
  by_cases k1 : kind = 1
  · subst k1
    simp at hd
    simp [hp, hh, irow, Hands.row, wr, gleave_free, hd, Touch.row, hnl]
  by_cases k2 : kind = 2
  · subst k2
    simp at hd
    simp [hp, hh, irow, Hands.row, wr, gleave_free, hd, Touch.row, hnl]
  by_cases k4 : kind = 4
  · subst k4
    simp at hd
    simp [hp, hh, irow, Hands.row, wr, gleave_free, hd, Touch.row, hnl]
  by_cases k5 : kind = 5
  · subst k5
    simp at hd
    simp [hp, hh, irow, Hands.row, wr, gleave_free, hd, Touch.row, hnl]
  by_cases k6 : kind = 6
  · subst k6
    simp at hd
    simp [hp, hh, irow, Hands.row, wr, gleave_free, hd, Touch.row, hnl]
  have k1' : (kind == 1) = false := by simpa using k1
  have k2' : (kind == 2) = false := by simpa using k2
  have k4' : (kind == 4) = false := by simpa using k4
  have k5' : (kind == 5) = false := by simpa using k5
  have k6' : (kind == 6) = false := by simpa using k6
  simp [k1, k2, k4, k5, k6] at hd
  simp [hp, hh, irow, Hands.row, wr, k1', k2', k4', k5', k6', gleave_free, hd, Touch.row, hnl]
theorem touch_ok {s : Scene} {w : Nat} {a : RAct} (hp : w < s.people.length) (hh : w < s.hands.length) (hw : a.who = w) (ha : a.hand = 0 ∨ a.hand = 1) (hH : 0 < H.length) :
    gcall KC (geval KC) 64 [.pure (.agg s.row), .pure (.agg a.row)] c H = some (.pure (.agg (touchV s w a).row), H) := by
  obtain ⟨q1, who, kind, hand, thing, cell, other, q3, q4⟩ := a
  simp only at hw ha
  subst hw
  rcases ha with rfl | rfl
  · exact touch0_ok hp hh hH
  · exact touch1_ok hp hh hH
noncomputable def bothV : Touch → Touch → Bool := hid fun a b => commonV a.people b.people || (commonV a.things b.things || commonV a.cells b.cells)
theorem bothV_def (a b : Touch) : bothV a b = (commonV a.people b.people || (commonV a.things b.things || commonV a.cells b.cells)) := by rw [bothV, hid_eq]
theorem both_ok {a b : Touch} (ha : a.people.length ≤ 2 ∧ a.things.length ≤ 2 ∧ a.cells.length ≤ 2) (hb : b.people.length ≤ 2 ∧ b.things.length ≤ 2 ∧ b.cells.length ≤ 2) (hH : 0 < H.length) :
    gcall KC (geval KC) 63 [.pure (.agg a.row), .pure (.agg b.row)] c H = some (.pure (.bool (bothV a b)), H) := by
  refine bor_c rfl rfl rfl rfl rfl hH fun H hH => ?_
  refine WPv_eq (call_enter0 KC needT Try.func63 rfl rfl good63 (by simp) hH ?_)
  have hd := bothV_def a b
  have C := fun (l m : List Int) (hl : l.length ≤ 2) (hm : m.length ≤ 2) (c : Nat) (H : Heap) (hH : 0 < H.length) => common_ok (c := c) (H := H) (l := l) (m := m) (by omega) (by omega) hH
  simp only [Touch.row]
  cases z1 : commonV a.people b.people with
  | true =>
    simp [z1] at hd
    simp [C, ha, hb, z1, gleave_free, hd]
  | false =>
    cases z2 : commonV a.things b.things with
    | true =>
      simp [z1, z2] at hd
      simp [C, ha, hb, z1, z2, gleave_free, hd]
    | false =>
      simp [z1, z2] at hd
      simp [C, ha, hb, z1, z2, gleave_free, hd]
/-- Acts that touch nothing in common. -/
noncomputable def apartV : Scene → Nat → RAct → Nat → RAct → Bool := hid fun s w a v b => !bothV (touchV s w a) (touchV s v b)
theorem apartV_def (s : Scene) (w : Nat) (a : RAct) (v : Nat) (b : RAct) : apartV s w a v b = !bothV (touchV s w a) (touchV s v b) := by rw [apartV, hid_eq]
theorem apart_ok {s : Scene} {w v : Nat} {a b : RAct} (hp : w < s.people.length) (hh : w < s.hands.length) (hw : a.who = w) (ha : a.hand = 0 ∨ a.hand = 1)
    (hp2 : v < s.people.length) (hh2 : v < s.hands.length) (hw2 : b.who = v) (hb : b.hand = 0 ∨ b.hand = 1) (hH : 0 < H.length) :
    gcall0 KC (geval KC) 38 [.pure (.agg s.row), .pure (.agg a.row), .pure (.agg b.row)] c H = some (.pure (.bool (apartV s w a v b)), H) := by
  refine WPv_eq (call_enter0 KC needT Try.func38 rfl rfl good38 (by simp) hH ?_)
  have hd := apartV_def s w a v b
  have T1 := fun c (H : Heap) (hH : 0 < H.length) => touch_ok (c := c) (H := H) hp hh hw ha hH
  have T2 := fun c (H : Heap) (hH : 0 < H.length) => touch_ok (c := c) (H := H) hp2 hh2 hw2 hb hH
  have B := fun c (H : Heap) (hH : 0 < H.length) => both_ok (c := c) (H := H) (touchV_len s w a) (touchV_len s v b) hH
  simp only [Scene.row, RAct.row, Touch.row] at T1 T2 B ⊢
  simp [T1, T2, B, gleave_free, hd]
end Go.Gh


/- A copy of a scene; a shuffled row of numbers. -/
namespace Go.Gh
open Go.Proofs
set_option linter.unusedSimpArgs false
set_option linter.unusedVariables false
set_option maxRecDepth 100000
set_option maxHeartbeats 4000000
variable {c : Nat} {H : Heap}
@[simp] theorem irow_len (x : Int) : (irow x).length = 1 := rfl
@[simp] theorem Hrow_len (x : Hands) : x.row.length = 2 := rfl
@[simp] theorem Srow_len (x : Spot) : x.row.length = 2 := rfl
theorem own_ok {n1 n2 n3 : Nm} {v1 v2 v3 : Nat} {s : Scene} (h : ScAt H n1 n2 n3 v1 v2 v3 s) (p0 : s.people ≠ []) (h0 : s.hands ≠ []) (t0 : s.things ≠ []) (pl : s.people.length ≤ 1000000) (hl : s.hands.length ≤ 1000000) (tl : s.things.length ≤ 1000000) (hH : 0 < H.length)
    (hf1 : H.get (H.length - 1, newKey c 6) = none) (hf2 : H.get (H.length - 1, newKey c 10) = none) (hf3 : H.get (H.length - 1, newKey c 14) = none) :
    gcall KC (geval KC) 36 [scH n1 n2 n3 s] c H = some (scH (H.length - 1, newKey c 6) (H.length - 1, newKey c 10) (H.length - 1, newKey c 14) s,
      scSet H (H.length - 1, newKey c 6) (H.length - 1, newKey c 10) (H.length - 1, newKey c 14) 0 0 0 s) := by
  refine WPv_eq (call_enterR KC needT Try.func36 rfl rfl good36 rfl rfl rfl (by simp) hH ?_)
  have l1 := Heap.get_lt h.g1
  have l2 := Heap.get_lt h.g2
  have l3 := Heap.get_lt h.g3
  have d1 : ¬ n1.1 = H.length := by omega
  have d2 : ¬ n2.1 = H.length := by omega
  have d3 : ¬ n3.1 = H.length := by omega
  have b1 : s.people.length * 8 ≤ 1099511627776 := by omega
  have b2 : s.hands.length * 16 ≤ 1099511627776 := by omega
  have b3 : s.things.length * 16 ≤ 1099511627776 := by omega
  have n12 : newKey c 6 ≠ newKey c 10 := by unfold newKey; omega
  have n13 : newKey c 6 ≠ newKey c 14 := by unfold newKey; omega
  have n23 : newKey c 10 ≠ newKey c 14 := by unfold newKey; omega
  have k1 : (H.length - 1, newKey c 10) ≠ ((H.length - 1, newKey c 6) : Nm) := fun e => n12 (Prod.mk.inj e).2.symm
  have k2 : (H.length - 1, newKey c 14) ≠ ((H.length - 1, newKey c 6) : Nm) := fun e => n13 (Prod.mk.inj e).2.symm
  have k3 : (H.length - 1, newKey c 14) ≠ ((H.length - 1, newKey c 10) : Nm) := fun e => n23 (Prod.mk.inj e).2.symm
  have g2 : ∀ b, (H.set (H.length - 1, newKey c 6) b).get (H.length - 1, newKey c 10) = none := fun b => (Heap.get_set_other b k1).trans hf2
  have g3 : ∀ b b', ((H.set (H.length - 1, newKey c 6) b).set (H.length - 1, newKey c 10) b').get (H.length - 1, newKey c 14) = none := fun b b' => (Heap.get_set_other b' k3).trans ((Heap.get_set_other b k2).trans hf3)
  have tp : List.take s.people.length (s.people.map irow) = s.people.map irow := List.take_of_length_le (by simp)
  have th : List.take s.hands.length (s.hands.map Hands.row) = s.hands.map Hands.row := List.take_of_length_le (by simp)
  have tt : List.take s.things.length (s.things.map Spot.row) = s.things.map Spot.row := List.take_of_length_le (by simp)
  have hn : ¬ H.length + 1 ≤ H.length := by omega
  simp only [scH]
  simp [tp, th, tt, hn, d1, d2, d3, h.g1, h.g2, h.g3, h.e1, h.e2, h.e3, p0, h0, t0, b1, b2, b3]
  simp [gleave_keep, refs, refs2, refs1, dedup, moveOut, cleanBlk, hf1, g2, g3, ren, ren2, ren1, scSet]
end Go.Gh


/- A shuffled row of numbers. -/
namespace Go.Gh
open Go.Proofs
set_option linter.unusedSimpArgs false
set_option linter.unusedVariables false
set_option maxRecDepth 100000
set_option maxHeartbeats 4000000
variable {c : Nat} {H : Heap}
def swapL (l : List Int) (i j : Nat) : List Int := ((l ++ [(i : Int)]).set i ((l ++ [(i : Int)]).getD j 0)).set j i
theorem swapL_len (l : List Int) (i j : Nat) : (swapL l i j).length = l.length + 1 := by simp [swapL]
noncomputable def orderR : Nat → Nat → List Int → Int → List Int × Int
  | 0, _, l, wd => (l, wd)
  | k + 1, i, l, wd => orderR k (i + 1) (swapL l i (upR wd (i + 1 : Nat)).1.toNat) (upR wd (i + 1 : Nat)).2
theorem set_perm (l : List Int) (j : Nat) (hj : j < l.length) (x : Int) : (l.set j x ++ [l[j]]).Perm (l ++ [x]) := by
  have e : l = l.take j ++ l[j] :: l.drop (j + 1) := by rw [← List.drop_eq_getElem_cons hj, List.take_append_drop]
  have e2 : l.set j x = l.take j ++ x :: l.drop (j + 1) := List.set_eq_take_append_cons_drop .. |>.trans (by simp [hj])
  rw [e2]
  conv => rhs; rw [e]
  simp only [List.append_assoc]
  refine List.Perm.append_left _ ?_
  simp only [List.cons_append]
  refine (List.Perm.cons x List.perm_append_comm).trans ?_
  simp only [List.singleton_append]
  refine (List.Perm.swap ..).trans ?_
  refine List.Perm.cons _ ?_
  exact (List.perm_append_comm (l₁ := [x]) (l₂ := l.drop (j + 1)))
theorem swapL_perm (l : List Int) (i j : Nat) (hl : l.length = i) (hj : j ≤ i) : (swapL l i j).Perm (l ++ [(i : Int)]) := by
  subst hl
  unfold swapL
  by_cases e : j = l.length
  · subst e; simp
  · have hj' : j < l.length := by omega
    have h1 : (l ++ [(l.length : Int)]).getD j 0 = l[j] := by simp [List.getD_eq_getElem?_getD, List.getElem?_append_left hj', hj']
    rw [h1]
    have h2 : (l ++ [(l.length : Int)]).set l.length l[j] = l ++ [l[j]] := by simp
    rw [h2]
    have h3 : (l ++ [l[j]]).set j (l.length : Int) = l.set j l.length ++ [l[j]] := by rw [List.set_append_left _ _ hj']
    rw [h3]
    exact set_perm l j hj' _
theorem orderR_perm : ∀ (k i : Nat) (l : List Int) (wd : Int), l.Perm ((List.range i).map Int.ofNat) → i + k ≤ 1000000 → (orderR k i l wd).1.Perm ((List.range (i + k)).map Int.ofNat)
  | 0, i, l, wd, h, _ => by simpa [orderR] using h
  | k + 1, i, l, wd, h, hk => by
    have hr := upR_rng wd ((i + 1 : Nat) : Int) (by omega)
    have hl : l.length = i := by simpa using h.length_eq
    have e : i + (k + 1) = i + 1 + k := by omega
    rw [orderR, e]
    refine orderR_perm k (i + 1) _ _ ((swapL_perm l i _ hl (by omega)).trans ?_) (by omega)
    rw [List.range_succ, List.map_append]
    exact h.append_right _
def ordF (l : List Int) : Fr := [(20, .arr 1 (l.map irow) l.length false)]
theorem order_loop {nm : Nm} (hlt : nm.1 < H.length) (n : Nat) (hn : n ≤ 1000000) (Q : GX → GSt → Prop) : ∀ (k i : Nat) (l : List Int) (wd : Int), i + k = n → l.length = i → 0 < i →
    Q (.exit 0) ⟨[(5, .hdr (H.length, 20) 1 (orderR k i l wd).1.length 0 (orderR k i l wd).1.length)], ordF (orderR k i l wd).1 :: H.set nm (wbox (orderR k i l wd).2), 36⟩ →
    WPL KC needT 58 (lp Try.f58 0) [0, 1, 5, 6] [5] Q
      [(0, .bptr nm 0), (1, .pure (.int .i64 n)), (5, .hdr (H.length, 20) 1 l.length 0 l.length), (6, .pure (.int .i64 i))] (ordF l :: H.set nm (wbox wd)) 36 := by
  have hB : ∀ w f0 f1, isBox (f0 :: f1 :: H.set nm (wbox w)) nm := fun w f0 f1 => isBox_up (isBox_up (isBox_set' hlt))
  have hne : ¬ nm.1 = H.length := by omega
  have hne2 : ¬ nm.1 = H.length + 1 := by omega
  have hle : nm.1 ≤ H.length := by omega
  intro k
  induction k with
  | zero =>
    intro i l wd hi hl h0 hq
    have : ¬ i < n := by omega
    apply WPL_step
    conv => arg 4; whnf
    simp [ordF, this, Heap.length_set]
    simpa [ordF, orderR] using hq
  | succ k ih =>
    intro i l wd hi hl h0 hq
    have hia : i < n := by omega
    have hw := w64 (x := (i : Int) + 1) (by omega) (by omega)
    have hr := upR_rng wd ((i + 1 : Nat) : Int) (by omega)
    obtain ⟨j, ej⟩ : ∃ j : Nat, (upR wd ((i + 1 : Nat) : Int)).1 = j := ⟨(upR wd ((i + 1 : Nat) : Int)).1.toNat, by omega⟩
    have ih' := ih (i + 1) (swapL l i j) (upR wd ((i + 1 : Nat) : Int)).2 (by omega) (by rw [swapL_len, hl]) (by omega)
    rw [orderR, ej, Int.toNat_natCast] at hq
    have ih'' := ih' hq
    have hji : j < l.length + 1 := by omega
    have ec : ((i + 1 : Nat) : Int) = (i : Int) + 1 := by omega
    rw [ec] at ej ih''
    have hb : (l.length + 1) * 8 ≤ 1099511627776 := by omega
    have hnb : (i : Int) + 1 ≤ 9223372036854775807 := by omega
    have hW : ∀ w f0 f1, wordAt (f0 :: f1 :: H.set nm (wbox w)) nm = w := fun w f0 f1 => by rw [wordAt_up (by simp [Heap.length_set]; omega), wordAt_up (by simpa [Heap.length_set] using hlt), wordAt_set hlt]
    subst hl
    obtain ⟨m, em⟩ : ∃ m, m = l ++ [(l.length : Int)] := ⟨_, rfl⟩
    have hm : m.length = l.length + 1 := by simp [em]
    have ra : List.map irow l ++ [[PV.int .i64 l.length]] = List.map irow m := by simp [em, irow]
    have hjm : j < m.length := by omega
    have him : l.length < m.length := by omega
    have hjI : (j : Int) < (l.length : Int) + 1 := by omega
    have hiI : (l.length : Int) < (l.length : Int) + 1 := by omega
    have gi : m[l.length] = (l.length : Int) := by simp [em]
    have sw : swapL l l.length j = (m.set l.length m[j]).set j l.length := by
      unfold swapL; rw [← em]; simp [List.getD_eq_getElem?_getD, hjm]
    rw [sw] at ih''
    have hgj : ((List.map irow m).set l.length [PV.int .i64 m[j]])[j]'(by simpa using hjm) = [PV.int .i64 m[j]] := by rw [List.getElem_set]; split <;> simp [irow]
    apply WPL_step
    conv => arg 4; whnf
    simp [ordF, hia, hw, Heap.length_set, up_ok, hB, hW, hnb, hlt, hne, hne2, Heap.set_up, ej, hb, hji, hjI, hiI, hle, ra, hm, irow, splice, gi, hgj]
    simpa [ordF, irow, hm] using ih''
noncomputable def orderV : Nat → Int → List Int × Int := hid fun n wd => orderR n 0 [] wd
theorem orderV_def (n : Nat) (wd : Int) : orderV n wd = orderR n 0 [] wd := by rw [orderV, hid_eq]
theorem orderV_perm {n : Nat} (wd : Int) (hn : n ≤ 1000000) : (orderV n wd).1.Perm ((List.range n).map Int.ofNat) := by
  rw [orderV_def]
  simpa using orderR_perm n 0 [] wd (by simp) (by omega)
theorem order_ok {nm : Nm} (hB : isBox H nm) {n : Nat} (h0 : 0 < n) (hn : n ≤ 1000000) :
    gcall KC (geval KC) 58 [.bptr nm 0, .pure (.int .i64 n)] c H = some (.pure (.slice ((orderV n (wordAt H nm)).1.map irow)), H.set nm (wbox (orderV n (wordAt H nm)).2)) := by
  have hlt := isBox_lt hB
  have hset := isBox_set hB
  have hne : ¬ nm.1 = H.length := by omega
  have hne2 : ¬ nm.1 = H.length + 1 := by omega
  have hle : nm.1 ≤ H.length := by omega
  have hB2 : ∀ f0 f1, isBox (f0 :: f1 :: H) nm := fun f0 f1 => isBox_up (isBox_up hB)
  have hW : ∀ f0 f1, wordAt (f0 :: f1 :: H) nm = wordAt H nm := fun f0 f1 => by rw [wordAt_up (by simp; omega), wordAt_up hlt]
  have hnl : ¬ H.length ≤ H.length - 1 := by omega
  refine WPv_eq (call_enter KC needT Try.func58 rfl rfl good58 rfl rfl rfl (by simp) (by omega) ?_)
  obtain ⟨k, rfl⟩ : ∃ k, n = k + 1 := ⟨n - 1, by omega⟩
  have hr := upR_rng (wordAt H nm) 1 (by omega)
  have ej : (upR (wordAt H nm) 1).1 = 0 := by omega
  have L := fun Q => order_loop (H := H) hlt (k + 1) hn Q k 1 [0] (upR (wordAt H nm) 1).2 (by omega) rfl (by omega)
  have hd := orderV_def (k + 1) (wordAt H nm)
  have e1 : orderR (k + 1) 0 [] (wordAt H nm) = orderR k 1 [0] (upR (wordAt H nm) 1).2 := by
    rw [orderR]; simp [ej, swapL]
  rw [e1] at hd
  have hk : (0 : Int) < (k : Int) + 1 := by omega
  simp [ordF] at L
  simp
  apply WPL_step
  conv => arg 4; whnf
  simp [hk, Heap.length_set, up_ok, hB2, hW, hlt, hne, hne2, Heap.set_up, ej, hle, irow, splice]
  simp [irow] at L
  refine L _ ?_
  have tk : ∀ l : List Int, List.take l.length (List.map irow l) = List.map irow l := fun l => List.take_of_length_le (by simp)
  simp [gleave_free, hd, Heap.length_set, hnl, tk]
end Go.Gh


/- A room drawn: its people. -/
namespace Go.Gh
open Go.Proofs
set_option linter.unusedSimpArgs false
set_option linter.unusedVariables false
set_option maxRecDepth 100000
set_option maxHeartbeats 4000000
variable {c : Nat} {H : Heap}
theorem box2 {nm : Nm} (hlt : nm.1 < H.length) (w : Int) (f0 f1 : Fr) : isBox (f0 :: f1 :: H.set nm (wbox w)) nm := isBox_up (isBox_up (isBox_set' hlt))
theorem box1 {nm : Nm} (hlt : nm.1 < H.length) (w : Int) (f1 : Fr) : isBox (f1 :: H.set nm (wbox w)) nm := isBox_up (isBox_set' hlt)
theorem word2 {nm : Nm} (hlt : nm.1 < H.length) (w : Int) (f0 f1 : Fr) : wordAt (f0 :: f1 :: H.set nm (wbox w)) nm = w := by
  rw [wordAt_up (by simp [Heap.length_set]; omega), wordAt_up (by simpa [Heap.length_set] using hlt), wordAt_set hlt]
theorem word1 {nm : Nm} (hlt : nm.1 < H.length) (w : Int) (f1 : Fr) : wordAt (f1 :: H.set nm (wbox w)) nm = w := by
  rw [wordAt_up (by simpa [Heap.length_set] using hlt), wordAt_set hlt]
def zbox : Blk := .box [.pure (.int .i64 0), .pure (.int .i64 0), .nils, .nils, .nils, .nils, .nils]
def rm1 (w d : Int) (L : Nat) (p : List Person) : Fr :=
  [(4, zbox), (5, .box [.pure (.int .i64 w), .pure (.int .i64 d), .hdr (L, 46) 2 p.length 0 p.length, .nils, .nils, .nils, .nils]), (46, .arr 2 (p.map Person.row) 0 false)]
theorem room_loop1 {nm : Nm} (hlt : nm.1 < H.length) (w d : Int) (cells : List Int) (hcl : cells.length ≤ 1000000) (Q : GX → GSt → Prop) : ∀ (k : Nat) (p : List Person) (wd : Int), p.length + k ≤ cells.length → 0 < p.length → p.map Person.cell = cells.take p.length → (∀ x ∈ p, 1 ≤ x.role ∧ x.role ≤ 3) →
    (∀ (p' : List Person) (wd' : Int), p'.length = p.length + k → p'.map Person.cell = cells.take p'.length → (∀ x ∈ p', 1 ≤ x.role ∧ x.role ≤ 3) →
      Q (.exit 0) ⟨[(0, .bptr nm 0), (4, .bptr (H.length, 4) 0), (5, .bptr (H.length, 5) 0)], rm1 w d H.length p' :: H.set nm (wbox wd'), 99⟩) →
    WPL KC needT 32 (lp Try.f32 0) [0, 4, 5, 6, 7] [0, 4, 5] Q
      [(0, .bptr nm 0), (4, .bptr (H.length, 4) 0), (5, .bptr (H.length, 5) 0), (6, .pure (.slice (cells.map irow))), (7, .pure (.int .i64 k))] (rm1 w d H.length p :: H.set nm (wbox wd)) 99 := by
  have hne : ¬ nm.1 = H.length := by omega
  have hne2 : ¬ nm.1 = H.length + 1 := by omega
  have hle : nm.1 ≤ H.length := by omega
  have hB := fun w f0 f1 => box2 hlt w f0 f1
  have hW := fun w f0 f1 => word2 hlt w f0 f1
  intro k
  induction k with
  | zero =>
    intro p wd hi h0 hpc hpr hq
    have hq' := hq p wd (by omega) hpc hpr
    apply WPL_step
    conv => arg 4; whnf
    simp [rm1, Heap.length_set, hle]
    simpa [rm1] using hq'
  | succ k ih =>
    intro p wd hi h0 hpc hpr hq
    have hw := w64 (x := ((k : Int) + 1) - 1) (by omega) (by omega)
    have hk : (0 : Int) < (k : Int) + 1 := by omega
    have hia : p.length < cells.length := by omega
    have hr := anyR_rng wd 1 3 (by omega) (by omega) (by omega)
    have hb : (p.length + 1) * 16 ≤ 1099511627776 := by omega
    have es : (k : Int) + 1 - 1 = k := by omega
    rw [es] at hw
    have ih' := ih (p ++ [⟨(anyR wd 1 3).1, cells[p.length]⟩]) (anyR wd 1 3).2 (by simp; omega) (by simp) (by
      simp only [List.map_append, List.map_cons, List.map_nil, hpc, List.length_append, List.length_singleton]
      exact List.take_append_getElem hia) (by
      intro x hx
      rcases List.mem_append.1 hx with hx | hx
      · exact hpr x hx
      · simp at hx; subst hx; exact hr) (fun p' wd' h1 h2 h3 => hq p' wd' (by rw [h1]; simp; omega) h2 h3)
    apply WPL_step
    conv => arg 4; whnf
    simp [rm1, hk, es, hw, Heap.length_set, any_ok, hB, hW, hlt, hne, hne2, Heap.set_up, hle, irow, hia, hb]
    simpa [rm1, Person.row] using ih'
end Go.Gh


/- A room drawn: its things, its lapses. -/
namespace Go.Gh
open Go.Proofs
set_option linter.unusedSimpArgs false
set_option linter.unusedVariables false
set_option maxRecDepth 100000
set_option maxHeartbeats 4000000
variable {c : Nat} {H : Heap}
theorem upR_get (w n : Int) (h : n ≤ 9223372036854775807) (h1 : 1 ≤ n) : ∃ (i : Nat) (w' : Int), upR w n = ((i : Int), w') ∧ (i : Int) < n := by
  have := upR_rng w n h
  refine ⟨(upR w n).1.toNat, (upR w n).2, ?_, ?_⟩
  · rw [Int.toNat_of_nonneg this.1]
  · omega
theorem anyR_get (w : Int) (hi : Int) (h : hi ≤ 1000000) (h1 : 1 ≤ hi) : ∃ (i : Nat) (w' : Int), anyR w 1 hi = ((i : Int), w') ∧ 1 ≤ i ∧ (i : Int) ≤ hi := by
  have := anyR_rng w 1 hi (by omega) (by omega) (by omega)
  refine ⟨(anyR w 1 hi).1.toNat, (anyR w 1 hi).2, ?_, ?_, ?_⟩
  · rw [Int.toNat_of_nonneg (by omega)]
  · omega
  · omega
def rm2 (w d : Int) (L : Nat) (p : List Person) (ts : List Thing) : Fr :=
  [(4, zbox), (5, .box [.pure (.int .i64 w), .pure (.int .i64 d), .hdr (L, 46) 2 p.length 0 p.length, apS (L, 83) 5 (ts.map Thing.row), .nils, .nils, .nils]), (46, .arr 2 (p.map Person.row) 0 false)]
def ThB (w d : Int) (t : Thing) : Prop := 0 ≤ t.cell ∧ t.cell < w * d ∧ 0 ≤ t.state ∧ t.state < 16 ∧ t.home = 0 ∧ t.want = 0
theorem room_loop2 {nm : Nm} (hlt : nm.1 < H.length) (w d : Int) (hwd : IntKind.i64.wrap (w * d) = w * d) (hwd1 : 0 < w * d) (hwd2 : w * d ≤ 1000000) (p : List Person) (hp : p ≠ []) (hpl : p.length ≤ 1000000) (hpc : ∀ x ∈ p, 0 ≤ x.cell ∧ x.cell < w * d) (Q : GX → GSt → Prop) : ∀ (k : Nat) (ts : List Thing) (wd : Int), ts.length + k ≤ 1000000 → (∀ t ∈ ts, ThB w d t) →
    (∀ (ts' : List Thing) (wd' : Int), ts'.length = ts.length + k → (∀ t ∈ ts', ThB w d t) →
      Q (.exit 2) ⟨[(0, .bptr nm 0), (4, .bptr (H.length, 4) 0), (5, .bptr (H.length, 5) 0)], apF 83 5 (ts'.map Thing.row) (rm2 w d H.length p ts') :: H.set nm (wbox wd'), 99⟩) →
    WPL KC needT 32 (lp Try.f32 1) [0, 4, 5, 8] [0, 4, 5] Q
      [(0, .bptr nm 0), (4, .bptr (H.length, 4) 0), (5, .bptr (H.length, 5) 0), (8, .pure (.int .i64 k))] (apF 83 5 (ts.map Thing.row) (rm2 w d H.length p ts) :: H.set nm (wbox wd)) 99 := by
  have hne : ¬ nm.1 = H.length := by omega
  have hne2 : ¬ nm.1 = H.length + 1 := by omega
  have hle : nm.1 ≤ H.length := by omega
  have hB := fun w f0 f1 => box2 hlt w f0 f1
  have hW := fun w f0 f1 => word2 hlt w f0 f1
  have lp0 : 0 < p.length := List.length_pos_iff.2 hp
  have hplI : (p.length : Int) ≤ 9223372036854775807 := by omega
  have hwdI : w * d ≤ 9223372036854775807 := by omega
  intro k
  induction k with
  | zero =>
    intro ts wd hi hts hq
    have hq' := hq ts wd (by omega) hts
    apply WPL_step
    conv => arg 4; whnf
    simp [rm2, Heap.length_set, hle]
    simpa [rm2] using hq'
  | succ k ih =>
    intro ts wd hi hts hq
    have hw := w64 (x := ((k : Int) + 1) - 1) (by omega) (by omega)
    have hk : (0 : Int) < (k : Int) + 1 := by omega
    have hb : (ts.length + 1) * 40 ≤ 1099511627776 := by omega
    have es : (k : Int) + 1 - 1 = k := by omega
    rw [es] at hw
    obtain ⟨i, w1, e1, hi1I⟩ := upR_get wd p.length hplI (by omega)
    have hi1 : i < p.length := by omega
    obtain ⟨st, w2, e2, hst⟩ := upR_get w1 16 (by omega) (by omega)
    obtain ⟨cl, w3, e3⟩ : ∃ (cl : Bool) (w3 : Int), oneR w2 3 = (cl, w3) := ⟨_, _, rfl⟩
    obtain ⟨mv, w4, e4⟩ : ∃ (mv : Bool) (w4 : Int), oneR w3 5 = (mv, w4) := ⟨_, _, rfl⟩
    have hin : ¬ (i : Int) < 0 := by omega
    have ih' := fun (t : Thing) (w' : Int) (ht : ThB w d t) => ih (ts ++ [t]) w' (by simp; omega) (by
      intro x hx
      rcases List.mem_append.1 hx with hx | hx
      · exact hts x hx
      · simp at hx; subst hx; exact ht) (fun p' wd' h1 h2 => hq p' wd' (by rw [h1]; simp; omega) h2)
    have hcell := hpc p[i] (List.getElem_mem hi1)
    apply WPL_step
    conv => arg 4; whnf
    cases mv with
    | false =>
      have ih2 := ih' ⟨p[i].cell, st, 0, 0, cl⟩ w4 ⟨hcell.1, hcell.2, Int.natCast_nonneg st, hst, rfl, rfl⟩
      simp [rm2, Thing.row] at ih2
      simp [rm2, hk, es, hw, Heap.length_set, up_ok, one_ok, hB, hW, hplI, hlt, hne, hne2, Heap.set_up, hle, irow, hb, e1, e2, e3, e4, hi1, hi1I, hin, Person.row]
      exact ih2
    | true =>
      obtain ⟨cc, w5, e5, hcc⟩ := upR_get w4 (w * d) hwdI (by omega)
      have ih2 := ih' ⟨cc, st, 0, 0, cl⟩ w5 ⟨Int.natCast_nonneg cc, hcc, Int.natCast_nonneg st, hst, rfl, rfl⟩
      simp [rm2, Thing.row] at ih2
      simp [rm2, hk, es, hw, Heap.length_set, up_ok, one_ok, hB, hW, hplI, hlt, hne, hne2, Heap.set_up, hle, irow, hb, e1, e2, e3, e4, e5, hwd, hwdI, hi1, hi1I, hin, Person.row]
      exact ih2
def rm3 (w d : Int) (L : Nat) (p : List Person) (ts : List Thing) (ls : List Int) : Fr :=
  [(4, zbox), (5, .box [.pure (.int .i64 w), .pure (.int .i64 d), .hdr (L, 46) 2 p.length 0 p.length, .hdr (L, 83) 5 ts.length 0 ts.length, .nils, apS (L, 96) 1 (ls.map irow), .nils]), (46, .arr 2 (p.map Person.row) 0 false), (83, .arr 5 (ts.map Thing.row) 0 false)]
theorem room_loop3 {nm : Nm} (hlt : nm.1 < H.length) (w d : Int) (p : List Person) (ts : List Thing) (Q : GX → GSt → Prop) : ∀ (k i : Nat) (ls : List Int) (wd : Int), i + k = 4 → 1 ≤ i → ls.length < i → ls.Pairwise (· < ·) → (∀ x ∈ ls, 1 ≤ x ∧ x < i) →
    (∀ (ls' : List Int) (wd' : Int), ls'.length ≤ 3 → ls'.Pairwise (· < ·) → (∀ x ∈ ls', 1 ≤ x ∧ x < 4) →
      Q (.exit 4) ⟨[(4, .bptr (H.length, 4) 0), (5, .bptr (H.length, 5) 0)], apF 96 1 (ls'.map irow) (rm3 w d H.length p ts ls') :: H.set nm (wbox wd'), 99⟩) →
    WPL KC needT 32 (lp Try.f32 2) [0, 4, 5, 10] [4, 5] Q
      [(0, .bptr nm 0), (4, .bptr (H.length, 4) 0), (5, .bptr (H.length, 5) 0), (10, .pure (.int .i64 i))] (apF 96 1 (ls.map irow) (rm3 w d H.length p ts ls) :: H.set nm (wbox wd)) 99 := by
  have hne : ¬ nm.1 = H.length := by omega
  have hne2 : ¬ nm.1 = H.length + 1 := by omega
  have hle : nm.1 ≤ H.length := by omega
  have hB := fun w f0 f1 => box2 hlt w f0 f1
  have hW := fun w f0 f1 => word2 hlt w f0 f1
  intro k
  induction k with
  | zero =>
    intro i ls wd hi h1 hl hps hb hq
    have hq' := hq ls wd (by omega) hps (fun x hx => ⟨(hb x hx).1, by have := (hb x hx).2; omega⟩)
    have : ¬ (i : Int) ≤ 3 := by omega
    apply WPL_step
    conv => arg 4; whnf
    simp [rm3, Heap.length_set, this]
    simpa [rm3] using hq'
  | succ k ih =>
    intro i ls wd hi h1 hl hps hb hq
    have hw := w64 (x := (i : Int) + 1) (by omega) (by omega)
    have hk : (i : Int) ≤ 3 := by omega
    have hbb : (ls.length + 1) * 8 ≤ 1099511627776 := by omega
    obtain ⟨on, w1, e1⟩ : ∃ (on : Bool) (w1 : Int), oneR wd 3 = (on, w1) := ⟨_, _, rfl⟩
    apply WPL_step
    conv => arg 4; whnf
    cases on with
    | true =>
      have ih2 := ih (i + 1) ls w1 (by omega) (by omega) (by omega) hps (fun x hx => ⟨(hb x hx).1, by have := (hb x hx).2; omega⟩) hq
      simp [rm3] at ih2
      simp [rm3, hk, hw, Heap.length_set, one_ok, hB, hW, hlt, hne, hne2, Heap.set_up, hle, e1]
      exact ih2
    | false =>
      have ih2 := ih (i + 1) (ls ++ [(i : Int)]) w1 (by omega) (by omega) (by simp; omega) (List.pairwise_append.2 ⟨hps, by simp, fun a ha b hb' => by simp at hb'; subst hb'; exact (hb a ha).2⟩)
        (fun x hx => by
          rcases List.mem_append.1 hx with hx | hx
          · exact ⟨(hb x hx).1, by have := (hb x hx).2; omega⟩
          · simp at hx; subst hx; constructor <;> omega) hq
      simp [rm3, irow] at ih2
      simp [rm3, hk, hw, Heap.length_set, one_ok, hB, hW, hlt, hne, hne2, Heap.set_up, hle, e1, irow, hbb]
      exact ih2
/-- A room drawn. -/
structure RoomB (r : Rite) : Prop where
  w1 : 1 ≤ r.wide
  w3 : r.wide ≤ 3
  d1 : 1 ≤ r.deep
  d3 : r.deep ≤ 3
  p0 : r.people ≠ []
  p3 : r.people.length ≤ 3
  pn : (r.people.map Person.cell).Nodup
  pc : ∀ x ∈ r.people, (1 ≤ x.role ∧ x.role ≤ 3) ∧ 0 ≤ x.cell ∧ x.cell < r.wide * r.deep
  t0 : r.things ≠ []
  t4 : r.things.length ≤ 4
  tc : ∀ t ∈ r.things, ThB r.wide r.deep t
  seen : r.seen = []
  lp : r.lapses.Pairwise (· < ·)
  lr : ∀ x ∈ r.lapses, 1 ≤ x ∧ x < 4
  ll : r.lapses.length ≤ 3
  acts : r.acts = []
/-- A rite's value, its lists in blocks. -/
def roomG (n2 n3 n5 : Nm) (r : Rite) : GV := .agg [.pure (.int .i64 r.wide), .pure (.int .i64 r.deep), .hdr n2 2 r.people.length 0 r.people.length, .hdr n3 5 r.things.length 0 r.things.length, .nils, apS n5 1 (r.lapses.map irow), .nils]
def apSet (H : Heap) (nm : Nm) (es : Nat) (rows : List (List PV)) : Heap := if rows = [] then H else H.set nm (.arr es rows 0 false)
theorem roomOf_ok {nm : Nm} (hB0 : isBox H nm)
    (hf1 : H.get (H.length - 1, newKey c 46) = none) (hf2 : H.get (H.length - 1, newKey c 83) = none) (hf3 : H.get (H.length - 1, newKey c 96) = none) (hnk : ∀ k, nm ≠ (H.length - 1, newKey c k)) :
    ∃ r wd, RoomB r ∧ gcall KC (geval KC) 32 [.bptr nm 0, .pure (.int .i64 3)] c H = some (roomG (H.length - 1, newKey c 46) (H.length - 1, newKey c 83) (H.length - 1, newKey c 96) r,
      apSet (((H.set nm (wbox wd)).set (H.length - 1, newKey c 46) (.arr 2 (r.people.map Person.row) 0 false)).set (H.length - 1, newKey c 83) (.arr 5 (r.things.map Thing.row) 0 false)) (H.length - 1, newKey c 96) 1 (r.lapses.map irow)) := by
  have hlt := isBox_lt hB0
  have hset := isBox_set hB0
  have hne : ¬ nm.1 = H.length := by omega
  have hne2 : ¬ nm.1 = H.length + 1 := by omega
  have hle : nm.1 ≤ H.length := by omega
  suffices hs : WPv (gcall KC (geval KC) 32 [.bptr nm 0, .pure (.int .i64 3)] c H) (fun x => ∃ r wd, RoomB r ∧ x = (roomG (H.length - 1, newKey c 46) (H.length - 1, newKey c 83) (H.length - 1, newKey c 96) r,
      apSet (((H.set nm (wbox wd)).set (H.length - 1, newKey c 46) (.arr 2 (r.people.map Person.row) 0 false)).set (H.length - 1, newKey c 83) (.arr 5 (r.things.map Thing.row) 0 false)) (H.length - 1, newKey c 96) 1 (r.lapses.map irow))) by
    obtain ⟨x, hx, r, wd, h1, h2⟩ := hs
    exact ⟨r, wd, h1, by rw [hx, h2]⟩
  refine call_enter KC needT Try.func32 rfl rfl good32 rfl rfl rfl (by simp) (by omega) ?_
  obtain ⟨w0, hw0⟩ : ∃ w0, wordAt H nm = w0 := ⟨_, rfl⟩
  rw [hw0] at hset
  have hB' : ∀ f, isBox (f :: H) nm := fun f => isBox_up hB0
  have hW' : ∀ f, wordAt (f :: H) nm = w0 := fun f => (wordAt_up hlt).trans hw0
  have hB1 := fun w f => box1 hlt w f
  have hW1 := fun w f => word1 hlt w f
  have hB2 := fun w f0 f1 => box2 hlt w f0 f1
  have hW2 := fun w f0 f1 => word2 hlt w f0 f1
  obtain ⟨wi, w1, e1, hwi1, hwi3⟩ := anyR_get w0 3 (by omega) (by omega)
  obtain ⟨de, w2, e2, hde1, hde3⟩ := anyR_get w1 3 (by omega) (by omega)
  obtain ⟨N, hN⟩ : ∃ N, N = wi * de := ⟨_, rfl⟩
  have hN9 : N ≤ 3 * 3 := by rw [hN]; exact Nat.mul_le_mul (by omega) (by omega)
  have hN0 : 0 < N := by rw [hN]; exact Nat.mul_pos hwi1 hde1
  have hNI : (wi : Int) * (de : Int) = (N : Int) := by rw [hN]; simp
  have hwN : IntKind.i64.wrap ((wi : Int) * (de : Int)) = (N : Int) := by rw [hNI]; exact w64 (by omega) (by omega)
  obtain ⟨cells, w3, e3⟩ : ∃ cells w3, orderV N w2 = (cells, w3) := ⟨_, _, rfl⟩
  have hpm : cells.Perm ((List.range N).map Int.ofNat) := by have := orderV_perm (n := N) w2 (by omega); rwa [e3] at this
  have hcl : cells.length = N := by simpa using hpm.length_eq
  have hcn : cells.Nodup := hpm.nodup_iff.2 (List.Pairwise.map Int.ofNat (fun a b h e => h (Int.ofNat.inj e)) List.nodup_range)
  have hcr : ∀ x ∈ cells, 0 ≤ x ∧ x < N := fun x hx => by
    have := hpm.mem_iff.1 hx
    simp only [List.mem_map, List.mem_range] at this
    obtain ⟨a, h1, h2⟩ := this
    subst h2; constructor
    · exact Int.natCast_nonneg a
    · exact Int.ofNat_lt.2 h1
  obtain ⟨mn, hmn⟩ : ∃ mn : Nat, mn = min 3 N := ⟨_, rfl⟩
  have hmI : (if (N : Int) < 3 then (N : Int) else 3) = (mn : Int) := by split <;> omega
  obtain ⟨np, w4, e4, hnp1, hnp2⟩ := anyR_get w3 mn (by omega) (by omega)
  obtain ⟨m, rfl⟩ : ∃ m, np = m + 1 := ⟨np - 1, by omega⟩
  obtain ⟨ro, w5, e5, hro1, hro3⟩ := anyR_get w4 3 (by omega) (by omega)
  have c0 : 0 < cells.length := by omega
  have hNm : N ≤ 1000000 := by omega
  have gc : cells[0]? = some cells[0] := List.getElem?_eq_getElem c0
  simp
  simp [Heap.length_set, any_ok, order_ok, hB', hW', hB1, hW1, hB2, hW2, hlt, hne, hne2, Heap.set_up, hle, e1, e2, hwN, hN0, hNm, e3, hcl, hmI, e4]
  have hes : ((m : Int) + 1) - 1 = m := by omega
  have hwm := w64 (x := (m : Int)) (by omega) (by omega)
  have hm0 : (0 : Int) < (m : Int) + 1 := by omega
  have hN1 : (0 : Int) < (N : Int) := by omega
  have L1 := fun Q => room_loop1 (H := H) hlt wi de cells (by omega) Q m [⟨ro, cells[0]⟩] w5 (by simp; omega) (by simp) (by simp [List.take_one, List.head?_eq_getElem?, c0]) (by simp; omega)
  simp [rm1, zbox, Person.row] at L1
  apply WPL_step
  conv => arg 4; whnf
  simp [hm0, hes, hwm, Heap.length_set, any_ok, hB2, hW2, hlt, hne, hne2, Heap.set_up, hle, e5, hN1, hcl, irow, gc]
  refine L1 _ fun p wd1 hp1 hp2 hp3 => ?_
  clear L1
  have hp0 : p ≠ [] := by intro h; subst h; simp at hp1; omega
  have hpl : p.length ≤ 3 := by omega
  have hpc : ∀ x ∈ p, 0 ≤ x.cell ∧ x.cell < (wi : Int) * de := fun x hx => by
    have h1 : x.cell ∈ p.map Person.cell := List.mem_map_of_mem hx
    rw [hp2] at h1
    have := hcr _ (List.mem_of_mem_take h1)
    rw [hNI]; exact this
  obtain ⟨nt, w6, e6, hnt1, hnt4⟩ := anyR_get wd1 4 (by omega) (by omega)
  have L2 := fun Q => room_loop2 (H := H) hlt wi de (by rw [hwN, hNI]) (by rw [hNI]; omega) (by rw [hNI]; omega) p hp0 (by omega) hpc Q nt [] w6 (by simp; omega) (by simp)
  simp [rm2, zbox, apS_nil, apF_nil] at L2
  simp [Heap.length_set, any_ok, hB1, hW1, hlt, hne, hne2, Heap.set_up, hle, e6]
  refine L2 _ fun ts wd2 ht1 ht2 => ?_
  clear L2
  have ht0 : ts ≠ [] := by intro h; subst h; simp at ht1; omega
  have L3 := fun Q => room_loop3 (H := H) hlt wi de p ts Q 3 1 [] wd2 (by omega) (by omega) (by simp) .nil (by simp)
  simp [rm3, zbox, apS_nil, apF_nil] at L3
  simp [apS, apF, ht0]
  refine L3 _ fun ls wd3 hl1 hl2 hl3 => ?_
  clear L3
  have hRB : RoomB ⟨wi, de, p, ts, [], ls, []⟩ :=
    { w1 := by show (1 : Int) ≤ wi; omega, w3 := by show (wi : Int) ≤ 3; omega, d1 := by show (1 : Int) ≤ de; omega, d3 := by show (de : Int) ≤ 3; omega, p0 := hp0, p3 := hpl, pn := by
        show (p.map Person.cell).Nodup
        rw [hp2]; exact hcn.sublist (List.take_sublist ..), pc := fun x hx => ⟨hp3 x hx, hpc x hx⟩, t0 := ht0, t4 := by show ts.length ≤ 4; omega, tc := ht2, seen := rfl, lp := hl2, lr := hl3, ll := hl1, acts := rfl }
  have n12 : newKey c 46 ≠ newKey c 83 := by unfold newKey; omega
  have n13 : newKey c 46 ≠ newKey c 96 := by unfold newKey; omega
  have n23 : newKey c 83 ≠ newKey c 96 := by unfold newKey; omega
  have k1 : (H.length - 1, newKey c 83) ≠ ((H.length - 1, newKey c 46) : Nm) := fun e => n12 (Prod.mk.inj e).2.symm
  have k2 : (H.length - 1, newKey c 96) ≠ ((H.length - 1, newKey c 46) : Nm) := fun e => n13 (Prod.mk.inj e).2.symm
  have k3 : (H.length - 1, newKey c 96) ≠ ((H.length - 1, newKey c 83) : Nm) := fun e => n23 (Prod.mk.inj e).2.symm
  have g1 : (H.set nm (wbox wd3)).get (H.length - 1, newKey c 46) = none := (Heap.get_set_other _ (hnk _).symm).trans hf1
  have g2 : ∀ b, ((H.set nm (wbox wd3)).set (H.length - 1, newKey c 46) b).get (H.length - 1, newKey c 83) = none := fun b => (Heap.get_set_other b k1).trans ((Heap.get_set_other _ (hnk _).symm).trans hf2)
  have g3 : ∀ b b', (((H.set nm (wbox wd3)).set (H.length - 1, newKey c 46) b).set (H.length - 1, newKey c 83) b').get (H.length - 1, newKey c 96) = none := fun b b' => (Heap.get_set_other b' k3).trans ((Heap.get_set_other b k2).trans ((Heap.get_set_other _ (hnk _).symm).trans hf3))
  simp
  suffices hs : ∀ x, gleave KC 32 c (GV.agg
        [GV.pure (PV.int IntKind.i64 ↑wi), GV.pure (PV.int IntKind.i64 ↑de),
          GV.hdr (List.length H, 46) 2 p.length 0 p.length, GV.hdr (List.length H, 83) 5 ts.length 0 ts.length, GV.nils,
          apS (List.length H, 96) 1 (List.map irow ls), GV.nils])
      (apF 96 1 (List.map irow ls)
          [(4, x), (5, x),
            (46, Blk.arr 2 (List.map Person.row p) 0 false), (83, Blk.arr 5 (List.map Thing.row ts) 0 false)] ::
        H.set nm (wbox wd3)) = some (roomG (List.length H - 1, newKey c 46) (List.length H - 1, newKey c 83) (List.length H - 1, newKey c 96) ⟨wi, de, p, ts, [], ls, []⟩,
              apSet
                (((H.set nm (wbox wd3)).set (List.length H - 1, newKey c 46)
                      (Blk.arr 2 (List.map Person.row p) 0 false)).set
                  (List.length H - 1, newKey c 83) (Blk.arr 5 (List.map Thing.row ts) 0 false))
                (List.length H - 1, newKey c 96) 1 (List.map irow ls)) by
    rw [hs]
    rw [WPv_some]
    exact ⟨_, hRB, _, rfl⟩
  intro x
  by_cases hls : ls = []
  · subst hls
    simp [apS_nil, apF_nil, gleave_keep, refs, refs2, refs1, dedup, moveOut, cleanBlk, g1, g2, g3, ren, ren2, ren1, roomG, apSet, Heap.length_set, Person.row, Thing.row]
  · simp [apS, apF, hls, gleave_keep, refs, refs2, refs1, dedup, moveOut, cleanBlk, g1, g2, g3, ren, ren2, ren1, roomG, apSet, Heap.length_set, Person.row, Thing.row]
end Go.Gh


/- Values with slices in blocks, told as pure ones; calls that borrow them. -/
namespace Go.Gh
open Go.Proofs
set_option linter.unusedSimpArgs false
set_option linter.unusedVariables false
set_option maxRecDepth 100000
set_option maxHeartbeats 4000000
variable {c : Nat} {H : Heap}
/-- A cell reads as a pure value. -/
def rdC (H : Heap) : GV → PV → Prop
  | .pure p, q => p = q
  | .nils, q => q = .slice []
  | .hdr nm es top lo len, q => ∃ rows v ro, H.get nm = some (.arr es rows v ro) ∧ v ≤ top ∧ rows.length = top ∧ lo = 0 ∧ len = top ∧ q = .slice rows
  | _, _ => False
def rdL (H : Heap) : List GV → List PV → Prop
  | [], [] => True
  | g :: l, q :: m => rdC H g q ∧ rdL H l m
  | _, _ => False
def rdG (H : Heap) : GV → PV → Prop
  | .agg l, .agg m => rdL H l m
  | .pure p, q => p = q
  | _, _ => False
@[simp] theorem rdC_pure {p q : PV} : rdC H (.pure p) q = (p = q) := .trans rfl rfl
@[simp] theorem rdC_nils {q : PV} : rdC H .nils q = (q = .slice []) := .trans rfl rfl
@[simp] theorem rdC_hdr {nm : Nm} {es top lo len : Nat} {q : PV} : rdC H (.hdr nm es top lo len) q = ∃ rows v ro, H.get nm = some (.arr es rows v ro) ∧ v ≤ top ∧ rows.length = top ∧ lo = 0 ∧ len = top ∧ q = .slice rows := .trans rfl rfl
@[simp] theorem rdL_nil : rdL H [] [] = True := .trans rfl rfl
@[simp] theorem rdL_cons {g : GV} {q : PV} {l : List GV} {m : List PV} : rdL H (g :: l) (q :: m) = (rdC H g q ∧ rdL H l m) := .trans rfl rfl
@[simp] theorem rdG_agg {l : List GV} {m : List PV} : rdG H (.agg l) (.agg m) = rdL H l m := .trans rfl rfl
@[simp] theorem rdG_pure {p q : PV} : rdG H (.pure p) q = (p = q) := .trans rfl rfl
/-- The same blocks, but for what is frozen. -/
def RoSim (H1 H2 : Heap) : Prop := ∀ nm es rows v ro, H1.get nm = some (.arr es rows v ro) → ∃ ro', H2.get nm = some (.arr es rows v ro')
theorem RoSim.refl (H : Heap) : RoSim H H := fun _ _ _ _ ro h => ⟨ro, h⟩
theorem RoSim.trans {A B C : Heap} (h1 : RoSim A B) (h2 : RoSim B C) : RoSim A C := fun nm es rows v ro h => by
  obtain ⟨r1, a⟩ := h1 nm es rows v ro h
  exact h2 nm es rows v r1 a
theorem rdC_sim {H1 H2 : Heap} (h : RoSim H1 H2) : ∀ {g : GV} {q : PV}, rdC H1 g q → rdC H2 g q := by
  intro g q hg
  cases g with
  | hdr nm es top lo len =>
    obtain ⟨rows, v, ro, a, b, d⟩ := hg
    obtain ⟨ro', e⟩ := h _ _ _ _ _ a
    exact ⟨rows, v, ro', e, b, d⟩
  | pure p => exact hg
  | nils => exact hg
  | _ => exact hg.elim
theorem rdL_sim {H1 H2 : Heap} (h : RoSim H1 H2) : ∀ {l : List GV} {m : List PV}, rdL H1 l m → rdL H2 l m
  | [], [], _ => trivial
  | g :: l, q :: m, hl => ⟨rdC_sim h hl.1, rdL_sim h hl.2⟩
  | [], _ :: _, hl => hl.elim
  | _ :: _, [], hl => hl.elim
theorem rdG_sim {H1 H2 : Heap} (h : RoSim H1 H2) {g : GV} {q : PV} (hg : rdG H1 g q) : rdG H2 g q := by
  cases g with
  | agg l =>
    cases q with
    | agg m => exact rdL_sim h hg
    | _ => exact hg.elim
  | pure p => exact hg
  | _ => cases q <;> exact hg.elim
theorem frzCell_rd {g : GV} {q : PV} (h : rdC H g q) : canon1 (frzCell H g).1 = .pure q ∧ RoSim H (frzCell H g).2 := by
  cases g with
  | hdr nm es top lo len =>
    obtain ⟨rows, v, ro, h1, h2, h3, rfl, rfl, rfl⟩ := h
    subst h3
    have e : pureCell H (.hdr nm es rows.length 0 rows.length) = (.slice rows, H.set nm (.arr es rows v true)) := by simp [h1, h2]
    simp only [frzCell, e]
    refine ⟨rfl, fun nm' es' rows' v' ro' hg => ?_⟩
    by_cases hn : nm' = nm
    · subst hn
      rw [h1] at hg
      cases hg
      exact ⟨true, Heap.get_set _ (Heap.get_lt h1)⟩
    · exact ⟨ro', (Heap.get_set_other _ hn).trans hg⟩
  | pure p => cases h; exact ⟨rfl, RoSim.refl _⟩
  | nils => cases h; exact ⟨rfl, RoSim.refl _⟩
  | _ => exact h.elim
theorem frzCells_rd : ∀ {l : List GV} {m : List PV} {H : Heap}, rdL H l m → (frzCells H l).1.map canon1 = m.map .pure ∧ RoSim H (frzCells H l).2
  | [], [], H, _ => ⟨rfl, RoSim.refl _⟩
  | g :: l, q :: m, H, h => by
    obtain ⟨a, b⟩ := frzCell_rd h.1
    obtain ⟨d, e⟩ := frzCells_rd (rdL_sim b h.2)
    simp only [frzCells, List.map_cons, a, d]
    exact ⟨trivial, b.trans e⟩
  | [], _ :: _, _, hl => hl.elim
  | _ :: _, [], _, hl => hl.elim
theorem allPure_map2 : ∀ {l : List GV} {ps : List PV}, allPure l = some ps → l = ps.map .pure
  | [], ps, h => by cases h; rfl
  | g :: l, ps, h => by
    cases g with
    | pure p =>
      rw [allPure_pure] at h
      cases hl : allPure l with
      | none => rw [hl] at h; cases h
      | some qs => rw [hl] at h; cases h; rw [allPure_map2 hl]; rfl
    | _ => simp [allPure] at h
theorem canon_mk {l : List GV} {m : List PV} (h : l.map canon1 = m.map .pure) : canon (mkAgg l) = .pure (.agg m) := by
  rw [mkAgg_def]
  cases hl : allPure l with
  | some ps =>
    have e := allPure_map2 hl
    subst e
    have : ps = m := by
      have h' : ps.map GV.pure = m.map .pure := by simpa [canon1, Function.comp_def] using h
      exact (List.map_inj_right (fun a b e => by cases e; rfl)).1 h'
    rw [this]; rfl
  | none =>
    show canon (.agg l) = _
    rw [canon_agg, h]
    simp
theorem frzG_rd {g : GV} {q : PV} (h : rdG H g q) : canon (frzVal H g).1 = .pure q ∧ RoSim H (frzVal H g).2 := by
  cases g with
  | agg l =>
    cases q with
    | agg m =>
      obtain ⟨a, b⟩ := frzCells_rd (H := H) (l := l) (m := m) h
      exact ⟨canon_mk a, b⟩
    | _ => exact h.elim
  | pure p => cases h; exact ⟨rfl, RoSim.refl _⟩
  | _ => cases q <;> exact h.elim
theorem frz1 {g : GV} {q : PV} (h : rdG H g q) : (frzVals H [g]).1.map canon = [.pure q] := by
  simp only [frzVals, List.map_cons, List.map_nil, (frzG_rd h).1]
theorem frzVals_cons {g : GV} {r : List GV} : (frzVals H (g :: r)).1.map canon = canon (frzVal H g).1 :: (frzVals (frzVal H g).2 r).1.map canon := rfl
theorem frz3 {a b d : GV} {p q r : PV} (h1 : rdG H a p) (h2 : rdG H b q) (h3 : rdG H d r) : (frzVals H [a, b, d]).1.map canon = [.pure p, .pure q, .pure r] := by
  obtain ⟨x1, y1⟩ := frzG_rd h1
  obtain ⟨x2, y2⟩ := frzG_rd (rdG_sim y1 h2)
  obtain ⟨x3, y3⟩ := frzG_rd (rdG_sim y2 (rdG_sim y1 h3))
  rw [frzVals_cons, x1, frzVals_cons, x2, frzVals_cons, x3]
  rfl
theorem frz4b {nm : Nm} {b d e : GV} {q r p : PV} (h2 : rdG H b q) (h3 : rdG H d r) (h4 : rdG H e p) : (frzVals H [.bptr nm 0, b, d, e]).1.map canon = [.bptr nm 0, .pure q, .pure r, .pure p] := by
  rw [frzVals_cons, frzVal_bptr, frz3 h2 h3 h4]
  rfl
theorem mightB_ok {rg sg : GV} (r : Rite) (s : Scene) (w n : Nat) (hR : rdG H rg (.agg r.row)) (hS : rdG H sg (.agg s.row)) (hs : ScB r s) (hw : w < r.people.length) (hpl : r.people.length ≤ 1000000) (htl : r.things.length ≤ 1000000) (hwide : r.wide ≠ 0) (hn : IntKind.i64.wrap (r.wide * r.deep) = n) (hn0 : 0 < n) (hnb : n ≤ 1000000) {nm : Nm} (hB : isBox H nm) :
    gcall KC (geval KC) 35 [.bptr nm 0, rg, sg, .pure (.int .i64 w)] c H =
      some (.pure (.tuple [.agg (mightR r s w (everyL n r.things.length r.people.length w) (wordAt H nm)).1.1.row, .bool (mightR r s w (everyL n r.things.length r.people.length w) (wordAt H nm)).1.2]), H.set nm (wbox (mightR r s w (everyL n r.things.length r.people.length w) (wordAt H nm)).2)) := by
  have hlt := isBox_lt hB
  rw [gcall_bor KC rfl rfl, frz4b hR hS (show rdG H (.pure (.int .i64 w)) (.int .i64 w) from rfl)]
  have hget := isBox_get hB
  have hE : isBox ((emptyH H).set nm (wbox (wordAt H nm))) nm := isBox_set' (by rw [emptyH_length]; exact hlt)
  have hWE : wordAt ((emptyH H).set nm (wbox (wordAt H nm))) nm = wordAt H nm := wordAt_set (by rw [emptyH_length]; exact hlt)
  have M := might_ok (c := c) (H := (emptyH H).set nm (wbox (wordAt H nm))) r s w n hs hw hpl htl hwide hn hn0 hnb hE
  rw [hWE] at M
  generalize mightR r s w (everyL n r.things.length r.people.length w) (wordAt H nm) = res at M ⊢
  have hgs : ((emptyH H).set nm (wbox res.2)).get nm = some (wbox res.2) := Heap.get_set' (by rw [emptyH_length]; exact hlt)
  have hfl : ∀ w, flatGL [.pure (.int .u64 w)] = true := fun w => rfl
  unfold gborrow
  simp only [borBox, hget, wbox]
  simp only [wbox] at M hgs
  simp [flatGL, flatG, flatP, M, hgs, lentEnd, lentV, lentLL, lent2, lent1, flatPL, refs, refs2, refs1, dedup, lentIns, Heap.length_set, RAct.row]
theorem hdrS_sc (L k1 k2 k3 : Nat) (s : Scene) : hdrS L k1 k2 k3 s = scH (L, k1) (L, k2) (L, k3) s := rfl
theorem firstB_ok {rg : GV} (r : Rite) (hR : rdG H rg (.agg r.row)) (hp0 : r.people ≠ []) (ht0 : r.things ≠ []) (hpl : r.people.length ≤ 1000000) (htl : r.things.length ≤ 1000000) (hH : 0 < H.length)
    (hf1 : H.get (H.length - 1, newKey c 22) = none) (hf2 : H.get (H.length - 1, newKey c 27) = none) (hf3 : H.get (H.length - 1, newKey c 53) = none) :
    gcall KC (geval KC) 33 [rg] c H = some (scH (H.length - 1, newKey c 22) (H.length - 1, newKey c 27) (H.length - 1, newKey c 53) (firstV r),
      scSet H (H.length - 1, newKey c 22) (H.length - 1, newKey c 27) (H.length - 1, newKey c 53) 0 0 0 (firstV r)) := by
  rw [gcall_bor KC rfl rfl, frz1 hR]
  have F := first_ok0 (c := c) (H := emptyH H) r hp0 ht0 hpl htl (by rw [emptyH_length]; exact hH) (emptyH_get _ _) (emptyH_get _ _) (emptyH_get _ _)
  simp only [emptyH_length] at F
  have hL : H.length - 1 < (emptyH H).length := by rw [emptyH_length]; omega
  have hL' : H.length - 1 < H.length := by omega
  have n12 : newKey c 22 ≠ newKey c 27 := by unfold newKey; omega
  have n13 : newKey c 22 ≠ newKey c 53 := by unfold newKey; omega
  have n23 : newKey c 27 ≠ newKey c 53 := by unfold newKey; omega
  have k1 : (H.length - 1, newKey c 27) ≠ ((H.length - 1, newKey c 22) : Nm) := fun e => n12 (Prod.mk.inj e).2.symm
  have k2 : (H.length - 1, newKey c 53) ≠ ((H.length - 1, newKey c 22) : Nm) := fun e => n13 (Prod.mk.inj e).2.symm
  have k3 : (H.length - 1, newKey c 53) ≠ ((H.length - 1, newKey c 27) : Nm) := fun e => n23 (Prod.mk.inj e).2.symm
  generalize hE : ((((emptyH H).set (H.length - 1, newKey c 22) (.arr 1 ((firstV r).people.map irow) 0 false)).set (H.length - 1, newKey c 27) (.arr 2 ((firstV r).hands.map Hands.row) 0 false)).set (H.length - 1, newKey c 53) (.arr 2 ((firstV r).things.map Spot.row) 0 false)) = E at F
  have q1 : E.get (H.length - 1, newKey c 22) = some (.arr 1 ((firstV r).people.map irow) 0 false) := by rw [← hE, Heap.get_set_other _ k2.symm, Heap.get_set_other _ k1.symm]; exact Heap.get_set' hL
  have q2 : E.get (H.length - 1, newKey c 27) = some (.arr 2 ((firstV r).hands.map Hands.row) 0 false) := by rw [← hE, Heap.get_set_other _ k3.symm]; exact Heap.get_set' (by rw [Heap.length_set]; exact hL)
  have q3 : E.get (H.length - 1, newKey c 53) = some (.arr 2 ((firstV r).things.map Spot.row) 0 false) := by rw [← hE]; exact Heap.get_set' (by rw [Heap.length_set, Heap.length_set]; exact hL)
  have g2 : ∀ b, (H.set (H.length - 1, newKey c 22) b).get (H.length - 1, newKey c 27) = none := fun b => (Heap.get_set_other b k1).trans hf2
  have g3 : ∀ b b', ((H.set (H.length - 1, newKey c 22) b).set (H.length - 1, newKey c 27) b').get (H.length - 1, newKey c 53) = none := fun b b' => (Heap.get_set_other b' k3).trans ((Heap.get_set_other b k2).trans hf3)
  have fr1 : ∀ l : List Int, flatRows (l.map irow) = true := fun l => by induction l with | nil => rfl | cons a l ih => simp [flatRows, flatPL, flatP, irow, ih]
  have fr2 : ∀ l : List Hands, flatRows (l.map Hands.row) = true := fun l => by induction l with | nil => rfl | cons a l ih => simp [flatRows, flatPL, flatP, Hands.row, ih]
  have fr3 : ∀ l : List Spot, flatRows (l.map Spot.row) = true := fun l => by induction l with | nil => rfl | cons a l ih => simp [flatRows, flatPL, flatP, Spot.row, ih]
  unfold gborrow
  simp [borBox, F, hdrS_sc, scH, lentEnd, lentV, lentLL, lentL, lent2, lent1, refs, refs2, refs1, dedup, lentIns, n12, n13, n23, n12.symm, n13.symm, n23.symm, q1, q2, q3, hf1, g2, g3, fr1, fr2, fr3, scSet]
theorem apartB_ok {sg ag bg : GV} {s : Scene} {w v : Nat} {a b : RAct} (hS : rdG H sg (.agg s.row)) (hA : rdG H ag (.agg a.row)) (hB : rdG H bg (.agg b.row)) (hp : w < s.people.length) (hh : w < s.hands.length) (hw : a.who = w) (ha : a.hand = 0 ∨ a.hand = 1)
    (hp2 : v < s.people.length) (hh2 : v < s.hands.length) (hw2 : b.who = v) (hb : b.hand = 0 ∨ b.hand = 1) (hH : 0 < H.length) :
    gcall KC (geval KC) 38 [sg, ag, bg] c H = some (.pure (.bool (apartV s w a v b)), H) :=
  bor_flat KC rfl rfl (frz3 hS hA hB) rfl hH (fun H hH => apart_ok (c := c) hp hh hw ha hp2 hh2 hw2 hb hH) rfl
end Go.Gh

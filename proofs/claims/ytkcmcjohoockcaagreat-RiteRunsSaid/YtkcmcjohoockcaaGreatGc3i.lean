/- Texts joined: the evaluator over ghost values, its soundness, the walks. -/
import Derived.Test.YtkcmcjohoockcaaGreatGc3h
namespace Go.Gh
open Go.Proofs
set_option linter.unusedVariables false
set_option linter.unusedSimpArgs false
set_option linter.unnecessarySimpa false
set_option maxRecDepth 100000
set_option maxHeartbeats 8000000
section
variable {c : Nat} {H : Heap}
def stbox (r : Rite) (s : Scene) : Blk := .box [.pure (.int .i64 r.wide), .pure (.int .i64 r.deep), .pure (.slice (r.people.map Person.row)), .pure (.slice (r.things.map Thing.row)), .pure (.slice (r.seen.map irow)), .pure (.slice (r.lapses.map irow)), .pure (.slice (r.acts.map RAct.row)), .pure (.slice (s.people.map irow)), .pure (.slice (s.hands.map Hands.row)), .pure (.slice (s.things.map Spot.row))]
structure Full (s : Scene) : Prop where
 p0 : s.people ≠ []
 h0 : s.hands ≠ []
 pl : s.people.length ≤ 1000000
 hl : s.hands.length ≤ 1000000
 tl : s.things.length ≤ 1000000
theorem copied_ok (r : Rite) {s : Scene} (h : Full s) (ht0 : s.things ≠ []) (hH : 0 < H.length) (hf1 : H.get (H.length - 1, newKey c 28679) = none) (hf2 : H.get (H.length - 1, newKey c 28683) = none) (hf3 : H.get (H.length - 1, newKey c 28687) = none) :
  gcall KC (geval KC) 63 [.pure (.agg (stRow r s))] c H = some (stG r (H.length - 1, newKey c 28679) (H.length - 1, newKey c 28683) (H.length - 1, newKey c 28687) s,
   scSet H (H.length - 1, newKey c 28679) (H.length - 1, newKey c 28683) (H.length - 1, newKey c 28687) 0 0 0 s) := by
 refine WPv_eq (call_enter KC needT Tryz.func63 rfl rfl good63 rfl rfl rfl (by simp) hH ?_)
 have n12 : newKey c 28679 ≠ newKey c 28683 := by unfold newKey; omega
 have n13 : newKey c 28679 ≠ newKey c 28687 := by unfold newKey; omega
 have n23 : newKey c 28683 ≠ newKey c 28687 := by unfold newKey; omega
 have k1 : (H.length - 1, newKey c 28683) ≠ ((H.length - 1, newKey c 28679) : Nm) := fun e => n12 (Prod.mk.inj e).2.symm
 have k2 : (H.length - 1, newKey c 28687) ≠ ((H.length - 1, newKey c 28679) : Nm) := fun e => n13 (Prod.mk.inj e).2.symm
 have k3 : (H.length - 1, newKey c 28687) ≠ ((H.length - 1, newKey c 28683) : Nm) := fun e => n23 (Prod.mk.inj e).2.symm
 have g2 : ∀ b, (H.set (H.length - 1, newKey c 28679) b).get (H.length - 1, newKey c 28683) = none := fun b => (Heap.get_set_other b k1).trans hf2
 have g3 : ∀ b b', ((H.set (H.length - 1, newKey c 28679) b).set (H.length - 1, newKey c 28683) b').get (H.length - 1, newKey c 28687) = none := fun b b' => (Heap.get_set_other b' k3).trans ((Heap.get_set_other b k2).trans hf3)
 have m1 : newKey 6 7 = 28679 := by decide
 have m2 : newKey 10 7 = 28683 := by decide
 have m3 : newKey 14 7 = 28687 := by decide
 have C1 := fun (F : Fr) (hf : F.get 28679 = none) => cloneint_ok (c := 6) (H := F :: H) s.people h.p0 h.pl (by simp) (by simp [m1, hf])
 have C2 := fun (F : Fr) (hf : F.get 28683 = none) => cloneHint_ok (c := 10) (H := F :: H) s.hands h.h0 h.hl (by simp) (by simp [m2, hf])
 have C3 := fun (F : Fr) (hf : F.get 28687 = none) => cloneSpot_ok (c := 14) (H := F :: H) s.things ht0 h.tl (by simp) (by simp [m3, hf])
 simp [m1, m2, m3] at C1 C2 C3
 unfold stRow
 simp [C1, C2, C3, gleave_keep, refs, refs2, refs1, dedup, moveOut, cleanBlk, hf1, g2, g3, ren, ren2, ren1, scSet, stG]
def stE (r : Rite) (n1 n2 : Nm) (s : Scene) : GV := .agg [.pure (.int .i64 r.wide), .pure (.int .i64 r.deep), .pure (.slice (r.people.map Person.row)), .pure (.slice (r.things.map Thing.row)), .pure (.slice (r.seen.map irow)), .pure (.slice (r.lapses.map irow)), .pure (.slice (r.acts.map RAct.row)), .hdr n1 1 s.people.length 0 s.people.length, .hdr n2 2 s.hands.length 0 s.hands.length, .nils]
theorem cloneSpot_0 : gcall KC (geval KC) 101 [.pure (.slice [])] c H = some (.nils, H) := by
 unfold gcall
 rw [show KC.cln 101 = true from rfl]
 simp [emptyArg]
theorem copied_okE (r : Rite) {s : Scene} (h : Full s) (ht0 : s.things = []) (hH : 0 < H.length) (hf1 : H.get (H.length - 1, newKey c 28679) = none) (hf2 : H.get (H.length - 1, newKey c 28683) = none) :
  gcall KC (geval KC) 63 [.pure (.agg (stRow r s))] c H = some (stE r (H.length - 1, newKey c 28679) (H.length - 1, newKey c 28683) s,
   (H.set (H.length - 1, newKey c 28679) (.arr 1 (s.people.map irow) 0 false)).set (H.length - 1, newKey c 28683) (.arr 2 (s.hands.map Hands.row) 0 false)) := by
 refine WPv_eq (call_enter KC needT Tryz.func63 rfl rfl good63 rfl rfl rfl (by simp) hH ?_)
 have n12 : newKey c 28679 ≠ newKey c 28683 := by unfold newKey; omega
 have k1 : (H.length - 1, newKey c 28683) ≠ ((H.length - 1, newKey c 28679) : Nm) := fun e => n12 (Prod.mk.inj e).2.symm
 have g2 : ∀ b, (H.set (H.length - 1, newKey c 28679) b).get (H.length - 1, newKey c 28683) = none := fun b => (Heap.get_set_other b k1).trans hf2
 have m1 : newKey 6 7 = 28679 := by decide
 have m2 : newKey 10 7 = 28683 := by decide
 have C1 := fun (F : Fr) (hf : F.get 28679 = none) => cloneint_ok (c := 6) (H := F :: H) s.people h.p0 h.pl (by simp) (by simp [m1, hf])
 have C2 := fun (F : Fr) (hf : F.get 28683 = none) => cloneHint_ok (c := 10) (H := F :: H) s.hands h.h0 h.hl (by simp) (by simp [m2, hf])
 have C3 := fun (H : Heap) => cloneSpot_0 (c := 14) (H := H)
 simp [m1, m2] at C1 C2
 unfold stRow
 simp [ht0, C1, C2, C3, gleave_keep, refs, refs2, refs1, dedup, moveOut, cleanBlk, hf1, g2, ren, ren2, ren1, stE]
def endT (r : Rite) (s : Scene) : Prop := ∀ i, i < r.things.length → s.things.getD i spot0 = ⟨(r.things.getD i thing0).home, (r.things.getD i thing0).want⟩
def endH (s : Scene) : Prop := s.hands = s.hands.map fun _ => empty
noncomputable def ordV : Rite → Scene → Bool := hid fun r s => decide (s.hands = s.hands.map fun _ => empty) && decide (∀ i, i < r.things.length → s.things.getD i spot0 = ⟨(r.things.getD i thing0).home, (r.things.getD i thing0).want⟩)
theorem ordV_def (r : Rite) (s : Scene) : ordV r s = (decide (s.hands = s.hands.map fun _ => empty) && decide (∀ i, i < r.things.length → s.things.getD i spot0 = ⟨(r.things.getD i thing0).home, (r.things.getD i thing0).want⟩)) := by rw [ordV, hid_eq]
theorem ordH_loop (r : Rite) (s : Scene) (hn : s.hands.length ≤ 1000000) (Q : GX → GSt → Prop) : ∀ k i : Nat, i + k = s.hands.length →
    ((∀ j, i ≤ j → j < s.hands.length → s.hands.getD j hands0 = empty) → Q (.exit 0) ⟨[(1, .bptr (H.length, 1) 0), (2, gdead)], [(1, stbox r s)] :: H, 41⟩) →
    (¬ (∀ j, i ≤ j → j < s.hands.length → s.hands.getD j hands0 = empty) → Q .ret ⟨[(1, .bptr (H.length, 1) 0), (2, .pure (.bool false))], [(1, stbox r s)] :: H, 41⟩) →
    WPL KC needT 94 (lp Tryz.f94 0) [1, 9, 10, 11] [1, 2] Q [(1, .bptr (H.length, 1) 0), (9, .pure (.slice (s.hands.map Hands.row))), (10, .pure (.int .i64 s.hands.length)), (11, .pure (.int .i64 i))] ([(1, stbox r s)] :: H) 41 := by
  intro k
  induction k with
  | zero =>
    intro i hi h1 h2
    apply WPL_step
    conv => arg 4; whnf
    have : ¬ i < s.hands.length := by omega
    simp [this, stbox]
    simpa [stbox] using h1 (fun j a b => by omega)
  | succ k ih =>
    intro i hi h1 h2
    have hia : i < s.hands.length := by omega
    have hw := w64 (x := (i : Int) + 1) (by omega) (by omega)
    have hg := getD_lt (d := hands0) hia
    apply WPL_step
    conv => arg 4; whnf
    by_cases e1 : s.hands[i].l = -1
    · by_cases e2 : s.hands[i].r = -1
      · have he : s.hands.getD i hands0 = empty := by rw [hg]; cases hh : s.hands[i]; rw [hh] at e1 e2; simp only at e1 e2; rw [e1, e2]; rfl
        have ih' := ih (i + 1) (by omega) (fun h => h1 fun j a b => by
          by_cases e : j = i
          · rw [e]; exact he
          · exact h j (by omega) b) (fun h => h2 fun h' => h fun j a b => h' j (by omega) b)
        simp [hia, Hands.row, hw, stbox, e1, e2]
        simpa [Hands.row, stbox] using ih'
      · have e2' : (s.hands[i].r == -1) = false := by simpa using e2
        simp [hia, Hands.row, stbox, e1, e2']
        simpa [stbox] using h2 fun h' => by
          have := h' i (Nat.le_refl _) hia
          rw [hg] at this
          rw [this] at e2; exact e2 rfl
    · have e1' : (s.hands[i].l == -1) = false := by simpa using e1
      simp [hia, Hands.row, stbox, e1']
      simpa [stbox] using h2 fun h' => by
        have := h' i (Nat.le_refl _) hia
        rw [hg] at this
        rw [this] at e1; exact e1 rfl
theorem ordT_loop (r : Rite) (s : Scene) (hn : r.things.length ≤ 1000000) (hst : s.things.length = r.things.length) (Q : GX → GSt → Prop) : ∀ k i : Nat, i + k = r.things.length →
    ((∀ j, i ≤ j → j < r.things.length → s.things.getD j spot0 = ⟨(r.things.getD j thing0).home, (r.things.getD j thing0).want⟩) → Q (.exit 2) ⟨[(2, gdead)], [(1, stbox r s)] :: H, 41⟩) →
    (¬ (∀ j, i ≤ j → j < r.things.length → s.things.getD j spot0 = ⟨(r.things.getD j thing0).home, (r.things.getD j thing0).want⟩) → Q .ret ⟨[(2, .pure (.bool false))], [(1, stbox r s)] :: H, 41⟩) →
    WPL KC needT 94 (lp Tryz.f94 1) [1, 21, 22, 23] [2] Q [(1, .bptr (H.length, 1) 0), (21, .pure (.slice (r.things.map Thing.row))), (22, .pure (.int .i64 r.things.length)), (23, .pure (.int .i64 i))] ([(1, stbox r s)] :: H) 41 := by
  intro k
  induction k with
  | zero =>
    intro i hi h1 h2
    apply WPL_step
    conv => arg 4; whnf
    have : ¬ i < r.things.length := by omega
    simp [this, stbox]
    simpa [stbox] using h1 (fun j a b => by omega)
  | succ k ih =>
    intro i hi h1 h2
    have hia : i < r.things.length := by omega
    have his : i < s.things.length := by omega
    have hw := w64 (x := (i : Int) + 1) (by omega) (by omega)
    have hg := getD_lt (d := thing0) hia
    have hg2 := getD_lt (d := spot0) his
    apply WPL_step
    conv => arg 4; whnf
    by_cases e1 : s.things[i].cell = r.things[i].home
    · by_cases e2 : s.things[i].state = r.things[i].want
      · have he : s.things.getD i spot0 = ⟨(r.things.getD i thing0).home, (r.things.getD i thing0).want⟩ := by rw [hg, hg2, ← e1, ← e2]
        have ih' := ih (i + 1) (by omega) (fun h => h1 fun j a b => by
          by_cases e : j = i
          · rw [e]; exact he
          · exact h j (by omega) b) (fun h => h2 fun h' => h fun j a b => h' j (by omega) b)
        simp [hia, his, Thing.row, Spot.row, hw, stbox, e1, e2]
        simpa [Thing.row, Spot.row, stbox] using ih'
      · have e2' : (s.things[i].state == r.things[i].want) = false := by simpa using e2
        simp [hia, his, Thing.row, Spot.row, stbox, e1, e2']
        simpa [stbox] using h2 fun h' => by
          have := h' i (Nat.le_refl _) hia
          rw [hg, hg2] at this
          rw [this] at e2; exact e2 rfl
    · have e1' : (s.things[i].cell == r.things[i].home) = false := by simpa using e1
      simp [hia, his, Thing.row, Spot.row, stbox, e1']
      simpa [stbox] using h2 fun h' => by
        have := h' i (Nat.le_refl _) hia
        rw [hg, hg2] at this
        rw [this] at e1; exact e1 rfl
theorem ordered_ok (r : Rite) (s : Scene) (hn : r.things.length ≤ 1000000) (hn2 : s.hands.length ≤ 1000000) (hst : s.things.length = r.things.length) (hH : 0 < H.length) :
  gcall KC (geval KC) 94 [.pure (.agg (stRow r s))] c H = some (.pure (.bool (ordV r s)), H) := by
 refine bor_c rfl rfl rfl rfl rfl hH fun H hH => ?_
 refine WPv_eq (call_enter0 KC needT Tryz.func94 rfl rfl good94 (by simp) hH ?_)
 have hd := ordV_def r s
 have eh : (∀ j, 0 ≤ j → j < s.hands.length → s.hands.getD j hands0 = empty) ↔ endH s := by
  unfold endH
  constructor
  ·intro h
   refine List.ext_getElem (by simp) fun j h1 h2 => ?_
   have := h j (Nat.zero_le _) h1
   rw [getD_lt h1] at this
   simp [this]
  ·intro h j _ hj
   rw [getD_lt hj]
   have : s.hands[j]'hj = (s.hands.map fun _ => empty)[j]'(by simpa using hj) := by congr 1
   rw [this]; simp
 have et : (∀ j, 0 ≤ j → j < r.things.length → s.things.getD j spot0 = ⟨(r.things.getD j thing0).home, (r.things.getD j thing0).want⟩) ↔ endT r s := ⟨fun h i hi => h i (Nat.zero_le _) hi, fun h i _ hi => h i hi⟩
 have L1 := fun Q => ordH_loop (H := H) r s hn2 Q s.hands.length 0 (by omega)
 rw [eh] at L1
 have L2 := fun Q => ordT_loop (H := H) r s hn hst Q r.things.length 0 (by omega)
 rw [et] at L2
 unfold stRow
 simp
 simp [stbox] at L1 L2
 refine L1 _ (fun h => ?_) (fun h => ?_)
 ·simp
  refine L2 _ (fun h2 => ?_) (fun h2 => ?_)
  ·have : ordV r s = true := by rw [hd, decide_eq_true (p := s.hands = s.hands.map fun _ => empty) h, Bool.true_and]; exact decide_eq_true (p := ∀ i, i < r.things.length → s.things.getD i spot0 = ⟨(r.things.getD i thing0).home, (r.things.getD i thing0).want⟩) h2
   simp [gleave_free, this]
  ·have : ordV r s = false := by
    rw [hd, Bool.and_eq_false_iff]; right
    exact decide_eq_false (p := ∀ i, i < r.things.length → s.things.getD i spot0 = ⟨(r.things.getD i thing0).home, (r.things.getD i thing0).want⟩) h2
   simp [gleave_free, this]
 ·have : ordV r s = false := by
   rw [hd, Bool.and_eq_false_iff]; left
   exact decide_eq_false (p := s.hands = s.hands.map fun _ => empty) h
  simp [gleave_free, this]
end
section
variable {c : Nat} {H : Heap}
theorem apK_2 {l key es bytes key2 es2 : Nat} {rows rows2 : List (List PV)} {r : List PV} {X f0 : Fr} (hl : H.length = l) (hne : key ≠ key2) (hf : X.get key = none) (hb : (rows.length + 1) * bytes ≤ 1099511627776) :
  apK l key (apS (l, key) es rows) es bytes [r] (f0 :: apF key2 es2 rows2 (apF key es rows X) :: H) = some (apS (l, key) es (rows ++ [r]), f0 :: apF key2 es2 rows2 (apF key es (rows ++ [r]) X) :: H) := by
 subst hl
 have g : ∀ rows, (apF key2 es2 rows2 (apF key es rows X)).get key = (apF key es rows X).get key := fun rows => apF_get hne
 have hh : ∀ Fx : Fr, Heap.get (f0 :: Fx :: H) (H.length, key) = Fx.get key := fun Fx => by simp
 rw [apK_apS (fun h => (hh _).trans ((g _).trans (by rw [h, apF_nil, hf]))) (fun h => (hh _).trans ((g _).trans (apF_self h))) (by simp; omega) hb]
 have e : (apF key2 es2 rows2 (apF key es rows X)).ins key (.arr es (rows ++ [r]) 0 false) = apF key2 es2 rows2 (apF key es (rows ++ [r]) X) := by
  rw [apF_ins hne, apF_ins_self]
  congr 1
  unfold apF
  simp
 simp [e]
def zst : Blk := .box [.pure (.int .i64 0), .pure (.int .i64 0), .nils, .nils, .nils, .nils, .nils, .nils, .nils, .nils]
def fst1 (r : Rite) (L : Nat) (p : List Int) (h : List Hands) : Fr := apF 31 2 (h.map Hands.row) (apF 23 1 (p.map irow) [(1, rbox r), (2, zst), (3, .box [.pure (.int .i64 r.wide), .pure (.int .i64 r.deep), .pure (.slice (r.people.map Person.row)), .pure (.slice (r.things.map Thing.row)), .pure (.slice (r.seen.map irow)), .pure (.slice (r.lapses.map irow)), .pure (.slice (r.acts.map RAct.row)), apS (L, 23) 1 (p.map irow), apS (L, 31) 2 (h.map Hands.row), .nils])])
theorem fst_loop1 (r : Rite) (hpl : r.people.length ≤ 1000000) (Q : GX → GSt → Prop) : ∀ (k i : Nat) (p : List Int) (h : List Hands), i + k = r.people.length → p.length = i → h.length = i →
    Q (.exit 0) ⟨[(1, .bptr (H.length, 1) 0), (2, .bptr (H.length, 2) 0), (3, .bptr (H.length, 3) 0)], fst1 r H.length (p ++ (r.people.drop i).map (·.cell)) (h ++ (r.people.drop i).map fun _ => empty) :: H, 56⟩ →
    WPL KC needT 92 (lp Tryz.f92 0) [1, 2, 3, 11, 12, 13] [1, 2, 3] Q [(1, .bptr (H.length, 1) 0), (2, .bptr (H.length, 2) 0), (3, .bptr (H.length, 3) 0), (11, .pure (.slice (r.people.map Person.row))), (12, .pure (.int .i64 r.people.length)), (13, .pure (.int .i64 i))] (fst1 r H.length p h :: H) 56 := by
  intro k
  induction k with
  | zero =>
    intro i p h hi hp hh hq
    have e1 : r.people.drop i = [] := List.drop_of_length_le (by omega)
    rw [e1] at hq
    apply WPL_step
    conv => arg 4; whnf
    have : ¬ i < r.people.length := by omega
    simp [this, fst1]
    simpa [fst1] using hq
  | succ k ih =>
    intro i p h hi hp hh hq
    have hia : i < r.people.length := by omega
    have hw := w64 (x := (i : Int) + 1) (by omega) (by omega)
    have e1 : r.people.drop i = r.people[i] :: r.people.drop (i + 1) := List.drop_eq_getElem_cons hia
    have ih' := ih (i + 1) (p ++ [r.people[i].cell]) (h ++ [empty]) (by omega) (by simp [hp]) (by simp [hh]) (by rw [e1, List.map_cons, List.map_cons] at hq; rw [List.append_assoc, List.append_assoc]; exact hq)
    have b1 : (p.length + 1) * 8 ≤ 1099511627776 := by omega
    have b2 : (h.length + 1) * 16 ≤ 1099511627776 := by omega
    have K1 := fun (f0 X : Fr) hf => apK_2 (H := H) (l := H.length) (key := 23) (es := 1) (bytes := 8) (key2 := 31) (es2 := 2) (rows := p.map irow) (rows2 := h.map Hands.row) (r := [.int .i64 r.people[i].cell]) (X := X) (f0 := f0) rfl (by decide) hf (by simpa using b1)
    have K2 := fun (f0 X : Fr) hf => apK_1 (H := H) (l := H.length) (key := 31) (es := 2) (bytes := 16) (rows := h.map Hands.row) (r := [.int .i64 (-1), .int .i64 (-1)]) (fr := X) (f0 := f0) rfl hf (by simpa using b2)
    apply WPL_step
    conv => arg 4; whnf
    simp [fst1, irow, Hands.row, empty] at ih'
    simp [hia, Person.row, fst1, hw, K1, K2]
    exact ih'
def fst2 (r : Rite) (L : Nat) (p : List Int) (h : List Hands) (t : List Spot) : Fr := apF 51 2 (t.map Spot.row) (apF 31 2 (h.map Hands.row) (apF 23 1 (p.map irow) [(1, rbox r), (2, zst), (3, .box [.pure (.int .i64 r.wide), .pure (.int .i64 r.deep), .pure (.slice (r.people.map Person.row)), .pure (.slice (r.things.map Thing.row)), .pure (.slice (r.seen.map irow)), .pure (.slice (r.lapses.map irow)), .pure (.slice (r.acts.map RAct.row)), apS (L, 23) 1 (p.map irow), apS (L, 31) 2 (h.map Hands.row), apS (L, 51) 2 (t.map Spot.row)])]))
theorem fst_loop2 (r : Rite) (htl : r.things.length ≤ 1000000) (p : List Int) (h : List Hands) (Q : GX → GSt → Prop) : ∀ (k i : Nat) (t : List Spot), i + k = r.things.length → t.length = i →
    Q (.exit 2) ⟨[(2, .bptr (H.length, 2) 0), (3, .bptr (H.length, 3) 0)], fst2 r H.length p h (t ++ (r.things.drop i).map spotOf) :: H, 56⟩ →
    WPL KC needT 92 (lp Tryz.f92 1) [2, 3, 36, 37, 38] [2, 3] Q [(2, .bptr (H.length, 2) 0), (3, .bptr (H.length, 3) 0), (36, .pure (.slice (r.things.map Thing.row))), (37, .pure (.int .i64 r.things.length)), (38, .pure (.int .i64 i))] (fst2 r H.length p h t :: H) 56 := by
  intro k
  induction k with
  | zero =>
    intro i t hi ht hq
    have e1 : r.things.drop i = [] := List.drop_of_length_le (by omega)
    rw [e1] at hq
    apply WPL_step
    conv => arg 4; whnf
    have : ¬ i < r.things.length := by omega
    simp [this, fst2]
    simpa [fst2] using hq
  | succ k ih =>
    intro i t hi ht hq
    have hia : i < r.things.length := by omega
    have hw := w64 (x := (i : Int) + 1) (by omega) (by omega)
    have e1 : r.things.drop i = r.things[i] :: r.things.drop (i + 1) := List.drop_eq_getElem_cons hia
    have ih' := ih (i + 1) (t ++ [spotOf r.things[i]]) (by omega) (by simp [ht]) (by rw [e1, List.map_cons] at hq; rw [List.append_assoc]; exact hq)
    have b2 : (t.length + 1) * 16 ≤ 1099511627776 := by omega
    have K2 := fun (f0 X : Fr) hf => apK_1 (H := H) (l := H.length) (key := 51) (es := 2) (bytes := 16) (rows := t.map Spot.row) (r := [.int .i64 r.things[i].cell, .int .i64 r.things[i].state]) (fr := X) (f0 := f0) rfl hf (by simpa using b2)
    apply WPL_step
    conv => arg 4; whnf
    simp [fst2, Spot.row, spotOf] at ih'
    simp [hia, Thing.row, fst2, hw, K2]
    exact ih'
theorem firstP_ok (r : Rite) (hp0 : r.people ≠ []) (ht0 : r.things ≠ []) (hpl : r.people.length ≤ 1000000) (htl : r.things.length ≤ 1000000) (hH : 0 < H.length)
  (hf1 : H.get (H.length - 1, newKey c 23) = none) (hf2 : H.get (H.length - 1, newKey c 31) = none) (hf3 : H.get (H.length - 1, newKey c 51) = none) :
  gcall KC (geval KC) 92 [.pure (.agg r.row)] c H = some (stG r (H.length - 1, newKey c 23) (H.length - 1, newKey c 31) (H.length - 1, newKey c 51) (firstV r),
   scSet H (H.length - 1, newKey c 23) (H.length - 1, newKey c 31) (H.length - 1, newKey c 51) 0 0 0 (firstV r)) := by
 refine WPv_eq (call_enter KC needT Tryz.func92 rfl rfl good92 rfl rfl rfl (by simp) hH ?_)
 rw [rowR]
 have L1 := fun Q h => fst_loop1 (H := H) r hpl Q r.people.length 0 [] [] (by omega) rfl rfl h
 simp [fst1, apS_nil, apF_nil, rbox, zst] at L1
 simp
 refine L1 _ ?_
 clear L1
 have L2 := fun p h Q hh => fst_loop2 (H := H) r htl p h Q r.things.length 0 [] (by omega) rfl hh
 simp [fst2, apS_nil, apF_nil, rbox, zst] at L2
 simp
 have L3 := L2 (r.people.map (·.cell)) (r.people.map fun _ => empty)
 simp at L3
 refine L3 _ ?_
 clear L2 L3
 have n12 : newKey c 23 ≠ newKey c 31 := by unfold newKey; omega
 have n13 : newKey c 23 ≠ newKey c 51 := by unfold newKey; omega
 have n23 : newKey c 31 ≠ newKey c 51 := by unfold newKey; omega
 have k1 : (H.length - 1, newKey c 31) ≠ ((H.length - 1, newKey c 23) : Nm) := fun e => n12 (Prod.mk.inj e).2.symm
 have k2 : (H.length - 1, newKey c 51) ≠ ((H.length - 1, newKey c 23) : Nm) := fun e => n13 (Prod.mk.inj e).2.symm
 have k3 : (H.length - 1, newKey c 51) ≠ ((H.length - 1, newKey c 31) : Nm) := fun e => n23 (Prod.mk.inj e).2.symm
 have g2 : ∀ b, (H.set (H.length - 1, newKey c 23) b).get (H.length - 1, newKey c 31) = none := fun b => (Heap.get_set_other b k1).trans hf2
 have g3 : ∀ b b', ((H.set (H.length - 1, newKey c 23) b).set (H.length - 1, newKey c 31) b').get (H.length - 1, newKey c 51) = none := fun b b' => (Heap.get_set_other b' k3).trans ((Heap.get_set_other b k2).trans hf3)
 simp [apS, apF, hp0, ht0, gleave_keep, refs, refs2, refs1, dedup, moveOut, cleanBlk, hf1, g2, g3, ren, ren2, ren1, scSet, stG, firstV]
theorem firstP_okE (r : Rite) (hp0 : r.people ≠ []) (ht0 : r.things = []) (hpl : r.people.length ≤ 1000000) (htl : r.things.length ≤ 1000000) (hH : 0 < H.length)
  (hf1 : H.get (H.length - 1, newKey c 23) = none) (hf2 : H.get (H.length - 1, newKey c 31) = none) :
  gcall KC (geval KC) 92 [.pure (.agg r.row)] c H = some (stE r (H.length - 1, newKey c 23) (H.length - 1, newKey c 31) (firstV r),
   (H.set (H.length - 1, newKey c 23) (.arr 1 ((firstV r).people.map irow) 0 false)).set (H.length - 1, newKey c 31) (.arr 2 ((firstV r).hands.map Hands.row) 0 false)) := by
 refine WPv_eq (call_enter KC needT Tryz.func92 rfl rfl good92 rfl rfl rfl (by simp) hH ?_)
 rw [rowR]
 have L1 := fun Q h => fst_loop1 (H := H) r hpl Q r.people.length 0 [] [] (by omega) rfl rfl h
 simp [fst1, apS_nil, apF_nil, rbox, zst] at L1
 simp
 refine L1 _ ?_
 clear L1
 have L2 := fun p h Q hh => fst_loop2 (H := H) r htl p h Q r.things.length 0 [] (by omega) rfl hh
 simp [fst2, apS_nil, apF_nil, rbox, zst] at L2
 simp
 have L3 := L2 (r.people.map (·.cell)) (r.people.map fun _ => empty)
 simp at L3
 refine L3 _ ?_
 clear L2 L3
 have n12 : newKey c 23 ≠ newKey c 31 := by unfold newKey; omega
 have k1 : (H.length - 1, newKey c 31) ≠ ((H.length - 1, newKey c 23) : Nm) := fun e => n12 (Prod.mk.inj e).2.symm
 have g2 : ∀ b, (H.set (H.length - 1, newKey c 23) b).get (H.length - 1, newKey c 31) = none := fun b => (Heap.get_set_other b k1).trans hf2
 simp [apS, apF, hp0, ht0, gleave_keep, refs, refs2, refs1, dedup, moveOut, cleanBlk, hf1, g2, ren, ren2, ren1, stE, firstV]
end
section
variable {c : Nat} {H : Heap}
def ents (tk : List (Int × Int)) : List (PV × GV) := tk.map fun x => (.agg [.int .i64 x.1, .int .i64 x.2], .pure (.bool true))
theorem find_ents (a b : Int) : ∀ (tk : List (Int × Int)) (i : Nat), findEntry (.agg [.int .i64 a, .int .i64 b]) (ents tk) i = some (if (a, b) ∈ tk then some (i + tk.idxOf (a, b), .pure (.bool true)) else none)
  | [], i => by simp [ents, findEntry]
  | (p, q) :: tk, i => by
    have ih := find_ents a b tk (i + 1)
    unfold ents at ih ⊢
    rw [List.map_cons]
    unfold findEntry
    by_cases h : a = p ∧ b = q
    · obtain ⟨rfl, rfl⟩ := h
      simp [keyEq, rowEq]
    · have h' : (a == p && b == q) = false := by
        rw [Bool.and_eq_false_iff]
        by_cases e : a = p
        · right; simpa using fun e2 => h ⟨e, e2⟩
        · left; simpa using e
      have hne : ¬ (a, b) = (p, q) := fun e => h ⟨(Prod.mk.inj e).1, (Prod.mk.inj e).2⟩
      have hne' : ¬ (p, q) = (a, b) := fun e => hne e.symm
      simp only [keyEq, rowEq, if_true, Bool.and_true, h', ih, List.mem_cons, hne, false_or]
      have hb : ((p, q) == (a, b)) = false := by simpa using hne'
      simp only [List.idxOf_cons, hb, cond_false, Option.some.injEq]
      by_cases hm : (a, b) ∈ tk
      · simp [hm]; omega
      · simp [hm]
def insT (tk : List (Int × Int)) (x : Int × Int) : List (Int × Int) := if x ∈ tk then tk else tk ++ [x]
theorem insT_mem {tk : List (Int × Int)} {x y : Int × Int} : y ∈ insT tk x ↔ y ∈ tk ∨ y = x := by
 unfold insT
 split
 ·rename_i h
  constructor
  ·exact .inl
  ·rintro (h' | rfl)
   ·exact h'
   ·exact h
 ·simp
def insTs (tk l : List (Int × Int)) : List (Int × Int) := l.foldl insT tk
theorem insTs_mem {y : Int × Int} : ∀ {l tk : List (Int × Int)}, y ∈ insTs tk l ↔ y ∈ tk ∨ y ∈ l
  | [], tk => by simp [insTs]
  | x :: l, tk => by
    show y ∈ insTs (insT tk x) l ↔ _
    rw [insTs_mem, insT_mem]
    simp only [List.mem_cons]
    constructor
    · rintro ((h | h) | h)
      · exact .inl h
      · exact .inr (.inl h)
      · exact .inr (.inr h)
    · rintro (h | h | h)
      · exact .inl (.inl h)
      · exact .inl (.inr h)
      · exact .inr h
theorem ents_set {tk : List (Int × Int)} {a b : Int} (h : (a, b) ∈ tk) : (ents tk).set (tk.idxOf (a, b)) (.agg [.int .i64 a, .int .i64 b], .pure (.bool true)) = ents tk := by
 have hl : tk.idxOf (a, b) < tk.length := List.idxOf_lt_length_iff.2 h
 unfold ents
 refine List.ext_getElem (by simp) fun j h1 h2 => ?_
 rw [List.getElem_set]
 split
 ·rename_i e
  subst e
  simp [List.getElem_idxOf]
 ·rfl
theorem ents_app {tk : List (Int × Int)} {a b : Int} : ents tk ++ [(.agg [.int .i64 a, .int .i64 b], .pure (.bool true))] = ents (tk ++ [(a, b)]) := by simp [ents]
structure MF (F : Fr) (r : Rite) (s : Scene) (tk : List (Int × Int)) : Prop where
 g2 : F.get 2 = some (stbox r s)
 g4 : F.get 4 = some zst
 gm : F.get 18 = some (.map (ents tk))
theorem seen_loop {F : Fr} {r : Rite} {s : Scene} {tk : List (Int × Int)} (hF : MF F r s tk) (a : RAct) (g : List RAct) (n i : Nat) (l : List (Int × Int)) (hl : l.length ≤ 1000) (Q : GX → GSt → Prop) : ∀ k j : Nat, j + k = l.length →
    ((∀ x ∈ l.drop j, x ∉ tk) → Q (.exit 2) ⟨[(2, .bptr (H.length, 2) 0), (4, .bptr (H.length, 4) 0), (5, gdead), (6, gdead), (7, .bptr (H.length, 7) 0), (8, .map (H.length, 18)), (10, .bptr (H.length + 1, 10) 0), (11, .pure (.slice (l.map pairRow))), (19, .pure (.slice (g.map RAct.row))), (20, .pure (.int .i64 n)), (21, .pure (.int .i64 i))], [(10, abox a)] :: F :: H, 65⟩) →
    (¬ (∀ x ∈ l.drop j, x ∉ tk) → Q .ret ⟨[(2, .bptr (H.length, 2) 0), (4, .bptr (H.length, 4) 0), (5, .pure (.int .i64 i)), (6, .pure (.int .i64 12)), (7, .bptr (H.length, 7) 0), (8, .map (H.length, 18)), (10, .bptr (H.length + 1, 10) 0), (11, .pure (.slice (l.map pairRow))), (19, .pure (.slice (g.map RAct.row))), (20, .pure (.int .i64 n)), (21, .pure (.int .i64 i))], [(10, abox a)] :: F.ins 4 (stbox r s) :: H, 65⟩) →
    WPL KC needT 118 (lp Tryz.f118 1) [2, 4, 7, 8, 9, 10, 11, 19, 20, 21, 35, 36, 37] [2, 4, 5, 6, 7, 8, 10, 11, 19, 20, 21] Q
      [(2, .bptr (H.length, 2) 0), (4, .bptr (H.length, 4) 0), (7, .bptr (H.length, 7) 0), (8, .map (H.length, 18)), (9, .pure (.int .i64 i)), (10, .bptr (H.length + 1, 10) 0), (11, .pure (.slice (l.map pairRow))), (19, .pure (.slice (g.map RAct.row))), (20, .pure (.int .i64 n)), (21, .pure (.int .i64 i)), (35, .pure (.slice (l.map pairRow))), (36, .pure (.int .i64 l.length)), (37, .pure (.int .i64 j))] ([(10, abox a)] :: F :: H) 65 := by
  have g2 := hF.g2
  have g4 := hF.g4
  have gm := hF.gm
  intro k
  induction k with
  | zero =>
    intro j hj h1 h2
    apply WPL_step
    conv => arg 4; whnf
    have hnl : ¬ j < l.length := by omega
    have e : l.drop j = [] := List.drop_of_length_le (by omega)
    simp [hnl]
    simpa [abox] using h1 (by rw [e]; simp)
  | succ k ih =>
    intro j hj h1 h2
    have hja : j < l.length := by omega
    have hw := w64 (x := (j : Int) + 1) (by omega) (by omega)
    have ed : l.drop j = l[j] :: l.drop (j + 1) := List.drop_eq_getElem_cons hja
    have ne : ¬ H.length = H.length + 1 := by omega
    simp only [stbox] at g2
    simp only [zst] at g4
    apply WPL_step
    conv => arg 4; whnf
    by_cases hm : l[j] ∈ tk
    · have hm' : (l[j].1, l[j].2) ∈ tk := hm
      have h2' := h2 (fun h => h l[j] (by rw [ed]; exact List.mem_cons_self ..) hm)
      simp only [stbox, abox] at h2'
      simp [hja, pairRow, gm, find_ents, hm', mapOf, ne, g2, g4, splice, abox]
      exact h2'
    · have hm' : ¬ (l[j].1, l[j].2) ∈ tk := hm
      have ih' := ih (j + 1) (by omega) (fun h => h1 fun x hx => by
        rw [ed] at hx
        rcases List.mem_cons.1 hx with rfl | hx
        · exact hm
        · exact h x hx) (fun h => h2 fun h' => h fun x hx => h' x (by rw [ed]; exact List.mem_cons_of_mem _ hx))
      simp [hja, pairRow, gm, find_ents, hm', mapOf, ne, hw, abox]
      simpa [pairRow, abox] using ih'
theorem put_loop {a : RAct} (g : List RAct) (n i : Nat) (l : List (Int × Int)) (hl : l.length ≤ 1000) (Q : GX → GSt → Prop) : ∀ (k j : Nat) (F : Fr) (tk : List (Int × Int)), j + k = l.length → F.srt → F.get 18 = some (.map (ents tk)) →
    Q (.exit 4) ⟨[(2, .bptr (H.length, 2) 0), (4, .bptr (H.length, 4) 0), (7, .bptr (H.length, 7) 0), (8, .map (H.length, 18)), (10, .bptr (H.length + 1, 10) 0), (19, .pure (.slice (g.map RAct.row))), (20, .pure (.int .i64 n)), (21, .pure (.int .i64 i))], [(10, abox a)] :: F.ins 18 (.map (ents (insTs tk (l.drop j)))) :: H, 65⟩ →
    WPL KC needT 118 (lp Tryz.f118 2) [2, 4, 7, 8, 10, 19, 20, 21, 47, 48, 49] [2, 4, 7, 8, 10, 19, 20, 21] Q
      [(2, .bptr (H.length, 2) 0), (4, .bptr (H.length, 4) 0), (7, .bptr (H.length, 7) 0), (8, .map (H.length, 18)), (10, .bptr (H.length + 1, 10) 0), (19, .pure (.slice (g.map RAct.row))), (20, .pure (.int .i64 n)), (21, .pure (.int .i64 i)), (47, .pure (.slice (l.map pairRow))), (48, .pure (.int .i64 l.length)), (49, .pure (.int .i64 j))] ([(10, abox a)] :: F :: H) 65 := by
  intro k
  induction k with
  | zero =>
    intro j F tk hj hs gm h1
    apply WPL_step
    conv => arg 4; whnf
    have hnl : ¬ j < l.length := by omega
    have e : l.drop j = [] := List.drop_of_length_le (by omega)
    rw [e, show insTs tk [] = tk from rfl, Fr.ins_same hs gm] at h1
    simp only [abox] at h1
    simp [hnl, abox]
    exact h1
  | succ k ih =>
    intro j F tk hj hs gm h1
    have hja : j < l.length := by omega
    have hw := w64 (x := (j : Int) + 1) (by omega) (by omega)
    have ed : l.drop j = l[j] :: l.drop (j + 1) := List.drop_eq_getElem_cons hja
    have ne : ¬ H.length = H.length + 1 := by omega
    rw [ed, show insTs tk (l[j] :: l.drop (j + 1)) = insTs (insT tk l[j]) (l.drop (j + 1)) from rfl] at h1
    have ih' := ih (j + 1) (F.ins 18 (.map (ents (insT tk l[j])))) (insT tk l[j]) (by omega) (Fr.ins_srt hs) (Fr.get_ins ..) (by rw [Fr.ins_ins]; exact h1)
    apply WPL_step
    conv => arg 4; whnf
    by_cases hm : l[j] ∈ tk
    · have hm' : (l[j].1, l[j].2) ∈ tk := hm
      have e2 : insT tk l[j] = tk := by unfold insT; rw [if_pos hm]
      rw [e2] at ih'
      have e3 := ents_set hm'
      simp [hja, pairRow, gm, find_ents, hm', ne, hw, abox, muV, lowerVal, e3]
      simpa [pairRow, abox] using ih'
    · have hm' : ¬ (l[j].1, l[j].2) ∈ tk := hm
      have e2 : insT tk l[j] = tk ++ [(l[j].1, l[j].2)] := by unfold insT; rw [if_neg hm]
      rw [e2] at ih'
      simp [hja, pairRow, gm, find_ents, hm', ne, hw, abox, muV, lowerVal, ents_app]
      simpa [pairRow, abox] using ih'
end
section
variable {c : Nat} {H : Heap}
noncomputable def minR (r : Rite) (s : Scene) : List RAct → List (Int × Int) → Scene → Nat → Scene × Int × Int
 | [], _, nx, _ => (nx, 0, 0)
 | a :: g, tk, nx, i => if posV r s a.who.toNat a = false then (s, i, 10) else if ∀ x ∈ touchP s a.who.toNat a, x ∉ tk then minR r s g (insTs tk (touchP s a.who.toNat a)) (doV nx a.who.toNat a) (i + 1) else (s, i, 12)
theorem GOk.after {r : Rite} : ∀ {p : List RAct} {s : Scene} {a : RAct}, Snd r s → GOk r s (p ++ [a]) → Snd r (doG s p) ∧ posV r (doG s p) a.who.toNat a = true
  | [], s, a, hS, h => ⟨hS, (h.ab a (by simp)).2⟩
  | b :: p, s, a, hS, h => by
    obtain ⟨h1, h2⟩ := h.tail hS
    show Snd r (doG (doV s b.who.toNat b) p) ∧ posV r (doG (doV s b.who.toNat b) p) a.who.toNat a = true
    exact GOk.after h1 h2
def TkOf (s : Scene) (p : List RAct) (tk : List (Int × Int)) : Prop := ∀ x, x ∈ tk ↔ ∃ b ∈ p, x ∈ touchP s b.who.toNat b
theorem TkOf.snoc {s : Scene} {p : List RAct} {tk : List (Int × Int)} {a : RAct} (h : TkOf s p tk) : TkOf s (p ++ [a]) (insTs tk (touchP s a.who.toNat a)) := fun x => by
 rw [insTs_mem, h x]
 simp only [List.mem_append, List.mem_singleton]
 constructor
 ·rintro (⟨b, hb, hx⟩ | hx)
  ·exact ⟨b, .inl hb, hx⟩
  ·exact ⟨a, .inr rfl, hx⟩
 ·rintro ⟨b, hb | rfl, hx⟩
  ·exact .inl ⟨b, hb, hx⟩
  ·exact .inr hx
theorem GOk.snoc {r : Rite} {s : Scene} {p : List RAct} {tk : List (Int × Int)} {a : RAct} (h : GOk r s p) (ht : TkOf s p tk) (hA : AB r a.who.toNat a) (pa : posV r s a.who.toNat a = true) (hd : ∀ x ∈ touchP s a.who.toNat a, x ∉ tk) : GOk r s (p ++ [a]) where
 ab := fun b hb => by
  rcases List.mem_append.1 hb with hb | hb
  ·exact h.ab b hb
  ·simp only [List.mem_singleton] at hb; subst hb; exact ⟨hA, pa⟩
 ap := by
  rw [List.pairwise_append]
  refine ⟨h.ap, List.pairwise_singleton .., fun b hb x hx => ?_⟩
  simp only [List.mem_singleton] at hx
  subst hx
  exact (touchP_apa.2 fun y h1 h2 => hd y h2 ((ht y).2 ⟨b, hb, h1⟩))
def doF (k : Nat) : Nat := 136 + 2 * (k - 1)
theorem doF_ok {r : Rite} {s : Scene} {w : Nat} {a : RAct} {n1 n2 n3 : Nm} {v1 v2 v3 : Nat} (h : ScSelf H n1 n2 n3 v1 v2 v3 s) (hb : DoB s w a) (hst : ∀ t : Nat, t < s.things.length → 0 ≤ (s.things.getD t spot0).state ∧ (s.things.getD t spot0).state < 16) (hH : 0 < H.length) : DoR H (doF a.kind.toNat) r n1 n2 n3 s w a c := by
 obtain ⟨d1, d2, d3, d4, d5, d6, d7, d8⟩ := doP_ok (r := r) (c := c) h hb hst hH
 rcases kinds8 hb.kind with k | k | k | k | k | k | k | k
 ·rw [show doF a.kind.toNat = 136 by rw [k]; rfl]; exact d1 k
 ·rw [show doF a.kind.toNat = 138 by rw [k]; rfl]; exact d2 k
 ·rw [show doF a.kind.toNat = 140 by rw [k]; rfl]; exact d3 k
 ·rw [show doF a.kind.toNat = 142 by rw [k]; rfl]; exact d4 k
 ·rw [show doF a.kind.toNat = 144 by rw [k]; rfl]; exact d5 k
 ·rw [show doF a.kind.toNat = 146 by rw [k]; rfl]; exact d6 k
 ·rw [show doF a.kind.toNat = 148 by rw [k]; rfl]; exact d7 k
 ·rw [show doF a.kind.toNat = 150 by rw [k]; rfl]; exact d8 k
def mq1 : Nat := 117469202
def mq2 : Nat := 117485586
def mq3 : Nat := 117501970
def nxB (L : Nat) (r : Rite) (s : Scene) : Blk := .box [.pure (.int .i64 r.wide), .pure (.int .i64 r.deep), .pure (.slice (r.people.map Person.row)), .pure (.slice (r.things.map Thing.row)), .pure (.slice (r.seen.map irow)), .pure (.slice (r.lapses.map irow)), .pure (.slice (r.acts.map RAct.row)), .hdr (L, mq1) 1 s.people.length 0 s.people.length, .hdr (L, mq2) 2 s.hands.length 0 s.hands.length, .hdr (L, mq3) 2 s.things.length 0 s.things.length]
structure MX (L : Nat) (F : Fr) (r : Rite) (s : Scene) (tk : List (Int × Int)) (nx : Scene) : Prop extends MF F r s tk where
 srt : F.srt
 g7 : F.get 7 = some (nxB L r nx)
 sc : SF F mq1 mq2 mq3 nx
theorem min_loop {r : Rite} {s : Scene} (hS : Snd r s) (hW : WB r) (acts : List RAct) (hal : acts.length ≤ 1000000) (hA : ∀ a ∈ acts, AB r a.who.toNat a) (Q : GX → GSt → Prop) :
    ∀ (k i : Nat) (F : Fr) (tk : List (Int × Int)) (nx : Scene), i + k = acts.length → MX H.length F r s tk nx → TkOf s (acts.take i) tk → GOk r s (acts.take i) → nx = doG s (acts.take i) →
    ((minR r s (acts.drop i) tk nx i).2.2 = 0 → ∀ F', (∃ tk', MX H.length F' r s tk' (minR r s (acts.drop i) tk nx i).1) → GOk r s acts → (minR r s (acts.drop i) tk nx i).1 = doG s acts → Q (.exit 0) ⟨[(4, .bptr (H.length, 4) 0), (5, gdead), (6, gdead), (7, .bptr (H.length, 7) 0)], F' :: H, 65⟩) →
    ((minR r s (acts.drop i) tk nx i).2.2 ≠ 0 → (minR r s (acts.drop i) tk nx i).1 = s → ∀ F', F'.get 4 = some (stbox r s) → Q .ret ⟨[(4, .bptr (H.length, 4) 0), (5, .pure (.int .i64 (minR r s (acts.drop i) tk nx i).2.1)), (6, .pure (.int .i64 (minR r s (acts.drop i) tk nx i).2.2)), (7, .bptr (H.length, 7) 0)], F' :: H, 65⟩) →
    WPL KC needT 118 (lp Tryz.f118 0) [2, 4, 7, 8, 19, 20, 21] [4, 5, 6, 7] Q
      [(2, .bptr (H.length, 2) 0), (4, .bptr (H.length, 4) 0), (7, .bptr (H.length, 7) 0), (8, .map (H.length, 18)), (19, .pure (.slice (acts.map RAct.row))), (20, .pure (.int .i64 acts.length)), (21, .pure (.int .i64 i))] (F :: H) 65 := by
  intro k
  induction k with
  | zero =>
    intro i F tk nx hi hF hT hG hnx h1 h2
    apply WPL_step
    conv => arg 4; whnf
    have hnl : ¬ i < acts.length := by omega
    have e : acts.drop i = [] := List.drop_of_length_le (by omega)
    have et : acts.take i = acts := List.take_of_length_le (by omega)
    rw [e] at h1
    simp [hnl]
    exact h1 rfl F ⟨tk, hF⟩ (et ▸ hG) (by show nx = _; rw [hnx, et])
  | succ k ih =>
    intro i F tk nx hi hF hT hG hnx h1 h2
    have hia : i < acts.length := by omega
    have hw := w64 (x := (i : Int) + 1) (by omega) (by omega)
    have ed : acts.drop i = acts[i] :: acts.drop (i + 1) := List.drop_eq_getElem_cons hia
    have et : acts.take (i + 1) = acts.take i ++ [acts[i]] := List.take_succ_eq_append_getElem hia
    have ne : ¬ H.length = H.length + 1 := by omega
    obtain ⟨a, ha⟩ : ∃ a, acts[i] = a := ⟨_, rfl⟩
    have hAa : AB r a.who.toNat a := hA a (ha ▸ List.getElem_mem hia)
    obtain ⟨w, hwq⟩ : ∃ w, a.who.toNat = w := ⟨_, rfl⟩
    rw [ha] at ed et
    rw [ed] at h1 h2
    unfold minR at h1 h2
    have g2 := hF.g2
    have g4 := hF.g4
    have g7 := hF.g7
    have M := fun c (H : Heap) (hH : 0 < H.length) => may_ok (c := c) (H := H) hS hW hAa hH
    have T := fun c (H : Heap) (hH : 0 < H.length) => touchesP_ok (c := c) (H := H) hS hAa hH
    have hAk := hAa.kind
    have kk : ((a.kind.toNat : Nat) : Int) = a.kind := by omega
    have W := fun c (H : Heap) (hH : 0 < H.length) => way_ok (c := c) (H := H) (k := a.kind.toNat) (by omega) hH
    rw [kk] at W
    apply WPL_step
    conv => arg 4; whnf
    cases hp : posV r s a.who.toNat a with
    | false =>
      rw [hp] at M
      simp only [hp, if_true] at h2
      have h2' := h2 (by decide) trivial (F.ins 4 (stbox r s)) (Fr.get_ins ..)
      rw [actRow] at M
      simp only [stbox] at g2 h2'
      simp only [zst] at g4
      simp only [stRow] at M
      simp [hia, ha, actRow, ne, g2, g4, M, splice]
      exact h2'
    | true =>
      rw [hp] at M
      obtain ⟨l, hl⟩ : ∃ l, touchP s a.who.toNat a = l := ⟨_, rfl⟩
      have hll : l.length ≤ 1000 := by
        rw [← hl]; unfold touchP
        repeat' split
        all_goals simp
      rw [hl] at T h1 h2
      simp only [hp, Bool.true_eq_false, if_false] at h1 h2
      have L1 := fun Q => seen_loop (H := H) hF.toMF a acts acts.length i l hll Q l.length 0 (by omega)
      simp only [List.drop_zero, abox] at L1
      have hF1s : (F.ins 18 (.map (ents (insTs tk l)))).srt := Fr.ins_srt hF.srt
      rw [actRow] at M T
      simp only [stbox] at g2
      simp only [zst] at g4
      simp only [stRow] at M T
      simp [hia, ha, actRow, ne, g2, g4, M, T]
      refine L1 _ (fun hfr => ?_) (fun hfr => ?_)
      · clear L1
        rw [if_pos hfr] at h1 h2
        have hGs : GOk r s (acts.take (i + 1)) := by rw [et]; exact hG.snoc hT hAa hp (by rw [hl]; exact hfr)
        have hTs : TkOf s (acts.take (i + 1)) (insTs tk l) := by rw [et, ← hl]; exact hT.snoc
        have aft := (GOk.after hS (et ▸ hGs) : Snd r (doG s (acts.take i)) ∧ _)
        rw [← hnx] at aft
        have hD := DoB_of aft.1 hAa aft.2
        have L2 := fun Q => put_loop (H := H) (a := a) acts acts.length i l hll Q l.length 0 F tk (by omega) hF.srt hF.gm
        simp only [List.drop_zero, abox] at L2
        simp [ne]
        refine L2 _ ?_
        clear L2
        have q12 : mq1 ≠ mq2 := by decide
        have q13 : mq1 ≠ mq3 := by decide
        have q23 : mq2 ≠ mq3 := by decide
        have e1 : ∀ k, k ≠ 18 → (F.ins 18 (.map (ents (insTs tk l)))).get k = F.get k := fun k hk => Fr.get_ins_other _ hk _
        have sc1 : SF (F.ins 18 (.map (ents (insTs tk l)))) mq1 mq2 mq3 nx := hF.sc.other (e1 _ (by decide)) (e1 _ (by decide)) (e1 _ (by decide))
        have g71 := (e1 7 (by decide)).trans g7
        have gm1 : (F.ins 18 (.map (ents (insTs tk l)))).get 18 = some (.map (ents (insTs tk l))) := Fr.get_ins ..
        have g21 := (e1 2 (by decide)).trans hF.g2
        have g41 := (e1 4 (by decide)).trans hF.g4
        generalize F.ins 18 (.map (ents (insTs tk l))) = F1 at hF1s sc1 g71 gm1 g21 g41 ⊢
        obtain ⟨u1, u2, u3, SS⟩ := sc1.self (f0 := [(10, abox a)]) (H := H) hF1s q12 q13 q23
        obtain ⟨v1, v2, v3, b1, b2, b3, ed'⟩ := doF_ok (r := r) (c := 62) SS hD aft.1.st (by simp)
        have LD := doV_len (s := nx) (w := a.who.toNat) hAk
        obtain ⟨F2, hF2⟩ : ∃ F2, ((F1.ins mq1 (.arr 1 ((doV nx a.who.toNat a).people.map irow) v1 false)).ins mq2 (.arr 2 ((doV nx a.who.toNat a).hands.map Hands.row) v2 false)).ins mq3 (.arr 2 ((doV nx a.who.toNat a).things.map Spot.row) v3 false) = F2 := ⟨_, rfl⟩
        have hsc : scSet ([(10, abox a)] :: F1 :: H) (H.length, mq1) (H.length, mq2) (H.length, mq3) v1 v2 v3 (doV nx a.who.toNat a) = [(10, abox a)] :: F2 :: H := by
          rw [← hF2]; simp [scSet, ne]
        rw [hsc] at ed'
        have o2 : ∀ k, k ≠ mq1 → k ≠ mq2 → k ≠ mq3 → F2.get k = F1.get k := fun k h1 h2 h3 => by rw [← hF2, Fr.get_ins_other _ h3, Fr.get_ins_other _ h2, Fr.get_ins_other _ h1]
        have enx : nxB H.length r (doV nx a.who.toNat a) = nxB H.length r nx := by simp only [nxB, LD]
        have MX2 : MX H.length F2 r s (insTs tk l) (doV nx a.who.toNat a) := {
          g2 := (o2 2 (by decide) (by decide) (by decide)).trans g21
          g4 := (o2 4 (by decide) (by decide) (by decide)).trans g41
          gm := (o2 18 (by decide) (by decide) (by decide)).trans gm1
          srt := by rw [← hF2]; exact Fr.ins_srt (Fr.ins_srt (Fr.ins_srt hF1s))
          g7 := by rw [enx]; exact (o2 7 (by decide) (by decide) (by decide)).trans g71
          sc := ⟨⟨v1, by omega, by rw [← hF2, Fr.get_ins_other _ q13, Fr.get_ins_other _ q12, Fr.get_ins]⟩, ⟨v2, by omega, by rw [← hF2, Fr.get_ins_other _ q23, Fr.get_ins]⟩, ⟨v3, by omega, by rw [← hF2, Fr.get_ins]⟩⟩ }
        have ih' := ih (i + 1) F2 (insTs tk l) (doV nx a.who.toNat a) (by omega) MX2 hTs hGs (by rw [hnx, et, doG_append]; rfl) h1 h2
        rw [actRow] at ed'
        simp only [nxB] at g71
        simp only [stG, abox, doF] at ed'
        simp [ne, g71, W, ed', hw, doF]
        simpa using ih'
      · clear L1
        rw [if_neg hfr] at h2
        have h2' := h2 (show (12 : Int) ≠ 0 by decide) rfl (F.ins 4 (stbox r s)) (Fr.get_ins ..)
        simp only [stbox] at h2' ⊢
        simp
        exact h2'
end
section
variable {c : Nat} {H : Heap}
theorem doG_len {r : Rite} {s : Scene} {g : List RAct} (hS : Snd r s) (hG : GOk r s g) : (doG s g).people.length = s.people.length ∧ (doG s g).hands.length = s.hands.length ∧ (doG s g).things.length = s.things.length := by
 have a := hG.snd hS
 exact ⟨a.pl.trans hS.pl.symm, a.hl.trans hS.hl.symm, a.tl.trans hS.tl.symm⟩
theorem minR_at {r : Rite} {s : Scene} : ∀ {g : List RAct} {tk : List (Int × Int)} {nx : Scene} {i : Nat}, (minR r s g tk nx i).2.2 = 0 → (minR r s g tk nx i).2.1 = 0
  | [], _, _, _, _ => rfl
  | a :: g, tk, nx, i, h => by
    unfold minR at h ⊢
    split at h
    · simp at h
    · rename_i h1
      split at h
      · rename_i h2
        rw [if_neg h1, if_pos h2]
        exact minR_at h
      · simp at h
theorem minute_okT {r : Rite} {s : Scene} (hS : Snd r s) (hW : WB r) (hFu : Full s) (ht0 : s.things ≠ []) (acts : List RAct) (hal : acts.length ≤ 1000000) (hA : ∀ a ∈ acts, AB r a.who.toNat a) (hH : 0 < H.length) :
  gcall KC (geval KC) 118 [.pure (.agg (stRow r s)), .pure (.slice (acts.map RAct.row))] c H =
   some (.pure (.tuple [.agg (stRow r (minR r s acts [] s 0).1), .int .i64 (minR r s acts [] s 0).2.1, .int .i64 (minR r s acts [] s 0).2.2]), H) := by
 refine WPv_eq (call_enter KC needT Tryz.func118 rfl rfl good118 rfl rfl rfl (by simp) hH ?_)
 have k1 : newKey 17 28679 = mq1 := by decide
 have k2 : newKey 17 28683 = mq2 := by decide
 have k3 : newKey 17 28687 = mq3 := by decide
 have C := copied_ok (c := 17) (H := [(2, stbox r s), (4, zst)] :: H) r hFu ht0 (by simp) (by simp [k1, mq1]) (by simp [k2, mq2]) (by simp [k3, mq3])
 simp only [List.length_cons, Nat.add_sub_cancel, k1, k2, k3] at C
 obtain ⟨F0, hF0⟩ : ∃ F0 : Fr, [(2, stbox r s), (4, zst), (mq1, .arr 1 (s.people.map irow) 0 false), (mq2, .arr 2 (s.hands.map Hands.row) 0 false), (mq3, .arr 2 (s.things.map Spot.row) 0 false)] = F0 := ⟨_, rfl⟩
 have hC : scSet ([(2, stbox r s), (4, zst)] :: H) (H.length, mq1) (H.length, mq2) (H.length, mq3) 0 0 0 s = F0 :: H := by
  rw [← hF0]; simp [scSet, mq1, mq2, mq3]
 rw [hC] at C
 obtain ⟨F1, hF1⟩ : ∃ F1, (F0.ins 7 (nxB H.length r s)).ins 18 (.map []) = F1 := ⟨_, rfl⟩
 have f07 : F0.get 7 = none := by rw [← hF0]; simp [mq1, mq2, mq3]
 have f018 : F0.get 18 = none := by rw [← hF0]; simp [mq1, mq2, mq3]
 have o1 : ∀ k, k ≠ 7 → k ≠ 18 → F1.get k = F0.get k := fun k h1 h2 => by rw [← hF1, Fr.get_ins_other _ h2, Fr.get_ins_other _ h1]
 have MX1 : MX H.length F1 r s [] s := {
  g2 := (o1 2 (by decide) (by decide)).trans (by rw [← hF0]; simp)
  g4 := (o1 4 (by decide) (by decide)).trans (by rw [← hF0]; simp)
  gm := by rw [← hF1, Fr.get_ins]; rfl
  srt := by
   rw [← hF1]
   refine Fr.ins_srt (Fr.ins_srt ?_)
   rw [← hF0]; simp [Fr.srt, mq1, mq2, mq3]
  g7 := by rw [← hF1, Fr.get_ins_other _ (by decide), Fr.get_ins]
  sc := ⟨⟨0, Nat.zero_le _, (o1 _ (by decide) (by decide)).trans (by rw [← hF0]; simp [mq1, mq2, mq3])⟩, ⟨0, Nat.zero_le _, (o1 _ (by decide) (by decide)).trans (by rw [← hF0]; simp [mq1, mq2, mq3])⟩, ⟨0, Nat.zero_le _, (o1 _ (by decide) (by decide)).trans (by rw [← hF0]; simp [mq1, mq2, mq3])⟩⟩ }
 have L1 := fun Q => min_loop (H := H) hS hW acts hal hA Q acts.length 0 F1 [] s (by omega) MX1 (fun x => by simp) ⟨fun a ha => by simp at ha, by simp⟩ rfl
 simp only [List.drop_zero] at L1
 simp only [stRow, stG, stbox, zst] at C
 have f018' : (F0.ins 7 (nxB H.length r s)).get 18 = none := (Fr.get_ins_other _ (by decide) _).trans f018
 simp only [nxB] at hF1 f018'
 unfold stRow
 simp [C, f07, f018', Fr.get_ins, Fr.ins_ins, hF1]
 refine L1 _ (fun he F' hF' hG hm => ?_) (fun he hm F' h4 => ?_)
 ·obtain ⟨tk', hF'⟩ := hF'
  have g7 := hF'.g7
  have g4 := hF'.g4
  have LL := doG_len hS hG
  rw [hm] at hF' g7
  obtain ⟨v1, a1, b1⟩ := hF'.sc.h1
  obtain ⟨v2, a2, b2⟩ := hF'.sc.h2
  obtain ⟨v3, a3, b3⟩ := hF'.sc.h3
  have o4 : ∀ (x : Blk) (k : Nat), k ≠ 4 → (F'.ins 4 x).get k = F'.get k := fun x k hk => Fr.get_ins_other _ hk _
  have c1 := fun x => (o4 x mq1 (by decide)).trans b1
  have c2 := fun x => (o4 x mq2 (by decide)).trans b2
  have c3 := fun x => (o4 x mq3 (by decide)).trans b3
  have hat := minR_at he
  rw [hm]
  simp only [nxB] at g7
  simp only [zst] at g4
  simp [g7, g4, splice, Fr.get_ins]
  have fin : ∀ x, gleave KC 118 c (.tuple [.agg [.pure (.int .i64 r.wide), .pure (.int .i64 r.deep), .pure (.slice (r.people.map Person.row)), .pure (.slice (r.things.map Thing.row)), .pure (.slice (r.seen.map irow)), .pure (.slice (r.lapses.map irow)), .pure (.slice (r.acts.map RAct.row)), .hdr (H.length, mq1) 1 (doG s acts).people.length 0 (doG s acts).people.length, .hdr (H.length, mq2) 2 (doG s acts).hands.length 0 (doG s acts).hands.length, .hdr (H.length, mq3) 2 (doG s acts).things.length 0 (doG s acts).things.length], .pure (.int .i64 0), .pure (.int .i64 0)]) (F'.ins 4 x :: H) =
    some (.pure (.tuple [.agg (stRow r (doG s acts)), .int .i64 0, .int .i64 0]), H) := fun x => by
   have d1 := c1 x
   have d2 := c2 x
   have d3 := c3 x
   generalize F'.ins 4 x = F5 at d1 d2 d3
   have hnl : ¬ H.length ≤ H.length - 1 := by omega
   rw [gleave_free (by simp)]
   simp [hnl, d1, d2, d3, a1, a2, a3, stRow]
   exact ⟨List.take_of_length_le (by simp), List.take_of_length_le (by simp), List.take_of_length_le (by simp)⟩
  rw [fin, WPv_some, hat, he]
  simp only [stRow]
 ·rw [hm]
  simp only [stbox] at h4
  simp [h4, gleave_free]
end
section
variable {c : Nat} {H : Heap}
theorem kind_1 {s : Scene} {w : Nat} {a : RAct} (hb : DoB s w a) (h : s.things = []) : a.kind = 1 := by
 have hk := hb.kind
 have e : s.things.length = 0 := by rw [h]; rfl
 by_cases k1 : a.kind = 1
 ·exact k1
 ·by_cases k2 : a.kind = 2
  ·obtain ⟨t, _, ht⟩ := hb.take k2
   omega
  ·obtain ⟨t, _, ht⟩ := hb.held (by omega)
   omega
theorem doStepE {r : Rite} {s : Scene} {w : Nat} {a : RAct} {n1 n2 : Nm} {v1 : Nat} (g1 : H.get n1 = some (.arr 1 (s.people.map irow) v1 false)) (e1 : v1 ≤ s.people.length) (g2 : n2.1 < H.length) (hp : w < s.people.length) (hwho : a.who = w) (k : a.kind = 1) (hH : 0 < H.length) :
  gcall KC (geval KC) 136 [stE r n1 n2 s, .pure (.agg a.row)] c H = some (.pure (.tuple []), H.set n1 (.arr 1 ((doV s w a).people.map irow) s.people.length false)) := by
 have l1 := Heap.get_lt g1
 have d1 : ¬ n1.1 = H.length := by omega
 have d2 : ¬ n2.1 = H.length := by omega
 have hd := doV_1 (s := s) (w := w) k
 refine WPv_eq (call_enterR KC needT Tryz.func136 rfl rfl good136 rfl rfl rfl (by simp) hH ?_)
 rw [actRow]
 unfold stE
 simp [d1, d2, g1, e1, hp, hwho, irow, splice, gleave_free, hd]
def nxE (L : Nat) (r : Rite) (s : Scene) : Blk := .box [.pure (.int .i64 r.wide), .pure (.int .i64 r.deep), .pure (.slice (r.people.map Person.row)), .pure (.slice (r.things.map Thing.row)), .pure (.slice (r.seen.map irow)), .pure (.slice (r.lapses.map irow)), .pure (.slice (r.acts.map RAct.row)), .hdr (L, mq1) 1 s.people.length 0 s.people.length, .hdr (L, mq2) 2 s.hands.length 0 s.hands.length, .nils]
structure ME (L : Nat) (F : Fr) (r : Rite) (s : Scene) (tk : List (Int × Int)) (nx : Scene) : Prop extends MF F r s tk where
 srt : F.srt
 g7 : F.get 7 = some (nxE L r nx)
 h1 : ∃ v, v ≤ nx.people.length ∧ F.get mq1 = some (.arr 1 (nx.people.map irow) v false)
 h2 : F.get mq2 = some (.arr 2 (nx.hands.map Hands.row) 0 false)
theorem min_loopE {r : Rite} {s : Scene} (ht0 : r.things = []) (hS : Snd r s) (hW : WB r) (acts : List RAct) (hal : acts.length ≤ 1000000) (hA : ∀ a ∈ acts, AB r a.who.toNat a) (Q : GX → GSt → Prop) :
    ∀ (k i : Nat) (F : Fr) (tk : List (Int × Int)) (nx : Scene), i + k = acts.length → ME H.length F r s tk nx → TkOf s (acts.take i) tk → GOk r s (acts.take i) → nx = doG s (acts.take i) →
    ((minR r s (acts.drop i) tk nx i).2.2 = 0 → ∀ F', (∃ tk', ME H.length F' r s tk' (minR r s (acts.drop i) tk nx i).1) → GOk r s acts → (minR r s (acts.drop i) tk nx i).1 = doG s acts → Q (.exit 0) ⟨[(4, .bptr (H.length, 4) 0), (5, gdead), (6, gdead), (7, .bptr (H.length, 7) 0)], F' :: H, 65⟩) →
    ((minR r s (acts.drop i) tk nx i).2.2 ≠ 0 → (minR r s (acts.drop i) tk nx i).1 = s → ∀ F', F'.get 4 = some (stbox r s) → Q .ret ⟨[(4, .bptr (H.length, 4) 0), (5, .pure (.int .i64 (minR r s (acts.drop i) tk nx i).2.1)), (6, .pure (.int .i64 (minR r s (acts.drop i) tk nx i).2.2)), (7, .bptr (H.length, 7) 0)], F' :: H, 65⟩) →
    WPL KC needT 118 (lp Tryz.f118 0) [2, 4, 7, 8, 19, 20, 21] [4, 5, 6, 7] Q
      [(2, .bptr (H.length, 2) 0), (4, .bptr (H.length, 4) 0), (7, .bptr (H.length, 7) 0), (8, .map (H.length, 18)), (19, .pure (.slice (acts.map RAct.row))), (20, .pure (.int .i64 acts.length)), (21, .pure (.int .i64 i))] (F :: H) 65 := by
  intro k
  induction k with
  | zero =>
    intro i F tk nx hi hF hT hG hnx h1 h2
    apply WPL_step
    conv => arg 4; whnf
    have hnl : ¬ i < acts.length := by omega
    have e : acts.drop i = [] := List.drop_of_length_le (by omega)
    have et : acts.take i = acts := List.take_of_length_le (by omega)
    rw [e] at h1
    simp [hnl]
    exact h1 rfl F ⟨tk, hF⟩ (et ▸ hG) (by show nx = _; rw [hnx, et])
  | succ k ih =>
    intro i F tk nx hi hF hT hG hnx h1 h2
    have hia : i < acts.length := by omega
    have hw := w64 (x := (i : Int) + 1) (by omega) (by omega)
    have ed : acts.drop i = acts[i] :: acts.drop (i + 1) := List.drop_eq_getElem_cons hia
    have et : acts.take (i + 1) = acts.take i ++ [acts[i]] := List.take_succ_eq_append_getElem hia
    have ne : ¬ H.length = H.length + 1 := by omega
    obtain ⟨a, ha⟩ : ∃ a, acts[i] = a := ⟨_, rfl⟩
    have hAa : AB r a.who.toNat a := hA a (ha ▸ List.getElem_mem hia)
    obtain ⟨w, hwq⟩ : ∃ w, a.who.toNat = w := ⟨_, rfl⟩
    rw [ha] at ed et
    rw [ed] at h1 h2
    unfold minR at h1 h2
    have g2 := hF.g2
    have g4 := hF.g4
    have g7 := hF.g7
    have M := fun c (H : Heap) (hH : 0 < H.length) => may_ok (c := c) (H := H) hS hW hAa hH
    have T := fun c (H : Heap) (hH : 0 < H.length) => touchesP_ok (c := c) (H := H) hS hAa hH
    have hAk := hAa.kind
    have kk : ((a.kind.toNat : Nat) : Int) = a.kind := by omega
    have W := fun c (H : Heap) (hH : 0 < H.length) => way_ok (c := c) (H := H) (k := a.kind.toNat) (by omega) hH
    rw [kk] at W
    apply WPL_step
    conv => arg 4; whnf
    cases hp : posV r s a.who.toNat a with
    | false =>
      rw [hp] at M
      simp only [hp, if_true] at h2
      have h2' := h2 (by decide) trivial (F.ins 4 (stbox r s)) (Fr.get_ins ..)
      rw [actRow] at M
      simp only [stbox] at g2 h2'
      simp only [zst] at g4
      simp only [stRow] at M
      simp [hia, ha, actRow, ne, g2, g4, M, splice]
      exact h2'
    | true =>
      rw [hp] at M
      obtain ⟨l, hl⟩ : ∃ l, touchP s a.who.toNat a = l := ⟨_, rfl⟩
      have hll : l.length ≤ 1000 := by
        rw [← hl]; unfold touchP
        repeat' split
        all_goals simp
      rw [hl] at T h1 h2
      simp only [hp, Bool.true_eq_false, if_false] at h1 h2
      have L1 := fun Q => seen_loop (H := H) hF.toMF a acts acts.length i l hll Q l.length 0 (by omega)
      simp only [List.drop_zero, abox] at L1
      have hF1s : (F.ins 18 (.map (ents (insTs tk l)))).srt := Fr.ins_srt hF.srt
      rw [actRow] at M T
      simp only [stbox] at g2
      simp only [zst] at g4
      simp only [stRow] at M T
      simp [hia, ha, actRow, ne, g2, g4, M, T]
      refine L1 _ (fun hfr => ?_) (fun hfr => ?_)
      · clear L1
        rw [if_pos hfr] at h1 h2
        have hGs : GOk r s (acts.take (i + 1)) := by rw [et]; exact hG.snoc hT hAa hp (by rw [hl]; exact hfr)
        have hTs : TkOf s (acts.take (i + 1)) (insTs tk l) := by rw [et, ← hl]; exact hT.snoc
        have aft := (GOk.after hS (et ▸ hGs) : Snd r (doG s (acts.take i)) ∧ _)
        rw [← hnx] at aft
        have hD := DoB_of aft.1 hAa aft.2
        have L2 := fun Q => put_loop (H := H) (a := a) acts acts.length i l hll Q l.length 0 F tk (by omega) hF.srt hF.gm
        simp only [List.drop_zero, abox] at L2
        simp [ne]
        refine L2 _ ?_
        clear L2
        have q12 : mq1 ≠ mq2 := by decide
        have q21 : mq2 ≠ mq1 := by decide
        have e1 : ∀ k, k ≠ 18 → (F.ins 18 (.map (ents (insTs tk l)))).get k = F.get k := fun k hk => Fr.get_ins_other _ hk _
        obtain ⟨u1, w1, hh1⟩ := hF.h1
        have hh1' := (e1 mq1 (by decide)).trans hh1
        have hh2' := (e1 mq2 (by decide)).trans hF.h2
        have g71 := (e1 7 (by decide)).trans g7
        have gm1 : (F.ins 18 (.map (ents (insTs tk l)))).get 18 = some (.map (ents (insTs tk l))) := Fr.get_ins ..
        have g21 := (e1 2 (by decide)).trans hF.g2
        have g41 := (e1 4 (by decide)).trans hF.g4
        generalize F.ins 18 (.map (ents (insTs tk l))) = F1 at hF1s hh1' hh2' g71 gm1 g21 g41 ⊢
        have hnt : nx.things = [] := List.eq_nil_of_length_eq_zero (by rw [aft.1.tl, ht0]; rfl)
        have hk1 := kind_1 hD hnt
        have ed' := doStepE (H := [(10, abox a)] :: F1 :: H) (c := 62) (r := r) (s := nx) (w := a.who.toNat) (a := a) (n1 := (H.length, mq1)) (n2 := (H.length, mq2)) (v1 := u1) (by simp [ne, hh1']) w1 (by simp; omega) hD.hp hD.who hk1 (by simp)
        have LD := doV_len (s := nx) (w := a.who.toNat) hAk
        have LH : (doV nx a.who.toNat a).hands = nx.hands := by rw [doV_1 hk1]
        obtain ⟨F2, hF2⟩ : ∃ F2, F1.ins mq1 (.arr 1 ((doV nx a.who.toNat a).people.map irow) nx.people.length false) = F2 := ⟨_, rfl⟩
        have hsc : Heap.set ([(10, abox a)] :: F1 :: H) (H.length, mq1) (.arr 1 ((doV nx a.who.toNat a).people.map irow) nx.people.length false) = [(10, abox a)] :: F2 :: H := by
          rw [← hF2]; simp [ne]
        rw [hsc] at ed'
        have o2 : ∀ k, k ≠ mq1 → F2.get k = F1.get k := fun k h1 => by rw [← hF2, Fr.get_ins_other _ h1]
        have enx : nxE H.length r (doV nx a.who.toNat a) = nxE H.length r nx := by simp only [nxE, LD]
        have MX2 : ME H.length F2 r s (insTs tk l) (doV nx a.who.toNat a) := {
          g2 := (o2 2 (by decide)).trans g21
          g4 := (o2 4 (by decide)).trans g41
          gm := (o2 18 (by decide)).trans gm1
          srt := by rw [← hF2]; exact Fr.ins_srt hF1s
          g7 := by rw [enx]; exact (o2 7 (by decide)).trans g71
          h1 := ⟨nx.people.length, by omega, by rw [← hF2, Fr.get_ins]⟩
          h2 := by rw [LH]; exact (o2 mq2 q21).trans hh2' }
        have ih' := ih (i + 1) F2 (insTs tk l) (doV nx a.who.toNat a) (by omega) MX2 hTs hGs (by rw [hnx, et, doG_append]; rfl) h1 h2
        rw [actRow] at ed'
        simp only [nxE] at g71
        simp only [stE, abox] at ed'
        rw [hk1] at ed'
        rw [hk1] at W
        simp at W
        simp [hk1, ne, g71, W, ed', hw]
        simpa using ih'
      · clear L1
        rw [if_neg hfr] at h2
        have h2' := h2 (show (12 : Int) ≠ 0 by decide) rfl (F.ins 4 (stbox r s)) (Fr.get_ins ..)
        simp only [stbox] at h2' ⊢
        simp
        exact h2'
theorem minute_okE {r : Rite} {s : Scene} (hS : Snd r s) (hW : WB r) (hFu : Full s) (ht0 : r.things = []) (acts : List RAct) (hal : acts.length ≤ 1000000) (hA : ∀ a ∈ acts, AB r a.who.toNat a) (hH : 0 < H.length) :
  gcall KC (geval KC) 118 [.pure (.agg (stRow r s)), .pure (.slice (acts.map RAct.row))] c H =
   some (.pure (.tuple [.agg (stRow r (minR r s acts [] s 0).1), .int .i64 (minR r s acts [] s 0).2.1, .int .i64 (minR r s acts [] s 0).2.2]), H) := by
 refine WPv_eq (call_enter KC needT Tryz.func118 rfl rfl good118 rfl rfl rfl (by simp) hH ?_)
 have k1 : newKey 17 28679 = mq1 := by decide
 have k2 : newKey 17 28683 = mq2 := by decide
 have hst : s.things = [] := List.eq_nil_of_length_eq_zero (by rw [hS.tl, ht0]; rfl)
 have C := copied_okE (c := 17) (H := [(2, stbox r s), (4, zst)] :: H) r hFu hst (by simp) (by simp [k1, mq1]) (by simp [k2, mq2])
 simp only [List.length_cons, Nat.add_sub_cancel, k1, k2] at C
 obtain ⟨F0, hF0⟩ : ∃ F0 : Fr, [(2, stbox r s), (4, zst), (mq1, .arr 1 (s.people.map irow) 0 false), (mq2, .arr 2 (s.hands.map Hands.row) 0 false)] = F0 := ⟨_, rfl⟩
 have hC : Heap.set (Heap.set ([(2, stbox r s), (4, zst)] :: H) (H.length, mq1) (.arr 1 (s.people.map irow) 0 false)) (H.length, mq2) (.arr 2 (s.hands.map Hands.row) 0 false) = F0 :: H := by
  rw [← hF0]; simp [mq1, mq2]
 rw [hC] at C
 obtain ⟨F1, hF1⟩ : ∃ F1, (F0.ins 7 (nxE H.length r s)).ins 18 (.map []) = F1 := ⟨_, rfl⟩
 have f07 : F0.get 7 = none := by rw [← hF0]; simp [mq1, mq2]
 have f018 : F0.get 18 = none := by rw [← hF0]; simp [mq1, mq2]
 have o1 : ∀ k, k ≠ 7 → k ≠ 18 → F1.get k = F0.get k := fun k h1 h2 => by rw [← hF1, Fr.get_ins_other _ h2, Fr.get_ins_other _ h1]
 have MX1 : ME H.length F1 r s [] s := {
  g2 := (o1 2 (by decide) (by decide)).trans (by rw [← hF0]; simp)
  g4 := (o1 4 (by decide) (by decide)).trans (by rw [← hF0]; simp)
  gm := by rw [← hF1, Fr.get_ins]; rfl
  srt := by
   rw [← hF1]
   refine Fr.ins_srt (Fr.ins_srt ?_)
   rw [← hF0]; simp [Fr.srt, mq1, mq2]
  g7 := by rw [← hF1, Fr.get_ins_other _ (by decide), Fr.get_ins]
  h1 := ⟨0, Nat.zero_le _, (o1 _ (by decide) (by decide)).trans (by rw [← hF0]; simp [mq1, mq2])⟩
  h2 := (o1 _ (by decide) (by decide)).trans (by rw [← hF0]; simp [mq1, mq2]) }
 have L1 := fun Q => min_loopE (H := H) ht0 hS hW acts hal hA Q acts.length 0 F1 [] s (by omega) MX1 (fun x => by simp) ⟨fun a ha => by simp at ha, by simp⟩ rfl
 simp only [List.drop_zero] at L1
 simp only [stRow, stE, stbox, zst] at C
 have f018' : (F0.ins 7 (nxE H.length r s)).get 18 = none := (Fr.get_ins_other _ (by decide) _).trans f018
 simp only [nxE] at hF1 f018'
 unfold stRow
 simp [C, f07, f018', Fr.get_ins, Fr.ins_ins, hF1]
 refine L1 _ (fun he F' hF' hG hm => ?_) (fun he hm F' h4 => ?_)
 ·obtain ⟨tk', hF'⟩ := hF'
  have g7 := hF'.g7
  have g4 := hF'.g4
  have LL := doG_len hS hG
  rw [hm] at hF' g7
  obtain ⟨v1, a1, b1⟩ := hF'.h1
  have b2 := hF'.h2
  have hft : (doG s acts).things = [] := List.eq_nil_of_length_eq_zero (by rw [LL.2.2, hst]; rfl)
  have o4 : ∀ (x : Blk) (k : Nat), k ≠ 4 → (F'.ins 4 x).get k = F'.get k := fun x k hk => Fr.get_ins_other _ hk _
  have c1 := fun x => (o4 x mq1 (by decide)).trans b1
  have c2 := fun x => (o4 x mq2 (by decide)).trans b2
  have hat := minR_at he
  rw [hm]
  simp only [nxE] at g7
  simp only [zst] at g4
  simp [g7, g4, splice, Fr.get_ins]
  have fin : ∀ x, gleave KC 118 c (.tuple [.agg [.pure (.int .i64 r.wide), .pure (.int .i64 r.deep), .pure (.slice (r.people.map Person.row)), .pure (.slice (r.things.map Thing.row)), .pure (.slice (r.seen.map irow)), .pure (.slice (r.lapses.map irow)), .pure (.slice (r.acts.map RAct.row)), .hdr (H.length, mq1) 1 (doG s acts).people.length 0 (doG s acts).people.length, .hdr (H.length, mq2) 2 (doG s acts).hands.length 0 (doG s acts).hands.length, .nils], .pure (.int .i64 0), .pure (.int .i64 0)]) (F'.ins 4 x :: H) =
    some (.pure (.tuple [.agg (stRow r (doG s acts)), .int .i64 0, .int .i64 0]), H) := fun x => by
   have d1 := c1 x
   have d2 := c2 x
   generalize F'.ins 4 x = F5 at d1 d2
   have hnl : ¬ H.length ≤ H.length - 1 := by omega
   rw [gleave_free (by simp)]
   simp [hnl, d1, d2, a1, stRow, hft]
   exact ⟨List.take_of_length_le (by simp), List.take_of_length_le (by simp)⟩
  rw [fin, WPv_some, hat, he]
  simp only [stRow]
 ·rw [hm]
  simp only [stbox] at h4
  simp [h4, gleave_free]
theorem minute_ok {r : Rite} {s : Scene} (hS : Snd r s) (hW : WB r) (hFu : Full s) (acts : List RAct) (hal : acts.length ≤ 1000000) (hA : ∀ a ∈ acts, AB r a.who.toNat a) (hH : 0 < H.length) :
  gcall KC (geval KC) 118 [.pure (.agg (stRow r s)), .pure (.slice (acts.map RAct.row))] c H =
   some (.pure (.tuple [.agg (stRow r (minR r s acts [] s 0).1), .int .i64 (minR r s acts [] s 0).2.1, .int .i64 (minR r s acts [] s 0).2.2]), H) := by
 by_cases h : s.things = []
 ·exact minute_okE hS hW hFu (List.eq_nil_of_length_eq_zero (by rw [← hS.tl, h]; rfl)) acts hal hA hH
 ·exact minute_okT hS hW hFu h acts hal hA hH
end
section
variable {c : Nat} {H : Heap}
def scA (L k1 k2 k3 : Nat) (s : Scene) : GV := .agg [.hdr (L, k1) 1 s.people.length 0 s.people.length, .hdr (L, k2) 2 s.hands.length 0 s.hands.length, apS (L, k3) 2 (s.things.map Spot.row)]
theorem scA_t {L k1 k2 k3 : Nat} {s : Scene} (h : s.things ≠ []) : scA L k1 k2 k3 s = scH (L, k1) (L, k2) (L, k3) s := by
 unfold scA scH apS
 rw [if_neg (by simpa using h)]
 simp
theorem scA_0 {L k1 k2 k3 : Nat} {s : Scene} (h : s.things = []) : scA L k1 k2 k3 s = .agg [.hdr (L, k1) 1 s.people.length 0 s.people.length, .hdr (L, k2) 2 s.hands.length 0 s.hands.length, .nils] := by
 unfold scA apS
 rw [if_pos (by simp [h])]
theorem own0_ok {s : Scene} (h : Full s) (hH : 0 < H.length) (hf1 : H.get (H.length - 1, newKey c 6) = none) (hf2 : H.get (H.length - 1, newKey c 10) = none) (hf3 : H.get (H.length - 1, newKey c 14) = none) :
  gcall KC (geval KC) 50 [.pure (.agg s.row)] c H = some (scA (H.length - 1) (newKey c 6) (newKey c 10) (newKey c 14) s,
   apSet ((H.set (H.length - 1, newKey c 6) (.arr 1 (s.people.map irow) 0 false)).set (H.length - 1, newKey c 10) (.arr 2 (s.hands.map Hands.row) 0 false)) (H.length - 1, newKey c 14) 2 (s.things.map Spot.row)) := by
 refine WPv_eq (call_enter KC needT Tryz.func50 rfl rfl good50 rfl rfl rfl (by simp) hH ?_)
 have pl := h.pl
 have hl := h.hl
 have tl := h.tl
 have p0 := h.p0
 have h0 := h.h0
 have b1 : s.people.length * 8 ≤ 1099511627776 := by omega
 have b2 : s.hands.length * 16 ≤ 1099511627776 := by omega
 have b3 : s.things.length * 16 ≤ 1099511627776 := by omega
 have n12 : newKey c 6 ≠ newKey c 10 := by unfold newKey; omega
 have n13 : newKey c 6 ≠ newKey c 14 := by unfold newKey; omega
 have n23 : newKey c 10 ≠ newKey c 14 := by unfold newKey; omega
 have k1 : (H.length - 1, newKey c 10) ≠ ((H.length - 1, newKey c 6) : Nm) := fun e => n12 (Prod.mk.inj e).2.symm
 have k2 : (H.length - 1, newKey c 14) ≠ ((H.length - 1, newKey c 6) : Nm) := fun e => n13 (Prod.mk.inj e).2.symm
 have k3 : (H.length - 1, newKey c 14) ≠ ((H.length - 1, newKey c 10) : Nm) := fun e => n23 (Prod.mk.inj e).2.symm
 have g2 : ∀ b, (H.set (H.length - 1, newKey c 6) b).get (H.length - 1, newKey c 10) = none := fun b => (Heap.get_set_other b k1).trans hf2
 have g3 : ∀ b b', ((H.set (H.length - 1, newKey c 6) b).set (H.length - 1, newKey c 10) b').get (H.length - 1, newKey c 14) = none := fun b b' => (Heap.get_set_other b' k3).trans ((Heap.get_set_other b k2).trans hf3)
 have hn : ¬ H.length + 1 ≤ H.length := by omega
 unfold Scene.row
 by_cases t0 : s.things = []
 ·rw [scA_0 t0]
  simp [hn, p0, h0, t0, b1, b2]
  simp [gleave_keep, refs, refs2, refs1, dedup, moveOut, cleanBlk, hf1, g2, ren, ren2, ren1, apSet]
 ·rw [scA_t t0]
  simp [hn, p0, h0, t0, b1, b2, b3]
  simp [gleave_keep, refs, refs2, refs1, dedup, moveOut, cleanBlk, hf1, g2, g3, ren, ren2, ren1, apSet, scH, t0]
theorem doRE {s : Scene} {w : Nat} {a : RAct} {n1 n2 : Nm} {v1 v2 : Nat} (g1 : H.get n1 = some (.arr 1 (s.people.map irow) v1 false)) (e1 : v1 ≤ s.people.length) (g2 : H.get n2 = some (.arr 2 (s.hands.map Hands.row) v2 false)) (e2 : v2 ≤ s.hands.length) (hp : w < s.people.length) (hh : w < s.hands.length) (hwho : a.who = w) (hhand : a.hand = 0 ∨ a.hand = 1) (k : a.kind = 1) (hH : 0 < H.length) :
  gcall KC (geval KC) 51 [.agg [.hdr n1 1 s.people.length 0 s.people.length, .hdr n2 2 s.hands.length 0 s.hands.length, .nils], .pure (.agg a.row)] c H = some (.pure (.tuple []), H.set n1 (.arr 1 ((doV s w a).people.map irow) s.people.length false)) := by
 have l1 := Heap.get_lt g1
 have l2 := Heap.get_lt g2
 have d1 : ¬ n1.1 = H.length := by omega
 have d2 : ¬ n2.1 = H.length := by omega
 have hd := doV_1 (s := s) (w := w) k
 have wr : IntKind.i64.wrap (1 - 0) = 1 := rfl
 have wr1 : IntKind.i64.wrap (1 - 1) = 0 := rfl
 refine WPv_eq (call_enterR KC needT Tryz.func51 rfl rfl good51 rfl rfl rfl (by simp) hH ?_)
 rw [actRow]
 rcases hhand with z | z
 ·simp [d1, d2, g1, g2, e1, e2, hp, hh, hwho, z, k, wr, irow, Hands.row, splice, gleave_free, hd]
 ·simp [d1, d2, g1, g2, e1, e2, hp, hh, hwho, z, k, wr1, irow, Hands.row, splice, gleave_free, hd]
structure SA (F : Fr) (k1 k2 k3 : Nat) (s : Scene) : Prop where
 h1 : ∃ v, v ≤ s.people.length ∧ F.get k1 = some (.arr 1 (s.people.map irow) v false)
 h2 : ∃ v, v ≤ s.hands.length ∧ F.get k2 = some (.arr 2 (s.hands.map Hands.row) v false)
 h3 : s.things ≠ [] → ∃ v, v ≤ s.things.length ∧ F.get k3 = some (.arr 2 (s.things.map Spot.row) v false)
theorem doA_at {L : Nat} (hl : H.length = L) {F f0 : Fr} {k1 k2 k3 : Nat} {s : Scene} (hF : F.srt) (hs : SA F k1 k2 k3 s) (n12 : k1 ≠ k2) (n13 : k1 ≠ k3) (n23 : k2 ≠ k3) {w : Nat} {a : RAct} (hb : DoB s w a) (hhl : s.hands.length ≤ 1000000) :
  ∃ F', F'.srt ∧ SA F' k1 k2 k3 (doV s w a) ∧ (∀ k, k ≠ k1 → k ≠ k2 → k ≠ k3 → F'.get k = F.get k) ∧
  gcall KC (geval KC) 51 [scA L k1 k2 k3 s, .pure (.agg a.row)] c (f0 :: F :: H) = some (.pure (.tuple []), f0 :: F' :: H) := by
 subst hl
 have LD := doV_len (s := s) (w := w) hb.kind
 have ne : ¬ H.length = H.length + 1 := by omega
 by_cases t0 : s.things = []
 ·rw [scA_0 t0]
  have k := kind_1 hb t0
  obtain ⟨v1, a1, b1⟩ := hs.h1
  obtain ⟨v2, a2, b2⟩ := hs.h2
  have D := doRE (c := c) (H := f0 :: F :: H) (n1 := (H.length, k1)) (n2 := (H.length, k2)) (v1 := v1) (v2 := v2) (s := s) (w := w) (a := a) (by simp [ne, b1]) a1 (by simp [ne, b2]) a2 hb.hp hb.hh hb.who hb.hand k (by simp)
  refine ⟨F.ins k1 (.arr 1 ((doV s w a).people.map irow) s.people.length false), Fr.ins_srt hF, ⟨⟨s.people.length, by omega, Fr.get_ins ..⟩, ⟨v2, by omega, ?_⟩, fun h => absurd (List.eq_nil_of_length_eq_zero (by rw [LD.2.2, t0]; rfl)) h⟩, fun k h1 _ _ => Fr.get_ins_other _ h1 _, D.trans ?_⟩
  ·rw [Fr.get_ins_other _ n12.symm, b2, doV_1 k]
  ·simp [ne]
 ·rw [scA_t t0]
  obtain ⟨u3, a3, b3⟩ := hs.h3 t0
  obtain ⟨v1, v2, v3, a1, a2, a3, e⟩ := do_at (H := H) (H0 := H) (c := c) (f0 := f0) rfl hF ⟨hs.h1, hs.h2, ⟨u3, a3, b3⟩⟩ n12 n13 n23 hb hhl
  refine ⟨_, Fr.ins_srt (Fr.ins_srt (Fr.ins_srt hF)), ⟨⟨v1, by omega, by rw [Fr.get_ins_other _ n13, Fr.get_ins_other _ n12, Fr.get_ins]⟩, ⟨v2, by omega, by rw [Fr.get_ins_other _ n23, Fr.get_ins]⟩, fun _ => ⟨v3, by omega, by rw [Fr.get_ins]⟩⟩, fun k h1 h2 h3 => by rw [Fr.get_ins_other _ h3, Fr.get_ins_other _ h2, Fr.get_ins_other _ h1], e⟩
theorem SA.other {F F' : Fr} {k1 k2 k3 : Nat} {s : Scene} (h : SA F k1 k2 k3 s) (e1 : F'.get k1 = F.get k1) (e2 : F'.get k2 = F.get k2) (e3 : F'.get k3 = F.get k3) : SA F' k1 k2 k3 s := by
 refine ⟨?_, ?_, fun h0 => ?_⟩
 ·rw [e1]; exact h.h1
 ·rw [e2]; exact h.h2
 ·rw [e3]; exact h.h3 h0
end
section
variable {c : Nat} {H : Heap}
def sameAt' (a : RAct) : RAct → Bool := fun b => b.at' == a.at'
noncomputable def runR (r : Rite) : Nat → Scene → List RAct → Nat → List Scene × Scene × Int × Int
  | 0, s, _, _ => ([], s, -1, 0)
  | _ + 1, s, [], _ => ([], s, -1, 0)
  | k + 1, s, a :: rest, i =>
    let g := (a :: rest).takeWhile (sameAt' a)
    let m := minR r s g [] s 0
    if m.2.2 ≠ 0 then ([], s, i + m.2.1, m.2.2)
    else let q := runR r k m.1 ((a :: rest).drop g.length) (i + g.length); (m.1 :: q.1, q.2)
def rnF (r : Rite) (s : Scene) : Fr := [(3, stbox r s), (6, zst)]
theorem to_loop {r : Rite} {s : Scene} (g : GV) (acts : List RAct) (hal : acts.length ≤ 1000000) (i : Nat) (hi : i < acts.length) (V : Heap) (hcl : ∀ f2, clean (f2 :: [] :: rnF r s :: V) (V.length + 1) g = g) (Q : GX → GSt → Prop) : ∀ k j : Nat, j + k = acts.length →
    Q (.exit 2) ⟨[(1, .pure (.slice (acts.map RAct.row))), (2, g), (3, .bptr (V.length, 3) 0), (6, .bptr (V.length, 6) 0), (9, .pure (.int .i64 i)), (10, .pure (.int .i64 ((j + ((acts.drop j).takeWhile (sameAt' acts[i])).length : Nat) : Int)))], [] :: rnF r s :: V, 64⟩ →
    WPL KC needT 93 (lp Tryz.f93 1) [1, 2, 3, 6, 9, 10] [1, 2, 3, 6, 9, 10] Q
      [(1, .pure (.slice (acts.map RAct.row))), (2, g), (3, .bptr (V.length, 3) 0), (6, .bptr (V.length, 6) 0), (9, .pure (.int .i64 i)), (10, .pure (.int .i64 j))] ([] :: rnF r s :: V) 64 := by
  intro k
  induction k with
  | zero =>
    intro j hj h1
    have e : acts.drop j = [] := List.drop_of_length_le (by omega)
    rw [e] at h1
    have hnl : ¬ j < acts.length := by omega
    apply WPL_step
    conv => arg 4; whnf
    simp [rnF] at hcl
    simp [hnl, rnF, hcl]
    simpa [rnF] using h1
  | succ k ih =>
    intro j hj h1
    have hja : j < acts.length := by omega
    have hw := w64 (x := (j : Int) + 1) (by omega) (by omega)
    have ed : acts.drop j = acts[j] :: acts.drop (j + 1) := List.drop_eq_getElem_cons hja
    rw [ed, List.takeWhile_cons] at h1
    simp [rnF] at hcl
    apply WPL_step
    conv => arg 4; whnf
    cases he : (acts[j].at' == acts[i].at') with
    | true =>
      rw [show sameAt' acts[i] acts[j] = true from he] at h1
      simp only [if_true, List.length_cons] at h1
      have ih' := ih (j + 1) (by omega) (by rw [show j + 1 + ((acts.drop (j + 1)).takeWhile (sameAt' acts[i])).length = j + (((acts.drop (j + 1)).takeWhile (sameAt' acts[i])).length + 1) by omega]; exact h1)
      simp [hja, hi, actRow, he, hw, rnF, hcl]
      simpa [rnF] using ih'
    | false =>
      rw [show sameAt' acts[i] acts[j] = false from he] at h1
      simp [hja, hi, actRow, he, rnF, hcl]
      simpa [rnF] using h1
theorem minR_good {r : Rite} {s : Scene} : ∀ {g p : List RAct} {tk : List (Int × Int)} {nx : Scene} {i : Nat}, TkOf s p tk → GOk r s p → nx = doG s p → (∀ a ∈ g, AB r a.who.toNat a) → (minR r s g tk nx i).2.2 = 0 → GOk r s (p ++ g) ∧ (minR r s g tk nx i).1 = doG s (p ++ g)
  | [], p, tk, nx, i, _, hG, hn, _, _ => by rw [List.append_nil]; exact ⟨hG, hn⟩
  | a :: g, p, tk, nx, i, hT, hG, hn, hA, h => by
    unfold minR at h ⊢
    split at h
    · simp at h
    · rename_i h1
      split at h
      · rename_i h2
        have h1' : posV r s a.who.toNat a = true := by simpa using h1
        have := minR_good (hT.snoc (a := a)) (hG.snoc hT (hA a (List.mem_cons_self ..)) h1' h2) (by rw [hn, doG_append]; rfl) (fun b hb => hA b (List.mem_cons_of_mem _ hb)) h
        rw [if_neg h1, if_pos h2]
        rwa [List.append_assoc, List.singleton_append] at this
      · simp at h
theorem minR_bad {r : Rite} {s : Scene} : ∀ {g : List RAct} {tk : List (Int × Int)} {nx : Scene} {i : Nat}, (minR r s g tk nx i).2.2 ≠ 0 → (minR r s g tk nx i).1 = s
  | [], _, _, _, h => absurd rfl h
  | a :: g, tk, nx, i, h => by
    unfold minR at h ⊢
    split
    · rfl
    · rename_i h1
      rw [if_neg h1] at h
      split
      · rename_i h2
        rw [if_pos h2] at h
        exact minR_bad h
      · rfl
theorem minR_rng {r : Rite} {s : Scene} : ∀ {g : List RAct} {tk : List (Int × Int)} {nx : Scene} {i : Nat}, 0 ≤ (minR r s g tk nx i).2.1 ∧ (minR r s g tk nx i).2.1 ≤ i + g.length
  | [], _, _, i => by simp [minR]
  | a :: g, tk, nx, i => by
    unfold minR
    split
    · simp only [List.length_cons]; omega
    · split
      · have := minR_rng (r := r) (s := s) (g := g) (tk := insTs tk (touchP s a.who.toNat a)) (nx := doV nx a.who.toNat a) (i := i + 1)
        simp only [List.length_cons]; omega
      · simp only [List.length_cons]; omega
theorem full_of {r : Rite} {s s' : Scene} (h : Snd r s) (h' : Snd r s') (hF : Full s) : Full s' := by
 have e1 := h'.pl.trans h.pl.symm
 have e2 := h'.hl.trans h.hl.symm
 have e3 := h'.tl.trans h.tl.symm
 have a1 := List.length_pos_iff.2 hF.p0
 have a2 := List.length_pos_iff.2 hF.h0
 have := hF.pl
 have := hF.hl
 have := hF.tl
 exact ⟨List.length_pos_iff.1 (by omega), List.length_pos_iff.1 (by omega), by omega, by omega, by omega⟩
theorem run_loop {r : Rite} (hW : WB r) (g : GV) (acts : List RAct) (hal : acts.length ≤ 1000000) (hA : ∀ a ∈ acts, AB r a.who.toNat a) (V : List Scene → Heap) (LV : Nat) (hV : ∀ l, (V l).length = LV) (hV0 : 0 < LV)
    (hcl0 : ∀ f1 f0 l, clean (f1 :: f0 :: V l) LV g = g) (hcl1 : ∀ f2 f1 f0 l, clean (f2 :: f1 :: f0 :: V l) (LV + 1) g = g)
    (hsee : ∀ l s' c f1 f0, l.length ≤ 1000001 → Snd r s' → Full s' → gcallee KC (geval KC) g [.pure (.agg (stRow r s'))] c (f1 :: f0 :: V l) = some (.pure (.tuple []), f1 :: f0 :: V (l ++ [s'])))
    (Q : GX → GSt → Prop) : ∀ (k i : Nat) (s : Scene) (l : List Scene), acts.length - i ≤ k → i ≤ acts.length → l.length ≤ i + 1 → Snd r s → Full s →
    ((runR r k s (acts.drop i) i).2.2.2 = 0 → Q (.exit 0) ⟨[(3, .bptr (LV, 3) 0), (6, .bptr (LV, 6) 0), (7, gdead), (8, gdead)], rnF r (runR r k s (acts.drop i) i).2.1 :: V (l ++ (runR r k s (acts.drop i) i).1), 64⟩) →
    ((runR r k s (acts.drop i) i).2.2.2 ≠ 0 → ∀ s', Q .ret ⟨[(3, .bptr (LV, 3) 0), (6, .bptr (LV, 6) 0), (7, .pure (.int .i64 (runR r k s (acts.drop i) i).2.2.1)), (8, .pure (.int .i64 (runR r k s (acts.drop i) i).2.2.2))], [(3, stbox r s'), (6, stbox r (runR r k s (acts.drop i) i).2.1)] :: V (l ++ (runR r k s (acts.drop i) i).1), 64⟩) →
    WPL KC needT 93 (lp Tryz.f93 0) [1, 2, 3, 6, 9] [3, 6, 7, 8] Q
      [(1, .pure (.slice (acts.map RAct.row))), (2, g), (3, .bptr (LV, 3) 0), (6, .bptr (LV, 6) 0), (9, .pure (.int .i64 i))] (rnF r s :: V l) 64 := by
  intro k
  induction k with
  | zero =>
    intro i s l hk hi hll hS hF h1 h2
    have hnl : ¬ i < acts.length := by omega
    have e : i = acts.length := by omega
    apply WPL_step
    conv => arg 4; whnf
    simp [runR] at h1
    simp [hnl, hV, rnF]
    simpa [rnF] using h1
  | succ k ih =>
    intro i s l hk hi hll hS hF h1 h2
    by_cases hia : i < acts.length
    · have ed : acts.drop i = acts[i] :: acts.drop (i + 1) := List.drop_eq_getElem_cons hia
      obtain ⟨a, ha⟩ : ∃ a, acts[i] = a := ⟨_, rfl⟩
      rw [ha] at ed
      obtain ⟨gr, hgr⟩ : ∃ gr, (a :: acts.drop (i + 1)).takeWhile (sameAt' a) = gr := ⟨_, rfl⟩
      have hg1 : 1 ≤ gr.length := by
        rw [← hgr, List.takeWhile_cons, show sameAt' a a = true from by simp [sameAt']]
        simp
      have hgp : gr <+: acts.drop i := by rw [ed, ← hgr]; exact List.takeWhile_prefix _
      have hgl : i + gr.length ≤ acts.length := by have := hgp.length_le; simp at this; omega
      have hgt : gr = (acts.drop i).take gr.length := List.prefix_iff_eq_take.1 hgp
      have hsl : List.drop i (List.take (i + gr.length) (acts.map RAct.row)) = gr.map RAct.row := by
        rw [← List.map_take, ← List.map_drop]
        congr 1
        rw [List.drop_take, Nat.add_sub_cancel_left]
        exact hgt.symm
      have hgA : ∀ b ∈ gr, AB r b.who.toNat b := fun b hb => hA b (List.mem_of_mem_drop (hgp.subset hb))
      have hgal : gr.length ≤ 1000000 := by omega
      have M := fun c (H : Heap) (hH : 0 < H.length) => minute_ok (c := c) (H := H) hS hW hF gr hgal hgA hH
      obtain ⟨m, hm⟩ : ∃ m, minR r s gr [] s 0 = m := ⟨_, rfl⟩
      have hbad := minR_bad (r := r) (s := s) (g := gr) (tk := []) (nx := s) (i := 0)
      have hgood := minR_good (r := r) (s := s) (g := gr) (p := []) (tk := []) (nx := s) (i := 0) (fun x => by simp) ⟨fun a ha => by simp at ha, by simp⟩ rfl hgA
      have hrng := minR_rng (r := r) (s := s) (g := gr) (tk := []) (nx := s) (i := 0)
      rw [hm] at M hbad hgood hrng
      rw [ed] at h1 h2
      unfold runR at h1 h2
      simp only [hgr, hm] at h1 h2
      have L1 := fun Q => to_loop (r := r) (s := s) g acts hal i hia (V l) (fun f2 => by rw [hV]; exact hcl1 _ _ _ _) Q (acts.length - i) i (by omega)
      rw [ed, ha, hgr] at L1
      simp only [hV, rnF] at L1
      have hc0 := hcl0
      obtain ⟨e, hee⟩ : ∃ e, i + gr.length = e := ⟨_, rfl⟩
      rw [hee] at L1 hsl hgl
      have hle : ¬ (e : Int) < (i : Int) := by omega
      have hle2 : i ≤ e := by omega
      have hmin : min e acts.length = e := by omega
      have hrl : ∀ x : RAct, x.row.length = 9 := fun _ => rfl
      obtain ⟨x1, x2, x3⟩ := m
      simp only at hbad hgood hrng h1 h2 M
      have hw := w64 (x := (i : Int) + x2) (by omega) (by omega)
      apply WPL_step
      conv => arg 4; whnf
      simp [hia, hV, rnF]
      refine L1 _ ?_
      clear L1
      simp only [stbox, zst]
      simp only [stRow] at M
      by_cases he : x3 = 0
      · subst he
        obtain ⟨hG, hx1⟩ := hgood rfl
        have hS1 : Snd r x1 := by rw [hx1]; exact hG.snd hS
        have hF1 := full_of hS hS1 hF
        simp only [ne_eq, not_true_eq_false, if_false] at h1 h2
        have edr : (a :: acts.drop (i + 1)).drop gr.length = acts.drop (i + gr.length) := by rw [← ed, List.drop_drop]
        rw [edr, hee] at h1 h2
        have ih' := ih e x1 (l ++ [x1]) (by omega) hgl (by simp; omega) hS1 hF1 (fun h => by rw [List.append_assoc]; exact h1 h) (fun h s' => by rw [List.append_assoc]; exact h2 h s')
        have SE := fun c f1 f0 => hsee l x1 c f1 f0 (by omega) hS1 hF1
        simp only [stRow] at SE
        simp only [rnF, stbox, zst] at ih'
        simp [hV, hle, hle2, hgl, hmin, hsl, hrl, M, SE, splice, hcl0]
        exact ih'
      · have hx1 := hbad he
        have he' : (x3 != 0) = true := by simpa using he
        simp only [ne_eq, he, not_false_eq_true, if_true] at h2
        have h2' := h2 trivial s
        simp only [stbox, List.append_nil] at h2'
        simp only [hx1] at M
        simp [hV, hle, hle2, hgl, hmin, hsl, hrl, M, he', splice, hw]
        exact h2'
    · have e : acts.drop i = [] := List.drop_of_length_le (by omega)
      rw [e] at h1
      apply WPL_step
      conv => arg 4; whnf
      simp [runR] at h1
      simp [hia, hV, rnF]
      simpa [rnF] using h1
end
section
variable {c : Nat} {H : Heap}
theorem toR_loop {o : GV} (acts : List RAct) (hal : acts.length ≤ 1000000) (i : Nat) (hi : i < acts.length) (F : Fr) (hcl : ∀ f2, clean (f2 :: [] :: F :: H) (H.length + 1) o = o) (Q : GX → GSt → Prop) : ∀ k j : Nat, j + k = acts.length →
    Q (.exit 2) ⟨[(2, .pure (.slice (acts.map RAct.row))), (3, .bptr (H.length, 3) 0), (4, .bptr (H.length, 4) 0), (9, o), (10, .pure (.int .i64 i)), (11, .pure (.int .i64 ((j + ((acts.drop j).takeWhile (sameAt' acts[i])).length : Nat) : Int)))], [] :: F :: H, 94⟩ →
    WPL KC needT 80 (lp Tryz.f80 1) [2, 3, 4, 9, 10, 11] [2, 3, 4, 9, 10, 11] Q
      [(2, .pure (.slice (acts.map RAct.row))), (3, .bptr (H.length, 3) 0), (4, .bptr (H.length, 4) 0), (9, o), (10, .pure (.int .i64 i)), (11, .pure (.int .i64 j))] ([] :: F :: H) 94 := by
  intro k
  induction k with
  | zero =>
    intro j hj h1
    have e : acts.drop j = [] := List.drop_of_length_le (by omega)
    rw [e] at h1
    have hnl : ¬ j < acts.length := by omega
    apply WPL_step
    conv => arg 4; whnf
    simp [hnl, hcl]
    simpa using h1
  | succ k ih =>
    intro j hj h1
    have hja : j < acts.length := by omega
    have hw := w64 (x := (j : Int) + 1) (by omega) (by omega)
    have ed : acts.drop j = acts[j] :: acts.drop (j + 1) := List.drop_eq_getElem_cons hja
    rw [ed, List.takeWhile_cons] at h1
    apply WPL_step
    conv => arg 4; whnf
    cases he : (acts[j].at' == acts[i].at') with
    | true =>
      rw [show sameAt' acts[i] acts[j] = true from he] at h1
      simp only [if_true, List.length_cons] at h1
      have ih' := ih (j + 1) (by omega) (by rw [show j + 1 + ((acts.drop (j + 1)).takeWhile (sameAt' acts[i])).length = j + (((acts.drop (j + 1)).takeWhile (sameAt' acts[i])).length + 1) by omega]; exact h1)
      simp [hja, hi, actRow, he, hw, hcl]
      simpa using ih'
    | false =>
      rw [show sameAt' acts[i] acts[j] = false from he] at h1
      simp [hja, hi, actRow, he, hcl]
      simpa using h1
def tbox (t : Touch) : Blk := .box [.pure (.slice (t.people.map irow)), .pure (.slice (t.things.map irow)), .pure (.slice (t.cells.map irow))]
def TLen (t : Touch) : Prop := t.people.length ≤ 2 ∧ t.things.length ≤ 2 ∧ t.cells.length ≤ 2
theorem hit_loop {o a : GV} {F B : Fr} (t : Touch) (ht : TLen t) (bs : List Touch) (hbs : ∀ b ∈ bs, TLen b) (hbl : bs.length ≤ 1000000) (hb0 : bs ≠ [] → B.get 80 = some (.arr 3 (bs.map Touch.row) 0 false)) (e i : Nat)
    (hcl : ∀ f3 f2, clean (f3 :: f2 :: B :: F :: H) (H.length + 2) o = o) (hca : ∀ f3 f2, clean (f3 :: f2 :: B :: F :: H) (H.length + 2) a = a) (Q : GX → GSt → Prop) : ∀ k j : Nat, j + k = bs.length →
    ((∀ x ∈ bs.drop j, bothV x t = false) → Q (.exit 6) ⟨[(2, a), (3, .bptr (H.length, 3) 0), (4, .bptr (H.length, 4) 0), (6, gdead), (7, gdead), (8, gdead), (9, o), (11, .pure (.int .i64 e)), (12, .bptr (H.length + 1, 12) 0), (13, apS (H.length + 1, 80) 3 (bs.map Touch.row)), (14, .pure (.int .i64 i)), (15, .bptr (H.length + 2, 15) 0)], [(15, tbox t)] :: B :: F :: H, 94⟩) →
    (¬ (∀ x ∈ bs.drop j, bothV x t = false) → Q .ret ⟨[(2, a), (3, .bptr (H.length, 3) 0), (4, .bptr (H.length, 4) 0), (6, .nils), (7, .pure (.int .i64 i)), (8, .pure (.int .i64 12)), (9, o), (11, .pure (.int .i64 e)), (12, .bptr (H.length + 1, 12) 0), (13, apS (H.length + 1, 80) 3 (bs.map Touch.row)), (14, .pure (.int .i64 i)), (15, .bptr (H.length + 2, 15) 0)], [(15, tbox t)] :: B :: F :: H, 94⟩) →
    WPL KC needT 80 (lp Tryz.f80 3) [2, 3, 4, 9, 11, 12, 13, 14, 15, 16] [2, 3, 4, 6, 7, 8, 9, 11, 12, 13, 14, 15] Q
      [(2, a), (3, .bptr (H.length, 3) 0), (4, .bptr (H.length, 4) 0), (9, o), (11, .pure (.int .i64 e)), (12, .bptr (H.length + 1, 12) 0), (13, apS (H.length + 1, 80) 3 (bs.map Touch.row)), (14, .pure (.int .i64 i)), (15, .bptr (H.length + 2, 15) 0), (16, .pure (.int .i64 j))] ([(15, tbox t)] :: B :: F :: H) 94 := by
  intro k
  have ne1 : ¬ H.length + 1 = H.length + 2 := by omega
  have ne2 : ¬ H.length + 1 = H.length + 3 := by omega
  have ne3 : ¬ H.length = H.length + 2 := by omega
  have ne4 : ¬ H.length = H.length + 3 := by omega
  induction k with
  | zero =>
    intro j hj h1 h2
    apply WPL_step
    conv => arg 4; whnf
    have hnl : ¬ j < bs.length := by omega
    have ed : bs.drop j = [] := List.drop_of_length_le (by omega)
    simp [hnl, hcl, hca]
    simpa [tbox] using h1 (by rw [ed]; simp)
  | succ k ih =>
    intro j hj h1 h2
    have hja : j < bs.length := by omega
    have hw := w64 (x := (j : Int) + 1) (by omega) (by omega)
    have ed : bs.drop j = bs[j] :: bs.drop (j + 1) := List.drop_eq_getElem_cons hja
    have hne : bs ≠ [] := fun h => by rw [h] at hja; simp at hja
    have g80 := hb0 hne
    have BV := fun c (H : Heap) (hH : 0 < H.length) => both_ok (c := c) (H := H) (hbs bs[j] (List.getElem_mem hja)) ht hH
    simp only [Touch.row] at BV
    apply WPL_step
    conv => arg 4; whnf
    cases hb : bothV bs[j] t with
    | true =>
      rw [hb] at BV
      have h2' := h2 (fun h => by have := h bs[j] (by rw [ed]; exact List.mem_cons_self ..); rw [hb] at this; cases this)
      simp only [tbox] at h2'
      simp [hja, g80, ne1, ne2, Touch.row, tbox, BV, hcl, hca]
      simpa using h2'
    | false =>
      rw [hb] at BV
      have ih' := ih (j + 1) (by omega) (fun h => h1 fun x hx => by
        rw [ed] at hx
        rcases List.mem_cons.1 hx with rfl | hx
        · exact hb
        · exact h x hx) (fun h => h2 fun h' => h fun x hx => h' x (by rw [ed]; exact List.mem_cons_of_mem _ hx))
      simp only [tbox] at ih'
      simp [hja, g80, ne1, ne2, Touch.row, tbox, BV, hw, hcl, hca]
      simpa [Touch.row] using ih'
end
section
variable {c : Nat} {H : Heap}
theorem apS_congr {nm : Nm} {es : Nat} {rows rows' : List (List PV)} (h : rows.length = rows'.length) : apS nm es rows = apS nm es rows' := by
 unfold apS
 by_cases e : rows = []
 ·subst e
  have : rows' = [] := List.eq_nil_of_length_eq_zero (by simpa using h.symm)
  rw [this]
 ·have : rows' ≠ [] := fun x => e (List.eq_nil_of_length_eq_zero (by rw [h, x]; rfl))
  rw [if_neg e, if_neg this, h]
def mo1 : Nat := 24619
def mo2 : Nat := 41003
def mo3 : Nat := 57387
def nsB (L : Nat) (s : Scene) : Blk := .box [.hdr (L, mo1) 1 s.people.length 0 s.people.length, .hdr (L, mo2) 2 s.hands.length 0 s.hands.length, apS (L, mo3) 2 (s.things.map Spot.row)]
def scB (s : Scene) : Blk := .box [.pure (.slice (s.people.map irow)), .pure (.slice (s.hands.map Hands.row)), .pure (.slice (s.things.map Spot.row))]
structure MR (L : Nat) (B : Fr) (bs : List Touch) (nx : Scene) : Prop where
 srt : B.srt
 g12 : B.get 12 = some (nsB L nx)
 sc : SA B mo1 mo2 mo3 nx
 g80 : bs ≠ [] → B.get 80 = some (.arr 3 (bs.map Touch.row) 0 false)
 g80n : bs = [] → B.get 80 = none
noncomputable def tOf (s : Scene) (a : RAct) : Touch := touchV s a.who.toNat a
theorem hit_iff {s : Scene} {p : List RAct} {tk : List (Int × Int)} {a : RAct} (h : TkOf s p tk) : (∀ x ∈ p.map (tOf s), bothV x (tOf s a) = false) ↔ ∀ x ∈ touchP s a.who.toNat a, x ∉ tk := by
 constructor
 ·intro hb x hx hm
  obtain ⟨b, hb1, hb2⟩ := (h x).1 hm
  have := bothV_iff.1 (hb _ (List.mem_map_of_mem hb1))
  exact touchP_apa.1 this x hb2 hx
 ·intro hx x hxm
  obtain ⟨b, hb1, rfl⟩ := List.mem_map.1 hxm
  exact bothV_iff.2 (touchP_apa.2 fun y h1 h2 => hx y h2 ((h y).2 ⟨b, hb1, h1⟩))
theorem evB_of {r : Rite} {w : Nat} {a : RAct} (h : AB r w a) : EvB r.people.length r.things.length w a :=
 ⟨h.who, h.hand, h.take, fun k => by obtain ⟨o, e, l, _⟩ := h.give k; exact ⟨o, e, l⟩⟩
theorem minL_loop {r : Rite} {s : Scene} (hS : Snd r s) (hW : WB r) (hFu : Full s) {o : GV} {F : Fr} (g3 : F.get 3 = some (rbox r)) (g4 : F.get 4 = some (scB s)) (acts : List RAct) (hal : acts.length ≤ 1000000) (hA : ∀ a ∈ acts, AB r a.who.toNat a) (e : Nat) (hel : e ≤ acts.length)
    (hcl : ∀ f3 f2 f1, clean (f3 :: f2 :: f1 :: F :: H) (H.length + 2) o = o) (hcl1 : ∀ f2 f1, clean (f2 :: f1 :: F :: H) (H.length + 1) o = o) (Q : GX → GSt → Prop) :
    ∀ (k i : Nat) (B : Fr) (p : List RAct) (tk : List (Int × Int)) (nx : Scene), i + k = e → p.length ≤ i → MR (H.length + 1) B (p.map (tOf s)) nx → TkOf s p tk → GOk r s p → nx = doG s p →
    ((minR r s ((acts.take e).drop i) tk nx i).2.2 = 0 → ∀ B' bs', MR (H.length + 1) B' bs' (minR r s ((acts.take e).drop i) tk nx i).1 → Q (.exit 4) ⟨[(2, .pure (.slice (acts.map RAct.row))), (3, .bptr (H.length, 3) 0), (4, .bptr (H.length, 4) 0), (6, gdead), (7, gdead), (8, gdead), (9, o), (11, .pure (.int .i64 e)), (12, .bptr (H.length + 1, 12) 0)], B' :: F :: H, 94⟩) →
    ((minR r s ((acts.take e).drop i) tk nx i).2.2 ≠ 0 → ∀ B', Q .ret ⟨[(2, .pure (.slice (acts.map RAct.row))), (3, .bptr (H.length, 3) 0), (4, .bptr (H.length, 4) 0), (6, .nils), (7, .pure (.int .i64 (minR r s ((acts.take e).drop i) tk nx i).2.1)), (8, .pure (.int .i64 (minR r s ((acts.take e).drop i) tk nx i).2.2)), (9, o), (11, .pure (.int .i64 e)), (12, .bptr (H.length + 1, 12) 0)], B' :: F :: H, 94⟩) →
    WPL KC needT 80 (lp Tryz.f80 2) [2, 3, 4, 9, 11, 12, 13, 14] [2, 3, 4, 6, 7, 8, 9, 11, 12] Q
      [(2, .pure (.slice (acts.map RAct.row))), (3, .bptr (H.length, 3) 0), (4, .bptr (H.length, 4) 0), (9, o), (11, .pure (.int .i64 e)), (12, .bptr (H.length + 1, 12) 0), (13, apS (H.length + 1, 80) 3 ((p.map (tOf s)).map Touch.row)), (14, .pure (.int .i64 i))] (B :: F :: H) 94 := by
  intro k
  have ne1 : ¬ H.length + 1 = H.length + 2 := by omega
  have ne2 : ¬ H.length = H.length + 1 := by omega
  have ne3 : ¬ H.length = H.length + 2 := by omega
  induction k with
  | zero =>
    intro i B p tk nx hi hpl hM hT hG hnx h1 h2
    apply WPL_step
    conv => arg 4; whnf
    have hnl : ¬ i < e := by omega
    have ed : (acts.take e).drop i = [] := List.drop_of_length_le (by simp; omega)
    rw [ed] at h1
    simp [hnl, hcl, hcl1]
    exact h1 rfl B _ hM
  | succ k ih =>
    intro i B p tk nx hi hpl hM hT hG hnx h1 h2
    have hie : i < e := by omega
    have hia : i < acts.length := by omega
    have hw := w64 (x := (i : Int) + 1) (by omega) (by omega)
    obtain ⟨a, ha⟩ : ∃ a, acts[i] = a := ⟨_, rfl⟩
    have ed : (acts.take e).drop i = a :: (acts.take e).drop (i + 1) := by
      rw [List.drop_eq_getElem_cons (by simp; omega)]
      simp [ha]
    have hAa : AB r a.who.toNat a := hA a (ha ▸ List.getElem_mem hia)
    have hpW := hW.w1
    have hww : r.wide ≠ 0 := by omega
    have hwl := hAa.wl
    have P := fun c (H : Heap) (hH : 0 < H.length) => possibleP_ok (c := c) (H := H) hS.toScB hwl hW.pl hww (evB_of hAa) hH
    have T := fun c (H : Heap) (hH : 0 < H.length) => touch_ok (c := c) (H := H) (s := s) (w := a.who.toNat) (a := a) (by rw [hS.pl]; exact hwl) (by rw [hS.hl]; exact hwl) hAa.who hAa.hand hH
    rw [ed] at h1 h2
    unfold minR at h1 h2
    obtain ⟨bs, hbs⟩ : ∃ bs, p.map (tOf s) = bs := ⟨_, rfl⟩
    have hbl : bs.length = p.length := by rw [← hbs]; simp
    have hbT : ∀ b ∈ bs, TLen b := fun b hb => by
      rw [← hbs] at hb
      obtain ⟨x, _, rfl⟩ := List.mem_map.1 hb
      exact touchV_len s x.who.toNat x
    have hit0 := hit_iff (a := a) hT
    rw [hbs] at hM hit0 ⊢
    apply WPL_step
    conv => arg 4; whnf
    simp only [rbox] at g3
    simp only [scB] at g4
    rw [rowR, actRow] at P
    rw [actRow] at T
    simp only [Scene.row] at P T
    cases hp : posV r s a.who.toNat a with
    | false =>
      rw [hp] at P
      simp only [hp, if_true] at h2
      have h2' := h2 (by decide) B
      simp [hie, hia, ha, actRow, ne1, ne2, ne3, g3, g4, P, hcl, hcl1]
      exact h2'
    | true =>
      rw [hp] at P
      simp only [hp, Bool.true_eq_false, if_false] at h1 h2
      obtain ⟨t, ht⟩ : ∃ t, touchV s a.who.toNat a = t := ⟨_, rfl⟩
      have htl : TLen t := by rw [← ht]; exact touchV_len s a.who.toNat a
      have htO : tOf s a = t := ht
      rw [ht] at T
      simp only [Touch.row] at T
      have L1 := fun Q => hit_loop (H := H) (o := o) (a := .pure (.slice (acts.map RAct.row))) (F := F) (B := B) t htl bs hbT (by omega) hM.g80 e i (fun f3 f2 => hcl f3 f2 B) (fun f3 f2 => by simp) Q bs.length 0 (by omega)
      simp only [List.drop_zero, tbox] at L1
      have hit := hit0
      rw [htO] at hit
      simp [hie, hia, ha, actRow, ne1, ne2, ne3, g3, g4, P, T, hcl, hcl1]
      refine L1 _ (fun hfr => ?_) (fun hfr => ?_)
      · clear L1
        have hfr' := hit.1 hfr
        rw [if_pos hfr'] at h1 h2
        have hGs : GOk r s (p ++ [a]) := hG.snoc hT hAa hp hfr'
        have hTs : TkOf s (p ++ [a]) (insTs tk (touchP s a.who.toNat a)) := hT.snoc
        have aft := GOk.after hS hGs
        rw [← hnx] at aft
        have hD := DoB_of aft.1 hAa aft.2
        have b1 : (bs.map Touch.row).length + 1 ≤ 1000001 := by simp; omega
        have hbs2 : (p ++ [a]).map (tOf s) = bs ++ [t] := by simp [hbs, htO]
        have AP := fun (C : Fr) => apK_apS (H' := C :: B :: F :: H) (l := H.length + 1) (key := 80) (es := 3) (bytes := 72) (rows := bs.map Touch.row) (r := t.row) (fun h => by
          have := hM.g80n (by simpa using h)
          simp [ne1, this]) (fun h => by
          have := hM.g80 (by intro x; exact h (by rw [x]; rfl))
          simp [ne1, this]) (by simp) (by omega)
        have es : bs.map Touch.row ++ [t.row] = (bs ++ [t]).map Touch.row := by simp
        rw [es] at AP
        obtain ⟨B1, hB1⟩ : ∃ B1, B.ins 80 (.arr 3 ((bs ++ [t]).map Touch.row) 0 false) = B1 := ⟨_, rfl⟩
        have o1 : ∀ k, k ≠ 80 → B1.get k = B.get k := fun k hk => by rw [← hB1, Fr.get_ins_other _ hk]
        have hs1 : B1.srt := by rw [← hB1]; exact Fr.ins_srt hM.srt
        have sc1 : SA B1 mo1 mo2 mo3 nx := hM.sc.other (o1 _ (by decide)) (o1 _ (by decide)) (o1 _ (by decide))
        have g12 := (o1 12 (by decide)).trans hM.g12
        have g801 : B1.get 80 = some (.arr 3 ((bs ++ [t]).map Touch.row) 0 false) := by rw [← hB1, Fr.get_ins]
        have hset : ∀ C : Fr, Heap.set (C :: B :: F :: H) (H.length + 1, 80) (.arr 3 ((bs ++ [t]).map Touch.row) 0 false) = C :: B1 :: F :: H := fun C => by rw [← hB1]; simp [ne1]
        simp only [hset, Touch.row] at AP
        obtain ⟨B2, hs2, sc2, o2, ed2⟩ := doA_at (H := F :: H) (L := H.length + 1) (by simp) (c := 86) (f0 := [(15, tbox t)]) hs1 sc1 (show mo1 ≠ mo2 by decide) (show mo1 ≠ mo3 by decide) (show mo2 ≠ mo3 by decide) hD (by rw [aft.1.hl]; exact hW.pl)
        have LD := doV_len (s := nx) (w := a.who.toNat) (a := a) hAa.kind
        have ens : nsB (H.length + 1) (doV nx a.who.toNat a) = nsB (H.length + 1) nx := by
          unfold nsB
          rw [LD.1, LD.2.1, apS_congr (rows := (doV nx a.who.toNat a).things.map Spot.row) (rows' := nx.things.map Spot.row) (by simp [LD.2.2])]
        have M2 : MR (H.length + 1) B2 (bs ++ [t]) (doV nx a.who.toNat a) := {
          srt := hs2
          g12 := by rw [ens]; exact (o2 12 (by decide) (by decide) (by decide)).trans g12
          sc := sc2
          g80 := fun _ => (o2 80 (by decide) (by decide) (by decide)).trans g801
          g80n := fun h => by simp at h }
        have ih' := ih (i + 1) B2 (p ++ [a]) (insTs tk (touchP s a.who.toNat a)) (doV nx a.who.toNat a) (by omega) (by simp; omega) (by rw [hbs2]; exact M2) hTs hGs (by rw [hnx, doG_append]; rfl) h1 h2
        rw [hbs2] at ih'
        simp only [scA, tbox] at ed2
        rw [actRow] at ed2
        simp only [nsB] at g12
        simp [ne1, ne2, ne3, hia, ha, actRow, AP, g12, ed2, hw, hcl, hcl1]
        simpa using ih'
      · clear L1
        have hfr' : ¬ ∀ x ∈ touchP s a.who.toNat a, x ∉ tk := fun h => hfr (hit.2 h)
        rw [if_neg hfr'] at h2
        have h2' := h2 (show (12 : Int) ≠ 0 by decide) B
        simp [hcl, hcl1]
        exact h2'
theorem gcall0_canonP {K : Ctx} {rec : Rec} {f : FuncId} {a b : List GV} (h : a.map canon = b.map canon) : gcall0 K rec f a c H = gcall0 K rec f b c H := by
 have hl : a.length = b.length := by have := congrArg List.length h; simpa using this
 unfold gcall0
 rw [h, hl]
theorem gcall_canonN {K : Ctx} {rec : Rec} {f : FuncId} {a b : List GV} (hc : K.cln f = false) (ha : (frzVals H a).2 = H) (hb : (frzVals H b).2 = H) (h : (frzVals H a).1.map canon = (frzVals H b).1.map canon) (h2 : a.map canon = b.map canon) : gcall K rec f a c H = gcall K rec f b c H := by
 unfold gcall
 simp only [hc, Bool.false_and, Bool.false_eq_true, if_false, ha, hb, h]
 split
 ·rfl
 ·split
  ·exact gcall0_canonP h
  ·exact gcall0_canonP h2
theorem nilP {f : FuncId} {r p h a : PV} (hc : KC.cln f = false) : gcall KC (geval KC) f [.pure r, .agg [.pure p, .pure h, .nils], .pure a] c H = gcall KC (geval KC) f [.pure r, .pure (.agg [p, h, .slice []]), .pure a] c H :=
 gcall_canonN hc rfl rfl rfl rfl
theorem nilT {f : FuncId} {p h a : PV} (hc : KC.cln f = false) : gcall KC (geval KC) f [.agg [.pure p, .pure h, .nils], .pure a] c H = gcall KC (geval KC) f [.pure (.agg [p, h, .slice []]), .pure a] c H :=
 gcall_canonN hc rfl rfl rfl rfl
theorem nilO {f : FuncId} {p h : PV} (hc : KC.cln f = false) : gcall KC (geval KC) f [.agg [.pure p, .pure h, .nils]] c H = gcall KC (geval KC) f [.pure (.agg [p, h, .slice []])] c H :=
 gcall_canonN hc rfl rfl rfl rfl
theorem minL_loopN {r : Rite} {s : Scene} (hS : Snd r s) (hW : WB r) (hFu : Full s) {o : GV} {F : Fr} (g3 : F.get 3 = some (rbox r)) (hst : s.things = []) (g4 : F.get 4 = some (.box [.pure (.slice (s.people.map irow)), .pure (.slice (s.hands.map Hands.row)), .nils])) (acts : List RAct) (hal : acts.length ≤ 1000000) (hA : ∀ a ∈ acts, AB r a.who.toNat a) (e : Nat) (hel : e ≤ acts.length)
    (hcl : ∀ f3 f2 f1, clean (f3 :: f2 :: f1 :: F :: H) (H.length + 2) o = o) (hcl1 : ∀ f2 f1, clean (f2 :: f1 :: F :: H) (H.length + 1) o = o) (Q : GX → GSt → Prop) :
    ∀ (k i : Nat) (B : Fr) (p : List RAct) (tk : List (Int × Int)) (nx : Scene), i + k = e → p.length ≤ i → MR (H.length + 1) B (p.map (tOf s)) nx → TkOf s p tk → GOk r s p → nx = doG s p →
    ((minR r s ((acts.take e).drop i) tk nx i).2.2 = 0 → ∀ B' bs', MR (H.length + 1) B' bs' (minR r s ((acts.take e).drop i) tk nx i).1 → Q (.exit 4) ⟨[(2, .pure (.slice (acts.map RAct.row))), (3, .bptr (H.length, 3) 0), (4, .bptr (H.length, 4) 0), (6, gdead), (7, gdead), (8, gdead), (9, o), (11, .pure (.int .i64 e)), (12, .bptr (H.length + 1, 12) 0)], B' :: F :: H, 94⟩) →
    ((minR r s ((acts.take e).drop i) tk nx i).2.2 ≠ 0 → ∀ B', Q .ret ⟨[(2, .pure (.slice (acts.map RAct.row))), (3, .bptr (H.length, 3) 0), (4, .bptr (H.length, 4) 0), (6, .nils), (7, .pure (.int .i64 (minR r s ((acts.take e).drop i) tk nx i).2.1)), (8, .pure (.int .i64 (minR r s ((acts.take e).drop i) tk nx i).2.2)), (9, o), (11, .pure (.int .i64 e)), (12, .bptr (H.length + 1, 12) 0)], B' :: F :: H, 94⟩) →
    WPL KC needT 80 (lp Tryz.f80 2) [2, 3, 4, 9, 11, 12, 13, 14] [2, 3, 4, 6, 7, 8, 9, 11, 12] Q
      [(2, .pure (.slice (acts.map RAct.row))), (3, .bptr (H.length, 3) 0), (4, .bptr (H.length, 4) 0), (9, o), (11, .pure (.int .i64 e)), (12, .bptr (H.length + 1, 12) 0), (13, apS (H.length + 1, 80) 3 ((p.map (tOf s)).map Touch.row)), (14, .pure (.int .i64 i))] (B :: F :: H) 94 := by
  intro k
  have ne1 : ¬ H.length + 1 = H.length + 2 := by omega
  have ne2 : ¬ H.length = H.length + 1 := by omega
  have ne3 : ¬ H.length = H.length + 2 := by omega
  induction k with
  | zero =>
    intro i B p tk nx hi hpl hM hT hG hnx h1 h2
    apply WPL_step
    conv => arg 4; whnf
    have hnl : ¬ i < e := by omega
    have ed : (acts.take e).drop i = [] := List.drop_of_length_le (by simp; omega)
    rw [ed] at h1
    simp [hnl, hcl, hcl1]
    exact h1 rfl B _ hM
  | succ k ih =>
    intro i B p tk nx hi hpl hM hT hG hnx h1 h2
    have hie : i < e := by omega
    have hia : i < acts.length := by omega
    have hw := w64 (x := (i : Int) + 1) (by omega) (by omega)
    obtain ⟨a, ha⟩ : ∃ a, acts[i] = a := ⟨_, rfl⟩
    have ed : (acts.take e).drop i = a :: (acts.take e).drop (i + 1) := by
      rw [List.drop_eq_getElem_cons (by simp; omega)]
      simp [ha]
    have hAa : AB r a.who.toNat a := hA a (ha ▸ List.getElem_mem hia)
    have hpW := hW.w1
    have hww : r.wide ≠ 0 := by omega
    have hwl := hAa.wl
    have P := fun c (H : Heap) (hH : 0 < H.length) => possibleP_ok (c := c) (H := H) hS.toScB hwl hW.pl hww (evB_of hAa) hH
    have T := fun c (H : Heap) (hH : 0 < H.length) => touch_ok (c := c) (H := H) (s := s) (w := a.who.toNat) (a := a) (by rw [hS.pl]; exact hwl) (by rw [hS.hl]; exact hwl) hAa.who hAa.hand hH
    rw [ed] at h1 h2
    unfold minR at h1 h2
    obtain ⟨bs, hbs⟩ : ∃ bs, p.map (tOf s) = bs := ⟨_, rfl⟩
    have hbl : bs.length = p.length := by rw [← hbs]; simp
    have hbT : ∀ b ∈ bs, TLen b := fun b hb => by
      rw [← hbs] at hb
      obtain ⟨x, _, rfl⟩ := List.mem_map.1 hb
      exact touchV_len s x.who.toNat x
    have hit0 := hit_iff (a := a) hT
    rw [hbs] at hM hit0 ⊢
    apply WPL_step
    conv => arg 4; whnf
    simp only [rbox] at g3
    rw [rowR, actRow] at P
    rw [actRow] at T
    simp only [Scene.row, hst, List.map_nil] at P T
    have P := fun c (H : Heap) (hH : 0 < H.length) => (nilP (c := c) (H := H) (f := 84) rfl).trans (P c H hH)
    have T := fun c (H : Heap) (hH : 0 < H.length) => (nilT (c := c) (H := H) (f := 88) rfl).trans (T c H hH)
    cases hp : posV r s a.who.toNat a with
    | false =>
      rw [hp] at P
      simp only [hp, if_true] at h2
      have h2' := h2 (by decide) B
      simp [hie, hia, ha, actRow, ne1, ne2, ne3, g3, g4, P, hcl, hcl1]
      exact h2'
    | true =>
      rw [hp] at P
      simp only [hp, Bool.true_eq_false, if_false] at h1 h2
      obtain ⟨t, ht⟩ : ∃ t, touchV s a.who.toNat a = t := ⟨_, rfl⟩
      have htl : TLen t := by rw [← ht]; exact touchV_len s a.who.toNat a
      have htO : tOf s a = t := ht
      rw [ht] at T
      simp only [Touch.row] at T
      have L1 := fun Q => hit_loop (H := H) (o := o) (a := .pure (.slice (acts.map RAct.row))) (F := F) (B := B) t htl bs hbT (by omega) hM.g80 e i (fun f3 f2 => hcl f3 f2 B) (fun f3 f2 => by simp) Q bs.length 0 (by omega)
      simp only [List.drop_zero, tbox] at L1
      have hit := hit0
      rw [htO] at hit
      simp [hie, hia, ha, actRow, ne1, ne2, ne3, g3, g4, P, T, hcl, hcl1]
      refine L1 _ (fun hfr => ?_) (fun hfr => ?_)
      · clear L1
        have hfr' := hit.1 hfr
        rw [if_pos hfr'] at h1 h2
        have hGs : GOk r s (p ++ [a]) := hG.snoc hT hAa hp hfr'
        have hTs : TkOf s (p ++ [a]) (insTs tk (touchP s a.who.toNat a)) := hT.snoc
        have aft := GOk.after hS hGs
        rw [← hnx] at aft
        have hD := DoB_of aft.1 hAa aft.2
        have b1 : (bs.map Touch.row).length + 1 ≤ 1000001 := by simp; omega
        have hbs2 : (p ++ [a]).map (tOf s) = bs ++ [t] := by simp [hbs, htO]
        have AP := fun (C : Fr) => apK_apS (H' := C :: B :: F :: H) (l := H.length + 1) (key := 80) (es := 3) (bytes := 72) (rows := bs.map Touch.row) (r := t.row) (fun h => by
          have := hM.g80n (by simpa using h)
          simp [ne1, this]) (fun h => by
          have := hM.g80 (by intro x; exact h (by rw [x]; rfl))
          simp [ne1, this]) (by simp) (by omega)
        have es : bs.map Touch.row ++ [t.row] = (bs ++ [t]).map Touch.row := by simp
        rw [es] at AP
        obtain ⟨B1, hB1⟩ : ∃ B1, B.ins 80 (.arr 3 ((bs ++ [t]).map Touch.row) 0 false) = B1 := ⟨_, rfl⟩
        have o1 : ∀ k, k ≠ 80 → B1.get k = B.get k := fun k hk => by rw [← hB1, Fr.get_ins_other _ hk]
        have hs1 : B1.srt := by rw [← hB1]; exact Fr.ins_srt hM.srt
        have sc1 : SA B1 mo1 mo2 mo3 nx := hM.sc.other (o1 _ (by decide)) (o1 _ (by decide)) (o1 _ (by decide))
        have g12 := (o1 12 (by decide)).trans hM.g12
        have g801 : B1.get 80 = some (.arr 3 ((bs ++ [t]).map Touch.row) 0 false) := by rw [← hB1, Fr.get_ins]
        have hset : ∀ C : Fr, Heap.set (C :: B :: F :: H) (H.length + 1, 80) (.arr 3 ((bs ++ [t]).map Touch.row) 0 false) = C :: B1 :: F :: H := fun C => by rw [← hB1]; simp [ne1]
        simp only [hset, Touch.row] at AP
        obtain ⟨B2, hs2, sc2, o2, ed2⟩ := doA_at (H := F :: H) (L := H.length + 1) (by simp) (c := 86) (f0 := [(15, tbox t)]) hs1 sc1 (show mo1 ≠ mo2 by decide) (show mo1 ≠ mo3 by decide) (show mo2 ≠ mo3 by decide) hD (by rw [aft.1.hl]; exact hW.pl)
        have LD := doV_len (s := nx) (w := a.who.toNat) (a := a) hAa.kind
        have ens : nsB (H.length + 1) (doV nx a.who.toNat a) = nsB (H.length + 1) nx := by
          unfold nsB
          rw [LD.1, LD.2.1, apS_congr (rows := (doV nx a.who.toNat a).things.map Spot.row) (rows' := nx.things.map Spot.row) (by simp [LD.2.2])]
        have M2 : MR (H.length + 1) B2 (bs ++ [t]) (doV nx a.who.toNat a) := {
          srt := hs2
          g12 := by rw [ens]; exact (o2 12 (by decide) (by decide) (by decide)).trans g12
          sc := sc2
          g80 := fun _ => (o2 80 (by decide) (by decide) (by decide)).trans g801
          g80n := fun h => by simp at h }
        have ih' := ih (i + 1) B2 (p ++ [a]) (insTs tk (touchP s a.who.toNat a)) (doV nx a.who.toNat a) (by omega) (by simp; omega) (by rw [hbs2]; exact M2) hTs hGs (by rw [hnx, doG_append]; rfl) h1 h2
        rw [hbs2] at ih'
        simp only [scA, tbox] at ed2
        rw [actRow] at ed2
        simp only [nsB] at g12
        simp [ne1, ne2, ne3, hia, ha, actRow, AP, g12, ed2, hw, hcl, hcl1]
        simpa using ih'
      · clear L1
        have hfr' : ¬ ∀ x ∈ touchP s a.who.toNat a, x ∉ tk := fun h => hfr (hit.2 h)
        rw [if_neg hfr'] at h2
        have h2' := h2 (show (12 : Int) ≠ 0 by decide) B
        simp [hcl, hcl1]
        exact h2'
end
section
variable {c : Nat} {H : Heap}
theorem minR_shift {r : Rite} {s : Scene} : ∀ {g : List RAct} {tk : List (Int × Int)} {nx : Scene} {i d : Nat}, (minR r s g tk nx (i + d)).1 = (minR r s g tk nx i).1 ∧ (minR r s g tk nx (i + d)).2.2 = (minR r s g tk nx i).2.2 ∧ ((minR r s g tk nx i).2.2 ≠ 0 → (minR r s g tk nx (i + d)).2.1 = (minR r s g tk nx i).2.1 + d)
  | [], _, _, _, _ => ⟨rfl, rfl, fun h => absurd rfl h⟩
  | a :: g, tk, nx, i, d => by
    unfold minR
    by_cases h1 : posV r s a.who.toNat a = false
    · rw [if_pos h1, if_pos h1]; exact ⟨rfl, rfl, fun _ => by simp⟩
    · rw [if_neg h1, if_neg h1]
      by_cases h2 : ∀ x ∈ touchP s a.who.toNat a, x ∉ tk
      · rw [if_pos h2, if_pos h2, show i + d + 1 = (i + 1) + d by omega]
        exact minR_shift
      · rw [if_neg h2, if_neg h2]; exact ⟨rfl, rfl, fun _ => by simp⟩
def scN0 (s : Scene) : Blk := .box [.pure (.slice (s.people.map irow)), .pure (.slice (s.hands.map Hands.row)), .nils]
def scBb : Bool → Scene → Blk | true, s => scN0 s | false, s => scB s
def rfF (b : Bool) (r : Rite) (s : Scene) (out : List Scene) : Fr := apF 92 3 (out.map Scene.row) [(3, rbox r), (4, scBb b s)]
theorem scn_loop {r : Rite} (hW : WB r) (acts : List RAct) (hal : acts.length ≤ 1000000) (hA : ∀ a ∈ acts, AB r a.who.toNat a) (Q : GX → GSt → Prop) : ∀ (k i : Nat) (b : Bool) (s : Scene) (out : List Scene), acts.length - i ≤ k → i ≤ acts.length → out.length ≤ i → Snd r s → Full s → (b = true → s.things = []) →
    ((runR r k s (acts.drop i) i).2.2.2 = 0 → ∀ b', Q (.exit 0) ⟨[(6, gdead), (7, gdead), (8, gdead), (9, apS (H.length, 92) 3 ((out ++ (runR r k s (acts.drop i) i).1).map Scene.row))], rfF b' r (runR r k s (acts.drop i) i).2.1 (out ++ (runR r k s (acts.drop i) i).1) :: H, 94⟩) →
    ((runR r k s (acts.drop i) i).2.2.2 ≠ 0 → ∀ g F', Q .ret ⟨[(6, .nils), (7, .pure (.int .i64 (runR r k s (acts.drop i) i).2.2.1)), (8, .pure (.int .i64 (runR r k s (acts.drop i) i).2.2.2)), (9, g)], F' :: H, 94⟩) →
    WPL KC needT 80 (lp Tryz.f80 0) [2, 3, 4, 9, 10] [6, 7, 8, 9] Q
      [(2, .pure (.slice (acts.map RAct.row))), (3, .bptr (H.length, 3) 0), (4, .bptr (H.length, 4) 0), (9, apS (H.length, 92) 3 (out.map Scene.row)), (10, .pure (.int .i64 i))] (rfF b r s out :: H) 94 := by
  intro k
  have ne1 : ¬ H.length = H.length + 1 := by omega
  have ne2 : ¬ H.length + 1 = H.length := by omega
  have ne3 : ¬ H.length + 1 ≤ H.length := by omega
  induction k with
  | zero =>
    intro i b s out hk hi hol hS hF hb h1 h2
    have hnl : ¬ i < acts.length := by omega
    apply WPL_step
    conv => arg 4; whnf
    simp [runR] at h1
    simp [hnl]
    cases b with
    | true => simpa using h1.2
    | false => simpa using h1.1
  | succ k ih =>
    intro i b s out hk hi hol hS hF hb h1 h2
    by_cases hia : i < acts.length
    · have ed : acts.drop i = acts[i] :: acts.drop (i + 1) := List.drop_eq_getElem_cons hia
      obtain ⟨a, ha⟩ : ∃ a, acts[i] = a := ⟨_, rfl⟩
      rw [ha] at ed
      obtain ⟨gr, hgr⟩ : ∃ gr, (a :: acts.drop (i + 1)).takeWhile (sameAt' a) = gr := ⟨_, rfl⟩
      have hg1 : 1 ≤ gr.length := by
        rw [← hgr, List.takeWhile_cons, show sameAt' a a = true from by simp [sameAt']]
        simp
      have hgp : gr <+: acts.drop i := by rw [ed, ← hgr]; exact List.takeWhile_prefix _
      have hgl : i + gr.length ≤ acts.length := by have := hgp.length_le; simp at this; omega
      have hgt : gr = (acts.drop i).take gr.length := List.prefix_iff_eq_take.1 hgp
      have hgA : ∀ b ∈ gr, AB r b.who.toNat b := fun b hb => hA b (List.mem_of_mem_drop (hgp.subset hb))
      have hsl : (acts.take (i + gr.length)).drop i = gr := by rw [List.drop_take, Nat.add_sub_cancel_left]; exact hgt.symm
      obtain ⟨m, hm⟩ : ∃ m, minR r s gr [] s 0 = m := ⟨_, rfl⟩
      have hbad := minR_bad (r := r) (s := s) (g := gr) (tk := []) (nx := s) (i := 0)
      have hgood := minR_good (r := r) (s := s) (g := gr) (p := []) (tk := []) (nx := s) (i := 0) (fun x => by simp) ⟨fun a ha => by simp at ha, by simp⟩ rfl hgA
      have hsh := minR_shift (r := r) (s := s) (g := gr) (tk := []) (nx := s) (i := 0) (d := i)
      rw [Nat.zero_add] at hsh
      rw [hm] at hbad hgood hsh
      rw [ed] at h1 h2
      unfold runR at h1 h2
      simp only [hgr, hm] at h1 h2
      have o0 : ∀ f2 : Fr, clean (f2 :: [] :: rfF b r s out :: H) (H.length + 1) (apS (H.length, 92) 3 (out.map Scene.row)) = apS (H.length, 92) 3 (out.map Scene.row) := fun f2 => by simp
      have L1 := fun Q => toR_loop (H := H) (o := apS (H.length, 92) 3 (out.map Scene.row)) acts hal i hia (rfF b r s out) o0 Q (acts.length - i) i (by omega)
      rw [ed, ha, hgr] at L1
      obtain ⟨e, hee⟩ : ∃ e, i + gr.length = e := ⟨_, rfl⟩
      rw [hee] at L1 hsl hgl
      have q1 : newKey 42 6 = mo1 := by decide
      have q2 : newKey 42 10 = mo2 := by decide
      have q3 : newKey 42 14 = mo3 := by decide
      have O := own0_ok (c := 42) (H := [] :: rfF b r s out :: H) (s := s) hF (by simp) (by simp [ne2]) (by simp [ne2]) (by simp [ne2])
      simp only [List.length_cons, Nat.add_sub_cancel, q1, q2, q3] at O
      obtain ⟨B0, hB0⟩ : ∃ B0 : Fr, apF mo3 2 (s.things.map Spot.row) [(mo1, .arr 1 (s.people.map irow) 0 false), (mo2, .arr 2 (s.hands.map Hands.row) 0 false)] = B0 := ⟨_, rfl⟩
      have hO : apSet (Heap.set (Heap.set ([] :: rfF b r s out :: H) (H.length + 1, mo1) (.arr 1 (s.people.map irow) 0 false)) (H.length + 1, mo2) (.arr 2 (s.hands.map Hands.row) 0 false)) (H.length + 1, mo3) 2 (s.things.map Spot.row) = B0 :: rfF b r s out :: H := by
        rw [← hB0]
        have : Heap.set (Heap.set ([] :: rfF b r s out :: H) (H.length + 1, mo1) (.arr 1 (s.people.map irow) 0 false)) (H.length + 1, mo2) (.arr 2 (s.hands.map Hands.row) 0 false) = [(mo1, .arr 1 (s.people.map irow) 0 false), (mo2, .arr 2 (s.hands.map Hands.row) 0 false)] :: rfF b r s out :: H := by
          simp [ne2, mo1, mo2]
        rw [this]
        exact apSet_1 (by simp)
      rw [hO] at O
      have b0s : B0.srt := by rw [← hB0]; exact apF_srt (by simp [Fr.srt, mo1, mo2])
      have b0_1 : B0.get mo1 = some (.arr 1 (s.people.map irow) 0 false) := by rw [← hB0, apF_get (by decide)]; simp
      have b0_2 : B0.get mo2 = some (.arr 2 (s.hands.map Hands.row) 0 false) := by rw [← hB0, apF_get (by decide)]; simp [mo1, mo2]
      have b0_3 : s.things ≠ [] → B0.get mo3 = some (.arr 2 (s.things.map Spot.row) 0 false) := fun h => by rw [← hB0, apF_self (by simpa using h)]
      have b0_n : ∀ k, k ≠ mo1 → k ≠ mo2 → k ≠ mo3 → B0.get k = none := fun k h1 h2 h3 => by rw [← hB0, apF_get h3]; simp [h1, h2]
      have b0_12 := b0_n 12 (by decide) (by decide) (by decide)
      obtain ⟨B1, hB1⟩ : ∃ B1, B0.ins 12 (nsB (H.length + 1) s) = B1 := ⟨_, rfl⟩
      have o1 : ∀ k, k ≠ 12 → B1.get k = B0.get k := fun k hk => by rw [← hB1, Fr.get_ins_other _ hk]
      have M1 : MR (H.length + 1) B1 [] s := {
        srt := by rw [← hB1]; exact Fr.ins_srt b0s
        g12 := by rw [← hB1, Fr.get_ins]
        sc := ⟨⟨0, Nat.zero_le _, (o1 _ (by decide)).trans b0_1⟩, ⟨0, Nat.zero_le _, (o1 _ (by decide)).trans b0_2⟩, fun h => ⟨0, Nat.zero_le _, (o1 _ (by decide)).trans (b0_3 h)⟩⟩
        g80 := fun h => absurd rfl h
        g80n := fun _ => (o1 80 (by decide)).trans (b0_n 80 (by decide) (by decide) (by decide)) }
      cases b with
      | false =>
        have L2 := fun Q => minL_loop (H := H) hS hW hF (o := apS (H.length, 92) 3 (out.map Scene.row)) (F := rfF false r s out) (by unfold rfF; rw [apF_get (by decide)]; rfl) (by unfold rfF; rw [apF_get (by decide)]; rfl) acts hal hA e hgl (fun f3 f2 f1 => by simp) (fun f2 f1 => by simp) Q gr.length i B1 [] [] s (by omega) (Nat.zero_le _) M1 (fun x => by simp) ⟨fun a ha => by simp at ha, by simp⟩ rfl
        simp only [List.map_nil, apS_nil, hsl] at L2
        have hle : i ≤ e := by omega
        have hsr : s.row = [.slice (s.people.map irow), .slice (s.hands.map Hands.row), .slice (s.things.map Spot.row)] := rfl
        rw [hsr] at O
        apply WPL_step
        conv => arg 4; whnf
        simp [hia]
        refine L1 _ ?_
        clear L1
        have gF3 : (rfF false r s out).get 3 = some (rbox r) := by unfold rfF; rw [apF_get (by decide)]; rfl
        have gF4 : (rfF false r s out).get 4 = some (scB s) := by unfold rfF; rw [apF_get (by decide)]; rfl
        have iF4 : ∀ x, (rfF false r s out).ins 4 (scB x) = rfF false r x out := fun x => by unfold rfF; rw [apF_ins (by decide)]; rfl
        have iF4n : ∀ x, (rfF false r s out).ins 4 (scN0 x) = rfF true r x out := fun x => by unfold rfF; rw [apF_ins (by decide)]; rfl
        simp only [scB] at gF4 iF4
        simp only [scN0] at iF4n
        simp only [nsB] at hB1
        simp only [scA] at O
        generalize hRF : rfF false r s out = RF at O L2 gF3 gF4 iF4 iF4n ⊢
        simp [ne1, ne2, gF4, O, b0_12, Fr.get_ins, Fr.ins_ins, hB1]
        refine L2 _ (fun he B' bs' M' => ?_) (fun he B' => ?_)
        · clear L2
          rw [hsh.2.1] at he
          obtain ⟨hG, hx1⟩ := hgood he
          obtain ⟨x1, x2, x3⟩ := m
          simp only at he hx1 h1 h2 hsh
          subst he
          rw [hsh.1] at M'
          have hS1 : Snd r x1 := by rw [hx1]; exact hG.snd hS
          have hF1 := full_of hS hS1 hF
          simp only [ne_eq, not_true_eq_false, if_false] at h1 h2
          have edr : (a :: acts.drop (i + 1)).drop gr.length = acts.drop (i + gr.length) := by rw [← ed, List.drop_drop]
          rw [edr, hee] at h1 h2
          have ihb := fun b' hb' => ih e b' x1 (out ++ [x1]) (by omega) hgl (by simp; omega) hS1 hF1 hb' (fun h => by rw [List.append_assoc]; exact h1 h) (fun h => h2 h)
          have g12 := M'.g12
          obtain ⟨v1, a1, b1⟩ := M'.sc.h1
          obtain ⟨v2, a2, b2⟩ := M'.sc.h2
          have h3 := M'.sc.h3
          have G21 : ∀ x, (B'.ins mo1 x).get mo2 = B'.get mo2 := fun x => Fr.get_ins_other _ (by decide) _
          have G31 : ∀ x y, ((B'.ins mo1 x).ins mo2 y).get mo3 = B'.get mo3 := fun x y => by rw [Fr.get_ins_other _ (by decide), Fr.get_ins_other _ (by decide)]
          have t1 : List.take x1.people.length (x1.people.map irow) = x1.people.map irow := List.take_of_length_le (by simp)
          have t2 : List.take x1.hands.length (x1.hands.map Hands.row) = x1.hands.map Hands.row := List.take_of_length_le (by simp)
          have t3 : List.take x1.things.length (x1.things.map Spot.row) = x1.things.map Spot.row := List.take_of_length_le (by simp)
          simp only [nsB] at g12
          by_cases t0 : x1.things = []
          · have ih' := ihb true (fun _ => t0)
            have AP := fun (f0 : Fr) => apK_1 (H := H) (l := H.length) (key := 92) (es := 3) (bytes := 72) (rows := out.map Scene.row) (r := x1.row) (fr := [(3, rbox r), (4, scN0 x1)]) (f0 := f0) rfl rfl (by simp; omega)
            have gx4 : (rfF true r x1 out).get 4 = some (scN0 x1) := by unfold rfF; rw [apF_get (by decide)]; rfl
            have eqF : ∀ f0 : Fr, f0 :: apF 92 3 (out.map Scene.row ++ [x1.row]) [(3, rbox r), (4, scN0 x1)] :: H = f0 :: rfF true r x1 (out ++ [x1]) :: H := fun f0 => by simp [rfF, scBb]
            have eqF0 : ∀ f0 : Fr, f0 :: apF 92 3 (out.map Scene.row) [(3, rbox r), (4, scN0 x1)] :: H = f0 :: rfF true r x1 out :: H := fun f0 => by simp [rfF, scBb]
            simp only [eqF, eqF0] at AP
            simp only [Scene.row] at AP
            simp only [scN0] at gx4
            have iF4' := iF4n x1
            simp only [t0, List.map_nil, apS_nil] at g12 AP
            simp [ne1, ne2, ne3, g12, b1, b2, a1, a2, G21, t1, t2, gF4, splice, iF4', gx4, AP]
            simpa [Scene.row, t0] using ih'
          · obtain ⟨v3, a3, b3⟩ := h3 t0
            have ih' := ihb false (fun h => by cases h)
            have AP := fun (f0 : Fr) => apK_1 (H := H) (l := H.length) (key := 92) (es := 3) (bytes := 72) (rows := out.map Scene.row) (r := x1.row) (fr := [(3, rbox r), (4, scB x1)]) (f0 := f0) rfl rfl (by simp; omega)
            have gx4 : (rfF false r x1 out).get 4 = some (scB x1) := by unfold rfF; rw [apF_get (by decide)]; rfl
            have eqF : ∀ f0 : Fr, f0 :: apF 92 3 (out.map Scene.row ++ [x1.row]) [(3, rbox r), (4, scB x1)] :: H = f0 :: rfF false r x1 (out ++ [x1]) :: H := fun f0 => by simp [rfF, scBb]
            have eqF0 : ∀ f0 : Fr, f0 :: apF 92 3 (out.map Scene.row) [(3, rbox r), (4, scB x1)] :: H = f0 :: rfF false r x1 out :: H := fun f0 => by simp [rfF, scBb]
            simp only [eqF, eqF0] at AP
            simp only [Scene.row] at AP
            simp only [scB] at gx4
            have iF4' := iF4 x1
            have eS : apS (H.length + 1, mo3) 2 (x1.things.map Spot.row) = .hdr (H.length + 1, mo3) 2 x1.things.length 0 x1.things.length := by
              unfold apS; rw [if_neg (by simpa using t0)]; simp
            rw [eS] at g12
            simp [ne1, ne2, ne3, g12, b1, b2, b3, a1, a2, a3, G21, G31, t1, t2, t3, gF4, splice, iF4', gx4, AP]
            simpa [Scene.row] using ih'
        · clear L2
          rw [hsh.2.1] at he
          rw [hsh.2.1, hsh.2.2 he]
          have he' : m.2.2 ≠ 0 := he
          rw [if_pos he'] at h2
          have h2' := h2 he'
          simp only at h2'
          rw [Int.add_comm] at h2'
          simp [ne1, ne2]
          exact h2' _ _
      | true =>
        have hst := hb rfl
        have L2 := fun Q => minL_loopN (H := H) hS hW hF (o := apS (H.length, 92) 3 (out.map Scene.row)) (F := rfF true r s out) (by unfold rfF; rw [apF_get (by decide)]; rfl) hst (by unfold rfF; rw [apF_get (by decide)]; rfl) acts hal hA e hgl (fun f3 f2 f1 => by simp) (fun f2 f1 => by simp) Q gr.length i B1 [] [] s (by omega) (Nat.zero_le _) M1 (fun x => by simp) ⟨fun a ha => by simp at ha, by simp⟩ rfl
        simp only [List.map_nil, apS_nil, hsl] at L2
        have hle : i ≤ e := by omega
        have hsr : s.row = [.slice (s.people.map irow), .slice (s.hands.map Hands.row), .slice (s.things.map Spot.row)] := rfl
        rw [hsr] at O
        simp only [hst, List.map_nil] at O
        have O := (nilO (c := 42) (f := 50) (by rfl)).trans O
        apply WPL_step
        conv => arg 4; whnf
        simp [hia]
        refine L1 _ ?_
        clear L1
        have gF3 : (rfF true r s out).get 3 = some (rbox r) := by unfold rfF; rw [apF_get (by decide)]; rfl
        have gF4 : (rfF true r s out).get 4 = some (scN0 s) := by unfold rfF; rw [apF_get (by decide)]; rfl
        have iF4 : ∀ x, (rfF true r s out).ins 4 (scB x) = rfF false r x out := fun x => by unfold rfF; rw [apF_ins (by decide)]; rfl
        have iF4n : ∀ x, (rfF true r s out).ins 4 (scN0 x) = rfF true r x out := fun x => by unfold rfF; rw [apF_ins (by decide)]; rfl
        simp only [scB] at iF4
        simp only [scN0] at gF4 iF4n
        simp only [nsB] at hB1
        simp only [scA] at O
        generalize hRF : rfF true r s out = RF at O L2 gF3 gF4 iF4 iF4n ⊢
        simp [ne1, ne2, gF4, O, b0_12, Fr.get_ins, Fr.ins_ins, hB1]
        refine L2 _ (fun he B' bs' M' => ?_) (fun he B' => ?_)
        · clear L2
          rw [hsh.2.1] at he
          obtain ⟨hG, hx1⟩ := hgood he
          obtain ⟨x1, x2, x3⟩ := m
          simp only at he hx1 h1 h2 hsh
          subst he
          rw [hsh.1] at M'
          have hS1 : Snd r x1 := by rw [hx1]; exact hG.snd hS
          have hF1 := full_of hS hS1 hF
          simp only [ne_eq, not_true_eq_false, if_false] at h1 h2
          have edr : (a :: acts.drop (i + 1)).drop gr.length = acts.drop (i + gr.length) := by rw [← ed, List.drop_drop]
          rw [edr, hee] at h1 h2
          have ihb := fun b' hb' => ih e b' x1 (out ++ [x1]) (by omega) hgl (by simp; omega) hS1 hF1 hb' (fun h => by rw [List.append_assoc]; exact h1 h) (fun h => h2 h)
          have g12 := M'.g12
          obtain ⟨v1, a1, b1⟩ := M'.sc.h1
          obtain ⟨v2, a2, b2⟩ := M'.sc.h2
          have h3 := M'.sc.h3
          have G21 : ∀ x, (B'.ins mo1 x).get mo2 = B'.get mo2 := fun x => Fr.get_ins_other _ (by decide) _
          have G31 : ∀ x y, ((B'.ins mo1 x).ins mo2 y).get mo3 = B'.get mo3 := fun x y => by rw [Fr.get_ins_other _ (by decide), Fr.get_ins_other _ (by decide)]
          have t1 : List.take x1.people.length (x1.people.map irow) = x1.people.map irow := List.take_of_length_le (by simp)
          have t2 : List.take x1.hands.length (x1.hands.map Hands.row) = x1.hands.map Hands.row := List.take_of_length_le (by simp)
          have t3 : List.take x1.things.length (x1.things.map Spot.row) = x1.things.map Spot.row := List.take_of_length_le (by simp)
          simp only [nsB] at g12
          by_cases t0 : x1.things = []
          · have ih' := ihb true (fun _ => t0)
            have AP := fun (f0 : Fr) => apK_1 (H := H) (l := H.length) (key := 92) (es := 3) (bytes := 72) (rows := out.map Scene.row) (r := x1.row) (fr := [(3, rbox r), (4, scN0 x1)]) (f0 := f0) rfl rfl (by simp; omega)
            have gx4 : (rfF true r x1 out).get 4 = some (scN0 x1) := by unfold rfF; rw [apF_get (by decide)]; rfl
            have eqF : ∀ f0 : Fr, f0 :: apF 92 3 (out.map Scene.row ++ [x1.row]) [(3, rbox r), (4, scN0 x1)] :: H = f0 :: rfF true r x1 (out ++ [x1]) :: H := fun f0 => by simp [rfF, scBb]
            have eqF0 : ∀ f0 : Fr, f0 :: apF 92 3 (out.map Scene.row) [(3, rbox r), (4, scN0 x1)] :: H = f0 :: rfF true r x1 out :: H := fun f0 => by simp [rfF, scBb]
            simp only [eqF, eqF0] at AP
            simp only [Scene.row] at AP
            simp only [scN0] at gx4
            have iF4' := iF4n x1
            simp only [t0, List.map_nil, apS_nil] at g12 AP
            simp [ne1, ne2, ne3, g12, b1, b2, a1, a2, G21, t1, t2, gF4, splice, iF4', gx4, AP]
            simpa [Scene.row, t0] using ih'
          · obtain ⟨v3, a3, b3⟩ := h3 t0
            have ih' := ihb false (fun h => by cases h)
            have AP := fun (f0 : Fr) => apK_1 (H := H) (l := H.length) (key := 92) (es := 3) (bytes := 72) (rows := out.map Scene.row) (r := x1.row) (fr := [(3, rbox r), (4, scB x1)]) (f0 := f0) rfl rfl (by simp; omega)
            have gx4 : (rfF false r x1 out).get 4 = some (scB x1) := by unfold rfF; rw [apF_get (by decide)]; rfl
            have eqF : ∀ f0 : Fr, f0 :: apF 92 3 (out.map Scene.row ++ [x1.row]) [(3, rbox r), (4, scB x1)] :: H = f0 :: rfF false r x1 (out ++ [x1]) :: H := fun f0 => by simp [rfF, scBb]
            have eqF0 : ∀ f0 : Fr, f0 :: apF 92 3 (out.map Scene.row) [(3, rbox r), (4, scB x1)] :: H = f0 :: rfF false r x1 out :: H := fun f0 => by simp [rfF, scBb]
            simp only [eqF, eqF0] at AP
            simp only [Scene.row] at AP
            simp only [scB] at gx4
            have iF4' := iF4 x1
            have eS : apS (H.length + 1, mo3) 2 (x1.things.map Spot.row) = .hdr (H.length + 1, mo3) 2 x1.things.length 0 x1.things.length := by
              unfold apS; rw [if_neg (by simpa using t0)]; simp
            rw [eS] at g12
            simp [ne1, ne2, ne3, g12, b1, b2, b3, a1, a2, a3, G21, G31, t1, t2, t3, gF4, splice, iF4', gx4, AP]
            simpa [Scene.row] using ih'
        · clear L2
          rw [hsh.2.1] at he
          rw [hsh.2.1, hsh.2.2 he]
          have he' : m.2.2 ≠ 0 := he
          rw [if_pos he'] at h2
          have h2' := h2 he'
          simp only at h2'
          rw [Int.add_comm] at h2'
          simp [ne1, ne2]
          exact h2' _ _
    · have e : acts.drop i = [] := List.drop_of_length_le (by omega)
      rw [e] at h1
      apply WPL_step
      conv => arg 4; whnf
      simp [runR] at h1
      simp [hia]
      cases b with
      | true => simpa using h1.2
      | false => simpa using h1.1
end
section
variable {c : Nat} {H : Heap}
theorem ordRH_loop (r : Rite) (s : Scene) (hn : s.hands.length ≤ 1000000) (Q : GX → GSt → Prop) : ∀ k i : Nat, i + k = s.hands.length →
    ((∀ j, i ≤ j → j < s.hands.length → s.hands.getD j hands0 = empty) → Q (.exit 0) ⟨[(2, .bptr (H.length, 2) 0), (3, .bptr (H.length, 3) 0), (4, gdead)], [(2, rbox r), (3, scB s)] :: H, 47⟩) →
    (¬ (∀ j, i ≤ j → j < s.hands.length → s.hands.getD j hands0 = empty) → Q .ret ⟨[(2, .bptr (H.length, 2) 0), (3, .bptr (H.length, 3) 0), (4, .pure (.bool false))], [(2, rbox r), (3, scB s)] :: H, 47⟩) →
    WPL KC needT 98 (lp Tryz.f98 0) [2, 3, 5] [2, 3, 4] Q [(2, .bptr (H.length, 2) 0), (3, .bptr (H.length, 3) 0), (5, .pure (.int .i64 i))] ([(2, rbox r), (3, scB s)] :: H) 47 := by
  intro k
  induction k with
  | zero =>
    intro i hi h1 h2
    apply WPL_step
    conv => arg 4; whnf
    have : ¬ i < s.hands.length := by omega
    simp [this, rbox, scB]
    simpa [rbox, scB] using h1 (fun j a b => by omega)
  | succ k ih =>
    intro i hi h1 h2
    have hia : i < s.hands.length := by omega
    have hw := w64 (x := (i : Int) + 1) (by omega) (by omega)
    have hg := getD_lt (d := hands0) hia
    apply WPL_step
    conv => arg 4; whnf
    by_cases e1 : s.hands[i].l = -1
    · by_cases e2 : s.hands[i].r = -1
      · have he : s.hands.getD i hands0 = empty := by rw [hg]; cases hh : s.hands[i]; rw [hh] at e1 e2; simp only at e1 e2; rw [e1, e2]; rfl
        have ih' := ih (i + 1) (by omega) (fun h => h1 fun j a b => by
          by_cases e : j = i
          · rw [e]; exact he
          · exact h j (by omega) b) (fun h => h2 fun h' => h fun j a b => h' j (by omega) b)
        simp [hia, Hands.row, hw, rbox, scB, e1, e2]
        simpa [Hands.row, rbox, scB] using ih'
      · have e2' : (s.hands[i].r == -1) = false := by simpa using e2
        simp [hia, Hands.row, rbox, scB, e1, e2']
        simpa [rbox, scB] using h2 fun h' => by
          have := h' i (Nat.le_refl _) hia
          rw [hg] at this
          rw [this] at e2; exact e2 rfl
    · have e1' : (s.hands[i].l == -1) = false := by simpa using e1
      simp [hia, Hands.row, rbox, scB, e1']
      simpa [rbox, scB] using h2 fun h' => by
        have := h' i (Nat.le_refl _) hia
        rw [hg] at this
        rw [this] at e1; exact e1 rfl
theorem ordRT_loop (r : Rite) (s : Scene) (hn : r.things.length ≤ 1000000) (hst : s.things.length = r.things.length) (Q : GX → GSt → Prop) : ∀ k i : Nat, i + k = r.things.length →
    ((∀ j, i ≤ j → j < r.things.length → s.things.getD j spot0 = ⟨(r.things.getD j thing0).home, (r.things.getD j thing0).want⟩) → Q (.exit 2) ⟨[(4, gdead)], [(2, rbox r), (3, scB s)] :: H, 47⟩) →
    (¬ (∀ j, i ≤ j → j < r.things.length → s.things.getD j spot0 = ⟨(r.things.getD j thing0).home, (r.things.getD j thing0).want⟩) → Q .ret ⟨[(4, .pure (.bool false))], [(2, rbox r), (3, scB s)] :: H, 47⟩) →
    WPL KC needT 98 (lp Tryz.f98 1) [2, 3, 6] [4] Q [(2, .bptr (H.length, 2) 0), (3, .bptr (H.length, 3) 0), (6, .pure (.int .i64 i))] ([(2, rbox r), (3, scB s)] :: H) 47 := by
  intro k
  induction k with
  | zero =>
    intro i hi h1 h2
    apply WPL_step
    conv => arg 4; whnf
    have : ¬ i < r.things.length := by omega
    simp [this, rbox, scB]
    simpa [rbox, scB] using h1 (fun j a b => by omega)
  | succ k ih =>
    intro i hi h1 h2
    have hia : i < r.things.length := by omega
    have his : i < s.things.length := by omega
    have hw := w64 (x := (i : Int) + 1) (by omega) (by omega)
    have hg := getD_lt (d := thing0) hia
    have hg2 := getD_lt (d := spot0) his
    apply WPL_step
    conv => arg 4; whnf
    by_cases e1 : s.things[i].cell = r.things[i].home
    · by_cases e2 : s.things[i].state = r.things[i].want
      · have he : s.things.getD i spot0 = ⟨(r.things.getD i thing0).home, (r.things.getD i thing0).want⟩ := by rw [hg, hg2, ← e1, ← e2]
        have ih' := ih (i + 1) (by omega) (fun h => h1 fun j a b => by
          by_cases e : j = i
          · rw [e]; exact he
          · exact h j (by omega) b) (fun h => h2 fun h' => h fun j a b => h' j (by omega) b)
        simp [hia, his, Thing.row, Spot.row, hw, rbox, scB, e1, e2]
        simpa [Thing.row, Spot.row, rbox, scB] using ih'
      · have e2' : (s.things[i].state == r.things[i].want) = false := by simpa using e2
        simp [hia, his, Thing.row, Spot.row, rbox, scB, e1, e2']
        simpa [rbox, scB] using h2 fun h' => by
          have := h' i (Nat.le_refl _) hia
          rw [hg, hg2] at this
          rw [this] at e2; exact e2 rfl
    · have e1' : (s.things[i].cell == r.things[i].home) = false := by simpa using e1
      simp [hia, his, Thing.row, Spot.row, rbox, scB, e1']
      simpa [rbox, scB] using h2 fun h' => by
        have := h' i (Nat.le_refl _) hia
        rw [hg, hg2] at this
        rw [this] at e1; exact e1 rfl
theorem orderedR_ok (r : Rite) (s : Scene) (hn : r.things.length ≤ 1000000) (hn2 : s.hands.length ≤ 1000000) (hst : s.things.length = r.things.length) (hH : 0 < H.length) :
  gcall KC (geval KC) 98 [.pure (.agg r.row), .pure (.agg s.row)] c H = some (.pure (.bool (ordV r s)), H) := by
 refine bor_c rfl rfl rfl rfl rfl hH fun H hH => ?_
 refine WPv_eq (call_enter0 KC needT Tryz.func98 rfl rfl good98 (by simp) hH ?_)
 have hd := ordV_def r s
 have eh : (∀ j, 0 ≤ j → j < s.hands.length → s.hands.getD j hands0 = empty) ↔ endH s := by
  unfold endH
  constructor
  ·intro h
   refine List.ext_getElem (by simp) fun j h1 h2 => ?_
   have := h j (Nat.zero_le _) h1
   rw [getD_lt h1] at this
   simp [this]
  ·intro h j _ hj
   rw [getD_lt hj]
   have : s.hands[j]'hj = (s.hands.map fun _ => empty)[j]'(by simpa using hj) := by congr 1
   rw [this]; simp
 have et : (∀ j, 0 ≤ j → j < r.things.length → s.things.getD j spot0 = ⟨(r.things.getD j thing0).home, (r.things.getD j thing0).want⟩) ↔ endT r s := ⟨fun h i hi => h i (Nat.zero_le _) hi, fun h i _ hi => h i hi⟩
 have L1 := fun Q => ordRH_loop (H := H) r s hn2 Q s.hands.length 0 (by omega)
 rw [eh] at L1
 have L2 := fun Q => ordRT_loop (H := H) r s hn hst Q r.things.length 0 (by omega)
 rw [et] at L2
 rw [rowR]
 unfold Scene.row
 simp
 simp [rbox, scB] at L1 L2
 refine L1 _ (fun h => ?_) (fun h => ?_)
 ·simp
  refine L2 _ (fun h2 => ?_) (fun h2 => ?_)
  ·have : ordV r s = true := by rw [hd, decide_eq_true (p := s.hands = s.hands.map fun _ => empty) h, Bool.true_and]; exact decide_eq_true (p := ∀ i, i < r.things.length → s.things.getD i spot0 = ⟨(r.things.getD i thing0).home, (r.things.getD i thing0).want⟩) h2
   simp [gleave_free, this]
  ·have : ordV r s = false := by
    rw [hd, Bool.and_eq_false_iff]; right
    exact decide_eq_false (p := ∀ i, i < r.things.length → s.things.getD i spot0 = ⟨(r.things.getD i thing0).home, (r.things.getD i thing0).want⟩) h2
   simp [gleave_free, this]
 ·have : ordV r s = false := by
   rw [hd, Bool.and_eq_false_iff]; left
   exact decide_eq_false (p := s.hands = s.hands.map fun _ => empty) h
  simp [gleave_free, this]
theorem first_ok0E (r : Rite) (hp0 : r.people ≠ []) (ht0 : r.things = []) (hpl : r.people.length ≤ 1000000) (htl : r.things.length ≤ 1000000) (hH : 0 < H.length)
  (hf1 : H.get (H.length - 1, newKey c 22) = none) (hf2 : H.get (H.length - 1, newKey c 27) = none) :
  gcall0 KC (geval KC) 48 [.pure (.agg r.row)] c H = some (.agg [.hdr (H.length - 1, newKey c 22) 1 (firstV r).people.length 0 (firstV r).people.length, .hdr (H.length - 1, newKey c 27) 2 (firstV r).hands.length 0 (firstV r).hands.length, .nils],
   ((H.set (H.length - 1, newKey c 22) (.arr 1 ((firstV r).people.map irow) 0 false)).set (H.length - 1, newKey c 27) (.arr 2 ((firstV r).hands.map Hands.row) 0 false))) := by
 refine WPv_eq (call_enter0 KC needT Tryz.func48 rfl rfl good48 (by simp) hH ?_)
 rw [rowR]
 have lp0 : 0 < r.people.length := List.length_pos_iff.2 hp0
 have n12 : newKey c 22 ≠ newKey c 27 := by unfold newKey; omega
 have L1 := fun Q => first_loop1 (H := H) r hpl Q (r.people.length - 1) 1 [r.people[0].cell] [empty] (by omega) rfl rfl (by omega)
 have ep : r.people[0].cell :: (r.people.drop 1).map (fun p => p.cell) = r.people.map (fun p => p.cell) := map_head (fun p : Person => p.cell) r.people lp0
 have eh : empty :: ((r.people.drop 1).map fun _ => empty) = r.people.map fun _ => empty := map_head (fun _ : Person => empty) r.people lp0
 simp only [List.singleton_append, ep, eh] at L1
 simp [ff1, rbox, irow, Hands.row, empty] at L1
 simp
 apply WPL_step
 conv => arg 4; whnf
 simp [lp0, Person.row]
 refine L1 _ ?_
 clear L1
 simp
 apply WPL_step
 conv => arg 4; whnf
 simp [ff1, rbox, ht0]
 have k1 : (H.length - 1, newKey c 27) ≠ ((H.length - 1, newKey c 22) : Nm) := fun e => n12 (Prod.mk.inj e).2.symm
 have g2 : ∀ b, (H.set (H.length - 1, newKey c 22) b).get (H.length - 1, newKey c 27) = none := fun b => (Heap.get_set_other b k1).trans hf2
 simp [gleave_keep, refs, refs2, refs1, dedup, moveOut, cleanBlk, hf1, g2, ren, ren2, ren1, firstV, ht0, mkAgg, allPure, irow, Hands.row, empty, Spot.row, spotOf]
theorem firstB_okE {rg : GV} (r : Rite) (hR : rdG H rg (.agg r.row)) (hp0 : r.people ≠ []) (ht0 : r.things = []) (hpl : r.people.length ≤ 1000000) (htl : r.things.length ≤ 1000000) (hH : 0 < H.length)
  (hf1 : H.get (H.length - 1, newKey c 22) = none) (hf2 : H.get (H.length - 1, newKey c 27) = none) :
  gcall KC (geval KC) 48 [rg] c H = some (.agg [.hdr (H.length - 1, newKey c 22) 1 (firstV r).people.length 0 (firstV r).people.length, .hdr (H.length - 1, newKey c 27) 2 (firstV r).hands.length 0 (firstV r).hands.length, .nils],
   (H.set (H.length - 1, newKey c 22) (.arr 1 ((firstV r).people.map irow) 0 false)).set (H.length - 1, newKey c 27) (.arr 2 ((firstV r).hands.map Hands.row) 0 false)) := by
 rw [gcall_bor KC rfl rfl, frz1 hR]
 have F := first_ok0E (c := c) (H := emptyH H) r hp0 ht0 hpl htl (by rw [emptyH_length]; exact hH) (emptyH_get _ _) (emptyH_get _ _)
 simp only [emptyH_length] at F
 have hL : H.length - 1 < (emptyH H).length := by rw [emptyH_length]; omega
 have hL' : H.length - 1 < H.length := by omega
 have n12 : newKey c 22 ≠ newKey c 27 := by unfold newKey; omega
 have k1 : (H.length - 1, newKey c 27) ≠ ((H.length - 1, newKey c 22) : Nm) := fun e => n12 (Prod.mk.inj e).2.symm
 generalize hE : (((emptyH H).set (H.length - 1, newKey c 22) (.arr 1 ((firstV r).people.map irow) 0 false)).set (H.length - 1, newKey c 27) (.arr 2 ((firstV r).hands.map Hands.row) 0 false)) = E at F
 have q1 : E.get (H.length - 1, newKey c 22) = some (.arr 1 ((firstV r).people.map irow) 0 false) := by rw [← hE, Heap.get_set_other _ k1.symm]; exact Heap.get_set' hL
 have q2 : E.get (H.length - 1, newKey c 27) = some (.arr 2 ((firstV r).hands.map Hands.row) 0 false) := by rw [← hE]; exact Heap.get_set' (by rw [Heap.length_set]; exact hL)
 have g2 : ∀ b, (H.set (H.length - 1, newKey c 22) b).get (H.length - 1, newKey c 27) = none := fun b => (Heap.get_set_other b k1).trans hf2
 have fr1 : ∀ l : List Int, flatRows (l.map irow) = true := fun l => by induction l with | nil => rfl | cons a l ih => simp [flatRows, flatPL, flatP, irow, ih]
 have fr2 : ∀ l : List Hands, flatRows (l.map Hands.row) = true := fun l => by induction l with | nil => rfl | cons a l ih => simp [flatRows, flatPL, flatP, Hands.row, ih]
 unfold gborrow
 simp [borBox, F, lentEnd, lentV, lentLL, lentL, lent2, lent1, refs, refs2, refs1, dedup, lentIns, n12, n12.symm, q1, q2, hf1, g2, fr1, fr2]
end
end Go.Gh

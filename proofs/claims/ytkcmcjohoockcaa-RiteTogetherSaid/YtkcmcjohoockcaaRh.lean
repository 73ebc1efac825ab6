/- The program's stages: copies, the first one, the order at the end. -/
import Derived.Test.YtkcmcjohoockcaaRg
import Derived.Test.YtkcmcjohoockcaaRf
import Derived.Test.YtkcmcjohoockcaaRe
namespace Go.Gh
open Go.Proofs
set_option linter.unusedSimpArgs false
set_option linter.unusedVariables false
set_option linter.unnecessarySimpa false
set_option maxRecDepth 100000
set_option maxHeartbeats 4000000

variable {c : Nat} {H : Heap}
theorem gcall_cln0 {K : Ctx} {rec : Rec} {f : FuncId} {args : List GV} (h1 : emptyArg args = false) (h2 : K.bor f = false) (h3 : K.frz f = false) : gcall K rec f args c H = gcall0 K rec f args c H := by
  unfold gcall
  simp [h1, h2, h3]

section
variable {x : List PV} {l : List (List PV)}
theorem nil22 : gnilEq KC .eql 22 (.pure (.slice (x :: l))) = some (.bool false) := by
  unfold gnilEq; rw [KC_P, Try.underlying22]; rfl
theorem nil23 : gnilEq KC .eql 23 (.pure (.slice (x :: l))) = some (.bool false) := by
  unfold gnilEq; rw [KC_P, Try.underlying23]; rfl
theorem nil24 : gnilEq KC .eql 24 (.pure (.slice (x :: l))) = some (.bool false) := by
  unfold gnilEq; rw [KC_P, Try.underlying24]; rfl
theorem nil25 : gnilEq KC .eql 25 (.pure (.slice (x :: l))) = some (.bool false) := by
  unfold gnilEq; rw [KC_P, Try.underlying25]; rfl
theorem nil45 : gnilEq KC .eql 45 (.pure (.slice (x :: l))) = some (.bool false) := by
  unfold gnilEq; rw [KC_P, Try.underlying45]; rfl
theorem nil46 : gnilEq KC .eql 46 (.pure (.slice (x :: l))) = some (.bool false) := by
  unfold gnilEq; rw [KC_P, Try.underlying46]; rfl
end

theorem cloneint_ok (l : List Int) (h0 : l ≠ []) (hn : l.length ≤ 1000000) (hH : 0 < H.length) (hf : H.get (H.length - 1, newKey c 7) = none) :
    gcall KC (geval KC) 75 [.pure (.slice (l.map irow))] c H = some (.hdr (H.length - 1, newKey c 7) 1 l.length 0 l.length, H.set (H.length - 1, newKey c 7) (.arr 1 (l.map irow) 0 false)) := by
  obtain ⟨x, l', rfl⟩ := List.exists_cons_of_ne_nil h0
  have hb : (l'.length + 1) * 8 ≤ 1099511627776 := by simp at hn; omega
  have hall : ∀ x : Int, (irow x).length = 1 := fun x => rfl
  have hnl : ¬ H.length + 1 ≤ H.length := by omega
  rw [gcall_cln0 rfl rfl rfl]
  refine WPv_eq (call_enter0 KC needT Try.func75 rfl rfl good75 (by simp) hH ?_)
  simp [nil22, nil23, nil24, nil25, nil45, nil46, hb, hall, hnl, gleave_keep, refs, refs2, refs1, dedup, moveOut, cleanBlk, hf, ren, ren2, ren1]

theorem cloneHint_ok (l : List Hands) (h0 : l ≠ []) (hn : l.length ≤ 1000000) (hH : 0 < H.length) (hf : H.get (H.length - 1, newKey c 7) = none) :
    gcall KC (geval KC) 76 [.pure (.slice (l.map Hands.row))] c H = some (.hdr (H.length - 1, newKey c 7) 2 l.length 0 l.length, H.set (H.length - 1, newKey c 7) (.arr 2 (l.map Hands.row) 0 false)) := by
  obtain ⟨x, l', rfl⟩ := List.exists_cons_of_ne_nil h0
  have hb : (l'.length + 1) * 16 ≤ 1099511627776 := by simp at hn; omega
  have hall : ∀ x : Hands, (Hands.row x).length = 2 := fun x => rfl
  have hnl : ¬ H.length + 1 ≤ H.length := by omega
  rw [gcall_cln0 rfl rfl rfl]
  refine WPv_eq (call_enter0 KC needT Try.func76 rfl rfl good76 (by simp) hH ?_)
  simp [nil22, nil23, nil24, nil25, nil45, nil46, hb, hall, hnl, gleave_keep, refs, refs2, refs1, dedup, moveOut, cleanBlk, hf, ren, ren2, ren1]

theorem cloneSpot_ok (l : List Spot) (h0 : l ≠ []) (hn : l.length ≤ 1000000) (hH : 0 < H.length) (hf : H.get (H.length - 1, newKey c 7) = none) :
    gcall KC (geval KC) 77 [.pure (.slice (l.map Spot.row))] c H = some (.hdr (H.length - 1, newKey c 7) 2 l.length 0 l.length, H.set (H.length - 1, newKey c 7) (.arr 2 (l.map Spot.row) 0 false)) := by
  obtain ⟨x, l', rfl⟩ := List.exists_cons_of_ne_nil h0
  have hb : (l'.length + 1) * 16 ≤ 1099511627776 := by simp at hn; omega
  have hall : ∀ x : Spot, (Spot.row x).length = 2 := fun x => rfl
  have hnl : ¬ H.length + 1 ≤ H.length := by omega
  rw [gcall_cln0 rfl rfl rfl]
  refine WPv_eq (call_enter0 KC needT Try.func77 rfl rfl good77 (by simp) hH ?_)
  simp [nil22, nil23, nil24, nil25, nil45, nil46, hb, hall, hnl, gleave_keep, refs, refs2, refs1, dedup, moveOut, cleanBlk, hf, ren, ren2, ren1]

theorem clonePerson_ok (l : List Person) (h0 : l ≠ []) (hn : l.length ≤ 1000000) (hH : 0 < H.length) (hf : H.get (H.length - 1, newKey c 7) = none) :
    gcall KC (geval KC) 78 [.pure (.slice (l.map Person.row))] c H = some (.hdr (H.length - 1, newKey c 7) 2 l.length 0 l.length, H.set (H.length - 1, newKey c 7) (.arr 2 (l.map Person.row) 0 false)) := by
  obtain ⟨x, l', rfl⟩ := List.exists_cons_of_ne_nil h0
  have hb : (l'.length + 1) * 16 ≤ 1099511627776 := by simp at hn; omega
  have hall : ∀ x : Person, (Person.row x).length = 2 := fun x => rfl
  have hnl : ¬ H.length + 1 ≤ H.length := by omega
  rw [gcall_cln0 rfl rfl rfl]
  refine WPv_eq (call_enter0 KC needT Try.func78 rfl rfl good78 (by simp) hH ?_)
  simp [nil22, nil23, nil24, nil25, nil45, nil46, hb, hall, hnl, gleave_keep, refs, refs2, refs1, dedup, moveOut, cleanBlk, hf, ren, ren2, ren1]

theorem cloneThing_ok (l : List Thing) (h0 : l ≠ []) (hn : l.length ≤ 1000000) (hH : 0 < H.length) (hf : H.get (H.length - 1, newKey c 7) = none) :
    gcall KC (geval KC) 79 [.pure (.slice (l.map Thing.row))] c H = some (.hdr (H.length - 1, newKey c 7) 5 l.length 0 l.length, H.set (H.length - 1, newKey c 7) (.arr 5 (l.map Thing.row) 0 false)) := by
  obtain ⟨x, l', rfl⟩ := List.exists_cons_of_ne_nil h0
  have hb : (l'.length + 1) * 40 ≤ 1099511627776 := by simp at hn; omega
  have hall : ∀ x : Thing, (Thing.row x).length = 5 := fun x => rfl
  have hnl : ¬ H.length + 1 ≤ H.length := by omega
  rw [gcall_cln0 rfl rfl rfl]
  refine WPv_eq (call_enter0 KC needT Try.func79 rfl rfl good79 (by simp) hH ?_)
  simp [nil22, nil23, nil24, nil25, nil45, nil46, hb, hall, hnl, gleave_keep, refs, refs2, refs1, dedup, moveOut, cleanBlk, hf, ren, ren2, ren1]

theorem cloneAct_ok (l : List RAct) (h0 : l ≠ []) (hn : l.length ≤ 1000000) (hH : 0 < H.length) (hf : H.get (H.length - 1, newKey c 7) = none) :
    gcall KC (geval KC) 80 [.pure (.slice (l.map RAct.row))] c H = some (.hdr (H.length - 1, newKey c 7) 9 l.length 0 l.length, H.set (H.length - 1, newKey c 7) (.arr 9 (l.map RAct.row) 0 false)) := by
  obtain ⟨x, l', rfl⟩ := List.exists_cons_of_ne_nil h0
  have hb : (l'.length + 1) * 72 ≤ 1099511627776 := by simp at hn; omega
  have hall : ∀ x : RAct, (RAct.row x).length = 9 := fun x => rfl
  have hnl : ¬ H.length + 1 ≤ H.length := by omega
  rw [gcall_cln0 rfl rfl rfl]
  refine WPv_eq (call_enter0 KC needT Try.func80 rfl rfl good80 (by simp) hH ?_)
  simp [nil22, nil23, nil24, nil25, nil45, nil46, hb, hall, hnl, gleave_keep, refs, refs2, refs1, dedup, moveOut, cleanBlk, hf, ren, ren2, ren1]
end Go.Gh


/- The program's stages: a copy, the first one, the order at the end. -/
namespace Go.Gh
open Go.Proofs
set_option linter.unusedSimpArgs false
set_option linter.unusedVariables false
set_option linter.unnecessarySimpa false
set_option maxRecDepth 100000
set_option maxHeartbeats 4000000

variable {c : Nat} {H : Heap}

def stbox (r : Rite) (s : Scene) : Blk := .box [.pure (.int .i64 r.wide), .pure (.int .i64 r.deep), .pure (.slice (r.people.map Person.row)), .pure (.slice (r.things.map Thing.row)), .pure (.slice (r.seen.map irow)), .pure (.slice (r.lapses.map irow)), .pure (.slice (r.acts.map RAct.row)), .pure (.slice (s.people.map irow)), .pure (.slice (s.hands.map Hands.row)), .pure (.slice (s.things.map Spot.row))]

/-- A scene whose lists are not empty, and not long. -/
structure Full (s : Scene) : Prop where
  p0 : s.people ≠ []
  h0 : s.hands ≠ []
  t0 : s.things ≠ []
  pl : s.people.length ≤ 1000000
  hl : s.hands.length ≤ 1000000
  tl : s.things.length ≤ 1000000

theorem copied_ok (r : Rite) {s : Scene} (h : Full s) (hH : 0 < H.length) (hf1 : H.get (H.length - 1, newKey c 28679) = none) (hf2 : H.get (H.length - 1, newKey c 28683) = none) (hf3 : H.get (H.length - 1, newKey c 28687) = none) :
    gcall KC (geval KC) 52 [.pure (.agg (stRow r s))] c H = some (stG r (H.length - 1, newKey c 28679) (H.length - 1, newKey c 28683) (H.length - 1, newKey c 28687) s,
      scSet H (H.length - 1, newKey c 28679) (H.length - 1, newKey c 28683) (H.length - 1, newKey c 28687) 0 0 0 s) := by
  refine WPv_eq (call_enter KC needT Try.func52 rfl rfl good52 rfl rfl rfl (by simp) hH ?_)
  have n12 : newKey c 28679 ≠ newKey c 28683 := by unfold newKey; omega
  have n13 : newKey c 28679 ≠ newKey c 28687 := by unfold newKey; omega
  have n23 : newKey c 28683 ≠ newKey c 28687 := by unfold newKey; omega
  have k1 : (H.length - 1, newKey c 28683) ≠ ((H.length - 1, newKey c 28679) : Nm) := fun e => n12 (Prod.mk.inj e).2.symm
  have k2 : (H.length - 1, newKey c 28687) ≠ ((H.length - 1, newKey c 28679) : Nm) := fun e => n13 (Prod.mk.inj e).2.symm
  have k3 : (H.length - 1, newKey c 28687) ≠ ((H.length - 1, newKey c 28683) : Nm) := fun e => n23 (Prod.mk.inj e).2.symm
  have g2 : ∀ b, (H.set (H.length - 1, newKey c 28679) b).get (H.length - 1, newKey c 28683) = none := fun b => (Heap.get_set_other b k1).trans hf2
  have g3 : ∀ b b', ((H.set (H.length - 1, newKey c 28679) b).set (H.length - 1, newKey c 28683) b').get (H.length - 1, newKey c 28687) = none := fun b b' => (Heap.get_set_other b' k3).trans ((Heap.get_set_other b k2).trans hf3)
  have m1 : newKey 6 7 = 28679 := by decide
  have m2 : newKey 10 7 = 28683 := by decide
  have m3 : newKey 14 7 = 28687 := by decide
  have C1 := fun (F : Fr) (hf : F.get 28679 = none) => cloneint_ok (c := 6) (H := F :: H) s.people h.p0 h.pl (by simp) (by simp [m1, hf])
  have C2 := fun (F : Fr) (hf : F.get 28683 = none) => cloneHint_ok (c := 10) (H := F :: H) s.hands h.h0 h.hl (by simp) (by simp [m2, hf])
  have C3 := fun (F : Fr) (hf : F.get 28687 = none) => cloneSpot_ok (c := 14) (H := F :: H) s.things h.t0 h.tl (by simp) (by simp [m3, hf])
  simp [m1, m2, m3] at C1 C2 C3
  unfold stRow
  simp [C1, C2, C3, gleave_keep, refs, refs2, refs1, dedup, moveOut, cleanBlk, hf1, g2, g3, ren, ren2, ren1, scSet, stG]

/-! ### the order at the end -/
def endT (r : Rite) (s : Scene) : Prop := ∀ i, i < r.things.length → s.things.getD i spot0 = ⟨(r.things.getD i thing0).home, (r.things.getD i thing0).want⟩
def endH (s : Scene) : Prop := s.hands = s.hands.map fun _ => empty
noncomputable def ordV : Rite → Scene → Bool := hid fun r s => decide (s.hands = s.hands.map fun _ => empty) && decide (∀ i, i < r.things.length → s.things.getD i spot0 = ⟨(r.things.getD i thing0).home, (r.things.getD i thing0).want⟩)
theorem ordV_def (r : Rite) (s : Scene) : ordV r s = (decide (s.hands = s.hands.map fun _ => empty) && decide (∀ i, i < r.things.length → s.things.getD i spot0 = ⟨(r.things.getD i thing0).home, (r.things.getD i thing0).want⟩)) := by rw [ordV, hid_eq]

theorem ordH_loop (r : Rite) (s : Scene) (hn : s.hands.length ≤ 1000000) (Q : GX → GSt → Prop) : ∀ k i : Nat, i + k = s.hands.length →
    ((∀ j, i ≤ j → j < s.hands.length → s.hands.getD j hands0 = empty) → Q (.exit 0) ⟨[(1, .bptr (H.length, 1) 0), (2, gdead)], [(1, stbox r s)] :: H, 41⟩) →
    (¬ (∀ j, i ≤ j → j < s.hands.length → s.hands.getD j hands0 = empty) → Q .ret ⟨[(1, .bptr (H.length, 1) 0), (2, .pure (.bool false))], [(1, stbox r s)] :: H, 41⟩) →
    WPL KC needT 74 (lp Try.f74 0) [1, 9, 10, 11] [1, 2] Q [(1, .bptr (H.length, 1) 0), (9, .pure (.slice (s.hands.map Hands.row))), (10, .pure (.int .i64 s.hands.length)), (11, .pure (.int .i64 i))] ([(1, stbox r s)] :: H) 41 := by
  intro k
  induction k with
  | zero =>
    intro i hi h1 h2
    apply WPL_step
    conv => arg 4; whnf
    have : ¬ i < s.hands.length := by omega
    simp [this, stbox]
    simpa [stbox] using h1 (fun j a b => by omega)
  | succ k ih =>
    intro i hi h1 h2
    have hia : i < s.hands.length := by omega
    have hw := w64 (x := (i : Int) + 1) (by omega) (by omega)
    have hg := getD_lt (d := hands0) hia
    apply WPL_step
    conv => arg 4; whnf
    by_cases e1 : s.hands[i].l = -1
    · by_cases e2 : s.hands[i].r = -1
      · have he : s.hands.getD i hands0 = empty := by rw [hg]; cases hh : s.hands[i]; rw [hh] at e1 e2; simp only at e1 e2; rw [e1, e2]; rfl
        have ih' := ih (i + 1) (by omega) (fun h => h1 fun j a b => by
          by_cases e : j = i
          · rw [e]; exact he
          · exact h j (by omega) b) (fun h => h2 fun h' => h fun j a b => h' j (by omega) b)
        simp [hia, Hands.row, hw, stbox, e1, e2]
        simpa [Hands.row, stbox] using ih'
      · have e2' : (s.hands[i].r == -1) = false := by simpa using e2
        simp [hia, Hands.row, stbox, e1, e2']
        simpa [stbox] using h2 fun h' => by
          have := h' i (Nat.le_refl _) hia
          rw [hg] at this
          rw [this] at e2; exact e2 rfl
    · have e1' : (s.hands[i].l == -1) = false := by simpa using e1
      simp [hia, Hands.row, stbox, e1']
      simpa [stbox] using h2 fun h' => by
        have := h' i (Nat.le_refl _) hia
        rw [hg] at this
        rw [this] at e1; exact e1 rfl
theorem ordT_loop (r : Rite) (s : Scene) (hn : r.things.length ≤ 1000000) (hst : s.things.length = r.things.length) (Q : GX → GSt → Prop) : ∀ k i : Nat, i + k = r.things.length →
    ((∀ j, i ≤ j → j < r.things.length → s.things.getD j spot0 = ⟨(r.things.getD j thing0).home, (r.things.getD j thing0).want⟩) → Q (.exit 2) ⟨[(2, gdead)], [(1, stbox r s)] :: H, 41⟩) →
    (¬ (∀ j, i ≤ j → j < r.things.length → s.things.getD j spot0 = ⟨(r.things.getD j thing0).home, (r.things.getD j thing0).want⟩) → Q .ret ⟨[(2, .pure (.bool false))], [(1, stbox r s)] :: H, 41⟩) →
    WPL KC needT 74 (lp Try.f74 1) [1, 21, 22, 23] [2] Q [(1, .bptr (H.length, 1) 0), (21, .pure (.slice (r.things.map Thing.row))), (22, .pure (.int .i64 r.things.length)), (23, .pure (.int .i64 i))] ([(1, stbox r s)] :: H) 41 := by
  intro k
  induction k with
  | zero =>
    intro i hi h1 h2
    apply WPL_step
    conv => arg 4; whnf
    have : ¬ i < r.things.length := by omega
    simp [this, stbox]
    simpa [stbox] using h1 (fun j a b => by omega)
  | succ k ih =>
    intro i hi h1 h2
    have hia : i < r.things.length := by omega
    have his : i < s.things.length := by omega
    have hw := w64 (x := (i : Int) + 1) (by omega) (by omega)
    have hg := getD_lt (d := thing0) hia
    have hg2 := getD_lt (d := spot0) his
    apply WPL_step
    conv => arg 4; whnf
    by_cases e1 : s.things[i].cell = r.things[i].home
    · by_cases e2 : s.things[i].state = r.things[i].want
      · have he : s.things.getD i spot0 = ⟨(r.things.getD i thing0).home, (r.things.getD i thing0).want⟩ := by rw [hg, hg2, ← e1, ← e2]
        have ih' := ih (i + 1) (by omega) (fun h => h1 fun j a b => by
          by_cases e : j = i
          · rw [e]; exact he
          · exact h j (by omega) b) (fun h => h2 fun h' => h fun j a b => h' j (by omega) b)
        simp [hia, his, Thing.row, Spot.row, hw, stbox, e1, e2]
        simpa [Thing.row, Spot.row, stbox] using ih'
      · have e2' : (s.things[i].state == r.things[i].want) = false := by simpa using e2
        simp [hia, his, Thing.row, Spot.row, stbox, e1, e2']
        simpa [stbox] using h2 fun h' => by
          have := h' i (Nat.le_refl _) hia
          rw [hg, hg2] at this
          rw [this] at e2; exact e2 rfl
    · have e1' : (s.things[i].cell == r.things[i].home) = false := by simpa using e1
      simp [hia, his, Thing.row, Spot.row, stbox, e1']
      simpa [stbox] using h2 fun h' => by
        have := h' i (Nat.le_refl _) hia
        rw [hg, hg2] at this
        rw [this] at e1; exact e1 rfl
theorem ordered_ok (r : Rite) (s : Scene) (hn : r.things.length ≤ 1000000) (hn2 : s.hands.length ≤ 1000000) (hst : s.things.length = r.things.length) (hH : 0 < H.length) :
    gcall KC (geval KC) 74 [.pure (.agg (stRow r s))] c H = some (.pure (.bool (ordV r s)), H) := by
  refine bor_c rfl rfl rfl rfl rfl hH fun H hH => ?_
  refine WPv_eq (call_enter0 KC needT Try.func74 rfl rfl good74 (by simp) hH ?_)
  have hd := ordV_def r s
  have eh : (∀ j, 0 ≤ j → j < s.hands.length → s.hands.getD j hands0 = empty) ↔ endH s := by
    unfold endH
    constructor
    · intro h
      refine List.ext_getElem (by simp) fun j h1 h2 => ?_
      have := h j (Nat.zero_le _) h1
      rw [getD_lt h1] at this
      simp [this]
    · intro h j _ hj
      rw [getD_lt hj]
      have : s.hands[j]'hj = (s.hands.map fun _ => empty)[j]'(by simpa using hj) := by congr 1
      rw [this]; simp
  have et : (∀ j, 0 ≤ j → j < r.things.length → s.things.getD j spot0 = ⟨(r.things.getD j thing0).home, (r.things.getD j thing0).want⟩) ↔ endT r s := ⟨fun h i hi => h i (Nat.zero_le _) hi, fun h i _ hi => h i hi⟩
  have L1 := fun Q => ordH_loop (H := H) r s hn2 Q s.hands.length 0 (by omega)
  rw [eh] at L1
  have L2 := fun Q => ordT_loop (H := H) r s hn hst Q r.things.length 0 (by omega)
  rw [et] at L2
  unfold stRow
  simp
  simp [stbox] at L1 L2
  refine L1 _ (fun h => ?_) (fun h => ?_)
  · simp
    refine L2 _ (fun h2 => ?_) (fun h2 => ?_)
    · have : ordV r s = true := by rw [hd, decide_eq_true (p := s.hands = s.hands.map fun _ => empty) h, Bool.true_and]; exact decide_eq_true (p := ∀ i, i < r.things.length → s.things.getD i spot0 = ⟨(r.things.getD i thing0).home, (r.things.getD i thing0).want⟩) h2
      simp [gleave_free, this]
    · have : ordV r s = false := by
        rw [hd, Bool.and_eq_false_iff]; right
        exact decide_eq_false (p := ∀ i, i < r.things.length → s.things.getD i spot0 = ⟨(r.things.getD i thing0).home, (r.things.getD i thing0).want⟩) h2
      simp [gleave_free, this]
  · have : ordV r s = false := by
      rw [hd, Bool.and_eq_false_iff]; left
      exact decide_eq_false (p := s.hands = s.hands.map fun _ => empty) h
    simp [gleave_free, this]
end Go.Gh


/- The program's stages: the first one. -/
namespace Go.Gh
open Go.Proofs
set_option linter.unusedSimpArgs false
set_option linter.unusedVariables false
set_option linter.unnecessarySimpa false
set_option maxRecDepth 100000
set_option maxHeartbeats 4000000

variable {c : Nat} {H : Heap}

theorem apK_2 {l key es bytes key2 es2 : Nat} {rows rows2 : List (List PV)} {r : List PV} {X f0 : Fr} (hl : H.length = l) (hne : key ≠ key2) (hf : X.get key = none) (hb : (rows.length + 1) * bytes ≤ 1099511627776) :
    apK l key (apS (l, key) es rows) es bytes [r] (f0 :: apF key2 es2 rows2 (apF key es rows X) :: H) = some (apS (l, key) es (rows ++ [r]), f0 :: apF key2 es2 rows2 (apF key es (rows ++ [r]) X) :: H) := by
  subst hl
  have g : ∀ rows, (apF key2 es2 rows2 (apF key es rows X)).get key = (apF key es rows X).get key := fun rows => apF_get hne
  have hh : ∀ Fx : Fr, Heap.get (f0 :: Fx :: H) (H.length, key) = Fx.get key := fun Fx => by simp
  rw [apK_apS (fun h => (hh _).trans ((g _).trans (by rw [h, apF_nil, hf]))) (fun h => (hh _).trans ((g _).trans (apF_self h))) (by simp; omega) hb]
  have e : (apF key2 es2 rows2 (apF key es rows X)).ins key (.arr es (rows ++ [r]) 0 false) = apF key2 es2 rows2 (apF key es (rows ++ [r]) X) := by
    rw [apF_ins hne, apF_ins_self]
    congr 1
    unfold apF
    simp
  simp [e]

def zst : Blk := .box [.pure (.int .i64 0), .pure (.int .i64 0), .nils, .nils, .nils, .nils, .nils, .nils, .nils, .nils]
def fst1 (r : Rite) (L : Nat) (p : List Int) (h : List Hands) : Fr := apF 31 2 (h.map Hands.row) (apF 23 1 (p.map irow) [(1, rbox r), (2, zst), (3, .box [.pure (.int .i64 r.wide), .pure (.int .i64 r.deep), .pure (.slice (r.people.map Person.row)), .pure (.slice (r.things.map Thing.row)), .pure (.slice (r.seen.map irow)), .pure (.slice (r.lapses.map irow)), .pure (.slice (r.acts.map RAct.row)), apS (L, 23) 1 (p.map irow), apS (L, 31) 2 (h.map Hands.row), .nils])])
theorem fst_loop1 (r : Rite) (hpl : r.people.length ≤ 1000000) (Q : GX → GSt → Prop) : ∀ (k i : Nat) (p : List Int) (h : List Hands), i + k = r.people.length → p.length = i → h.length = i →
    Q (.exit 0) ⟨[(1, .bptr (H.length, 1) 0), (2, .bptr (H.length, 2) 0), (3, .bptr (H.length, 3) 0)], fst1 r H.length (p ++ (r.people.drop i).map (·.cell)) (h ++ (r.people.drop i).map fun _ => empty) :: H, 56⟩ →
    WPL KC needT 72 (lp Try.f72 0) [1, 2, 3, 11, 12, 13] [1, 2, 3] Q [(1, .bptr (H.length, 1) 0), (2, .bptr (H.length, 2) 0), (3, .bptr (H.length, 3) 0), (11, .pure (.slice (r.people.map Person.row))), (12, .pure (.int .i64 r.people.length)), (13, .pure (.int .i64 i))] (fst1 r H.length p h :: H) 56 := by
  intro k
  induction k with
  | zero =>
    intro i p h hi hp hh hq
    have e1 : r.people.drop i = [] := List.drop_of_length_le (by omega)
    rw [e1] at hq
    apply WPL_step
    conv => arg 4; whnf
    have : ¬ i < r.people.length := by omega
    simp [this, fst1]
    simpa [fst1] using hq
  | succ k ih =>
    intro i p h hi hp hh hq
    have hia : i < r.people.length := by omega
    have hw := w64 (x := (i : Int) + 1) (by omega) (by omega)
    have e1 : r.people.drop i = r.people[i] :: r.people.drop (i + 1) := List.drop_eq_getElem_cons hia
    have ih' := ih (i + 1) (p ++ [r.people[i].cell]) (h ++ [empty]) (by omega) (by simp [hp]) (by simp [hh]) (by rw [e1, List.map_cons, List.map_cons] at hq; rw [List.append_assoc, List.append_assoc]; exact hq)
    have b1 : (p.length + 1) * 8 ≤ 1099511627776 := by omega
    have b2 : (h.length + 1) * 16 ≤ 1099511627776 := by omega
    have K1 := fun (f0 X : Fr) hf => apK_2 (H := H) (l := H.length) (key := 23) (es := 1) (bytes := 8) (key2 := 31) (es2 := 2) (rows := p.map irow) (rows2 := h.map Hands.row) (r := [.int .i64 r.people[i].cell]) (X := X) (f0 := f0) rfl (by decide) hf (by simpa using b1)
    have K2 := fun (f0 X : Fr) hf => apK_1 (H := H) (l := H.length) (key := 31) (es := 2) (bytes := 16) (rows := h.map Hands.row) (r := [.int .i64 (-1), .int .i64 (-1)]) (fr := X) (f0 := f0) rfl hf (by simpa using b2)
    apply WPL_step
    conv => arg 4; whnf
    simp [fst1, irow, Hands.row, empty] at ih'
    simp [hia, Person.row, fst1, hw, K1, K2]
    exact ih'
def fst2 (r : Rite) (L : Nat) (p : List Int) (h : List Hands) (t : List Spot) : Fr := apF 51 2 (t.map Spot.row) (apF 31 2 (h.map Hands.row) (apF 23 1 (p.map irow) [(1, rbox r), (2, zst), (3, .box [.pure (.int .i64 r.wide), .pure (.int .i64 r.deep), .pure (.slice (r.people.map Person.row)), .pure (.slice (r.things.map Thing.row)), .pure (.slice (r.seen.map irow)), .pure (.slice (r.lapses.map irow)), .pure (.slice (r.acts.map RAct.row)), apS (L, 23) 1 (p.map irow), apS (L, 31) 2 (h.map Hands.row), apS (L, 51) 2 (t.map Spot.row)])]))
theorem fst_loop2 (r : Rite) (htl : r.things.length ≤ 1000000) (p : List Int) (h : List Hands) (Q : GX → GSt → Prop) : ∀ (k i : Nat) (t : List Spot), i + k = r.things.length → t.length = i →
    Q (.exit 2) ⟨[(2, .bptr (H.length, 2) 0), (3, .bptr (H.length, 3) 0)], fst2 r H.length p h (t ++ (r.things.drop i).map spotOf) :: H, 56⟩ →
    WPL KC needT 72 (lp Try.f72 1) [2, 3, 36, 37, 38] [2, 3] Q [(2, .bptr (H.length, 2) 0), (3, .bptr (H.length, 3) 0), (36, .pure (.slice (r.things.map Thing.row))), (37, .pure (.int .i64 r.things.length)), (38, .pure (.int .i64 i))] (fst2 r H.length p h t :: H) 56 := by
  intro k
  induction k with
  | zero =>
    intro i t hi ht hq
    have e1 : r.things.drop i = [] := List.drop_of_length_le (by omega)
    rw [e1] at hq
    apply WPL_step
    conv => arg 4; whnf
    have : ¬ i < r.things.length := by omega
    simp [this, fst2]
    simpa [fst2] using hq
  | succ k ih =>
    intro i t hi ht hq
    have hia : i < r.things.length := by omega
    have hw := w64 (x := (i : Int) + 1) (by omega) (by omega)
    have e1 : r.things.drop i = r.things[i] :: r.things.drop (i + 1) := List.drop_eq_getElem_cons hia
    have ih' := ih (i + 1) (t ++ [spotOf r.things[i]]) (by omega) (by simp [ht]) (by rw [e1, List.map_cons] at hq; rw [List.append_assoc]; exact hq)
    have b2 : (t.length + 1) * 16 ≤ 1099511627776 := by omega
    have K2 := fun (f0 X : Fr) hf => apK_1 (H := H) (l := H.length) (key := 51) (es := 2) (bytes := 16) (rows := t.map Spot.row) (r := [.int .i64 r.things[i].cell, .int .i64 r.things[i].state]) (fr := X) (f0 := f0) rfl hf (by simpa using b2)
    apply WPL_step
    conv => arg 4; whnf
    simp [fst2, Spot.row, spotOf] at ih'
    simp [hia, Thing.row, fst2, hw, K2]
    exact ih'

theorem firstP_ok (r : Rite) (hp0 : r.people ≠ []) (ht0 : r.things ≠ []) (hpl : r.people.length ≤ 1000000) (htl : r.things.length ≤ 1000000) (hH : 0 < H.length)
    (hf1 : H.get (H.length - 1, newKey c 23) = none) (hf2 : H.get (H.length - 1, newKey c 31) = none) (hf3 : H.get (H.length - 1, newKey c 51) = none) :
    gcall KC (geval KC) 72 [.pure (.agg r.row)] c H = some (stG r (H.length - 1, newKey c 23) (H.length - 1, newKey c 31) (H.length - 1, newKey c 51) (firstV r),
      scSet H (H.length - 1, newKey c 23) (H.length - 1, newKey c 31) (H.length - 1, newKey c 51) 0 0 0 (firstV r)) := by
  refine WPv_eq (call_enter KC needT Try.func72 rfl rfl good72 rfl rfl rfl (by simp) hH ?_)
  rw [rowR]
  have L1 := fun Q h => fst_loop1 (H := H) r hpl Q r.people.length 0 [] [] (by omega) rfl rfl h
  simp [fst1, apS_nil, apF_nil, rbox, zst] at L1
  simp
  refine L1 _ ?_
  clear L1
  have L2 := fun p h Q hh => fst_loop2 (H := H) r htl p h Q r.things.length 0 [] (by omega) rfl hh
  simp [fst2, apS_nil, apF_nil, rbox, zst] at L2
  simp
  have L3 := L2 (r.people.map (·.cell)) (r.people.map fun _ => empty)
  simp at L3
  refine L3 _ ?_
  clear L2 L3
  have n12 : newKey c 23 ≠ newKey c 31 := by unfold newKey; omega
  have n13 : newKey c 23 ≠ newKey c 51 := by unfold newKey; omega
  have n23 : newKey c 31 ≠ newKey c 51 := by unfold newKey; omega
  have k1 : (H.length - 1, newKey c 31) ≠ ((H.length - 1, newKey c 23) : Nm) := fun e => n12 (Prod.mk.inj e).2.symm
  have k2 : (H.length - 1, newKey c 51) ≠ ((H.length - 1, newKey c 23) : Nm) := fun e => n13 (Prod.mk.inj e).2.symm
  have k3 : (H.length - 1, newKey c 51) ≠ ((H.length - 1, newKey c 31) : Nm) := fun e => n23 (Prod.mk.inj e).2.symm
  have g2 : ∀ b, (H.set (H.length - 1, newKey c 23) b).get (H.length - 1, newKey c 31) = none := fun b => (Heap.get_set_other b k1).trans hf2
  have g3 : ∀ b b', ((H.set (H.length - 1, newKey c 23) b).set (H.length - 1, newKey c 31) b').get (H.length - 1, newKey c 51) = none := fun b b' => (Heap.get_set_other b' k3).trans ((Heap.get_set_other b k2).trans hf3)
  simp [apS, apF, hp0, ht0, gleave_keep, refs, refs2, refs1, dedup, moveOut, cleanBlk, hf1, g2, g3, ren, ren2, ren1, scSet, stG, firstV]
end Go.Gh


/- The program's minutes: what was touched before. -/
namespace Go.Gh
open Go.Proofs
set_option linter.unusedSimpArgs false
set_option linter.unusedVariables false
set_option linter.unnecessarySimpa false
set_option maxRecDepth 100000
set_option maxHeartbeats 4000000

variable {c : Nat} {H : Heap}

/-! ### what was touched, as a map -/
def ents (tk : List (Int × Int)) : List (PV × GV) := tk.map fun x => (.agg [.int .i64 x.1, .int .i64 x.2], .pure (.bool true))
theorem find_ents (a b : Int) : ∀ (tk : List (Int × Int)) (i : Nat), findEntry (.agg [.int .i64 a, .int .i64 b]) (ents tk) i = some (if (a, b) ∈ tk then some (i + tk.idxOf (a, b), .pure (.bool true)) else none)
  | [], i => by simp [ents, findEntry]
  | (p, q) :: tk, i => by
    have ih := find_ents a b tk (i + 1)
    unfold ents at ih ⊢
    rw [List.map_cons]
    unfold findEntry
    by_cases h : a = p ∧ b = q
    · obtain ⟨rfl, rfl⟩ := h
      simp [keyEq, rowEq]
    · have h' : (a == p && b == q) = false := by
        rw [Bool.and_eq_false_iff]
        by_cases e : a = p
        · right; simpa using fun e2 => h ⟨e, e2⟩
        · left; simpa using e
      have hne : ¬ (a, b) = (p, q) := fun e => h ⟨(Prod.mk.inj e).1, (Prod.mk.inj e).2⟩
      have hne' : ¬ (p, q) = (a, b) := fun e => hne e.symm
      simp only [keyEq, rowEq, if_true, Bool.and_true, h', ih, List.mem_cons, hne, false_or]
      have hb : ((p, q) == (a, b)) = false := by simpa using hne'
      simp only [List.idxOf_cons, hb, cond_false, Option.some.injEq]
      by_cases hm : (a, b) ∈ tk
      · simp [hm]; omega
      · simp [hm]
def insT (tk : List (Int × Int)) (x : Int × Int) : List (Int × Int) := if x ∈ tk then tk else tk ++ [x]
theorem insT_mem {tk : List (Int × Int)} {x y : Int × Int} : y ∈ insT tk x ↔ y ∈ tk ∨ y = x := by
  unfold insT
  split
  · rename_i h
    constructor
    · exact .inl
    · rintro (h' | rfl)
      · exact h'
      · exact h
  · simp
def insTs (tk l : List (Int × Int)) : List (Int × Int) := l.foldl insT tk
theorem insTs_mem {y : Int × Int} : ∀ {l tk : List (Int × Int)}, y ∈ insTs tk l ↔ y ∈ tk ∨ y ∈ l
  | [], tk => by simp [insTs]
  | x :: l, tk => by
    show y ∈ insTs (insT tk x) l ↔ _
    rw [insTs_mem, insT_mem]
    simp only [List.mem_cons]
    constructor
    · rintro ((h | h) | h)
      · exact .inl h
      · exact .inr (.inl h)
      · exact .inr (.inr h)
    · rintro (h | h | h)
      · exact .inl (.inl h)
      · exact .inl (.inr h)
      · exact .inr h
theorem ents_set {tk : List (Int × Int)} {a b : Int} (h : (a, b) ∈ tk) : (ents tk).set (tk.idxOf (a, b)) (.agg [.int .i64 a, .int .i64 b], .pure (.bool true)) = ents tk := by
  have hl : tk.idxOf (a, b) < tk.length := List.idxOf_lt_length_iff.2 h
  unfold ents
  refine List.ext_getElem (by simp) fun j h1 h2 => ?_
  rw [List.getElem_set]
  split
  · rename_i e
    subst e
    simp [List.getElem_idxOf]
  · rfl
theorem ents_app {tk : List (Int × Int)} {a b : Int} : ents tk ++ [(.agg [.int .i64 a, .int .i64 b], .pure (.bool true))] = ents (tk ++ [(a, b)]) := by simp [ents]

/-- The slots of a round. -/
def mns (L : Nat) (g : List RAct) (n i : Nat) (l : List (Int × Int)) : Slots := [(2, .bptr (L, 2) 0), (4, .bptr (L, 4) 0), (7, .bptr (L, 7) 0), (8, .map (L, 18)), (9, .pure (.int .i64 i)), (10, .bptr (L + 1, 10) 0), (11, .pure (.slice (l.map pairRow))), (19, .pure (.slice (g.map RAct.row))), (20, .pure (.int .i64 n)), (21, .pure (.int .i64 i))]

structure MF (F : Fr) (r : Rite) (s : Scene) (tk : List (Int × Int)) : Prop where
  g2 : F.get 2 = some (stbox r s)
  g4 : F.get 4 = some zst
  gm : F.get 18 = some (.map (ents tk))

theorem seen_loop {F : Fr} {r : Rite} {s : Scene} {tk : List (Int × Int)} (hF : MF F r s tk) (a : RAct) (g : List RAct) (n i : Nat) (l : List (Int × Int)) (hl : l.length ≤ 1000) (Q : GX → GSt → Prop) : ∀ k j : Nat, j + k = l.length →
    ((∀ x ∈ l.drop j, x ∉ tk) → Q (.exit 2) ⟨[(2, .bptr (H.length, 2) 0), (4, .bptr (H.length, 4) 0), (5, gdead), (6, gdead), (7, .bptr (H.length, 7) 0), (8, .map (H.length, 18)), (10, .bptr (H.length + 1, 10) 0), (11, .pure (.slice (l.map pairRow))), (19, .pure (.slice (g.map RAct.row))), (20, .pure (.int .i64 n)), (21, .pure (.int .i64 i))], [(10, abox a)] :: F :: H, 65⟩) →
    (¬ (∀ x ∈ l.drop j, x ∉ tk) → Q .ret ⟨[(2, .bptr (H.length, 2) 0), (4, .bptr (H.length, 4) 0), (5, .pure (.int .i64 i)), (6, .pure (.int .i64 12)), (7, .bptr (H.length, 7) 0), (8, .map (H.length, 18)), (10, .bptr (H.length + 1, 10) 0), (11, .pure (.slice (l.map pairRow))), (19, .pure (.slice (g.map RAct.row))), (20, .pure (.int .i64 n)), (21, .pure (.int .i64 i))], [(10, abox a)] :: F.ins 4 (stbox r s) :: H, 65⟩) →
    WPL KC needT 88 (lp Try.f88 1) [2, 4, 7, 8, 9, 10, 11, 19, 20, 21, 35, 36, 37] [2, 4, 5, 6, 7, 8, 10, 11, 19, 20, 21] Q
      [(2, .bptr (H.length, 2) 0), (4, .bptr (H.length, 4) 0), (7, .bptr (H.length, 7) 0), (8, .map (H.length, 18)), (9, .pure (.int .i64 i)), (10, .bptr (H.length + 1, 10) 0), (11, .pure (.slice (l.map pairRow))), (19, .pure (.slice (g.map RAct.row))), (20, .pure (.int .i64 n)), (21, .pure (.int .i64 i)), (35, .pure (.slice (l.map pairRow))), (36, .pure (.int .i64 l.length)), (37, .pure (.int .i64 j))] ([(10, abox a)] :: F :: H) 65 := by
  have g2 := hF.g2
  have g4 := hF.g4
  have gm := hF.gm
  intro k
  induction k with
  | zero =>
    intro j hj h1 h2
    apply WPL_step
    conv => arg 4; whnf
    have hnl : ¬ j < l.length := by omega
    have e : l.drop j = [] := List.drop_of_length_le (by omega)
    simp [hnl]
    simpa [abox] using h1 (by rw [e]; simp)
  | succ k ih =>
    intro j hj h1 h2
    have hja : j < l.length := by omega
    have hw := w64 (x := (j : Int) + 1) (by omega) (by omega)
    have ed : l.drop j = l[j] :: l.drop (j + 1) := List.drop_eq_getElem_cons hja
    have ne : ¬ H.length = H.length + 1 := by omega
    simp only [stbox] at g2
    simp only [zst] at g4
    apply WPL_step
    conv => arg 4; whnf
    by_cases hm : l[j] ∈ tk
    · have hm' : (l[j].1, l[j].2) ∈ tk := hm
      have h2' := h2 (fun h => h l[j] (by rw [ed]; exact List.mem_cons_self ..) hm)
      simp only [stbox, abox] at h2'
      simp [hja, pairRow, gm, find_ents, hm', mapOf, ne, g2, g4, splice, abox]
      exact h2'
    · have hm' : ¬ (l[j].1, l[j].2) ∈ tk := hm
      have ih' := ih (j + 1) (by omega) (fun h => h1 fun x hx => by
        rw [ed] at hx
        rcases List.mem_cons.1 hx with rfl | hx
        · exact hm
        · exact h x hx) (fun h => h2 fun h' => h fun x hx => h' x (by rw [ed]; exact List.mem_cons_of_mem _ hx))
      simp [hja, pairRow, gm, find_ents, hm', mapOf, ne, hw, abox]
      simpa [pairRow, abox] using ih'

/-- The slots of the third loop. -/
theorem put_loop {a : RAct} (g : List RAct) (n i : Nat) (l : List (Int × Int)) (hl : l.length ≤ 1000) (Q : GX → GSt → Prop) : ∀ (k j : Nat) (F : Fr) (tk : List (Int × Int)), j + k = l.length → F.srt → F.get 18 = some (.map (ents tk)) →
    Q (.exit 4) ⟨[(2, .bptr (H.length, 2) 0), (4, .bptr (H.length, 4) 0), (7, .bptr (H.length, 7) 0), (8, .map (H.length, 18)), (10, .bptr (H.length + 1, 10) 0), (19, .pure (.slice (g.map RAct.row))), (20, .pure (.int .i64 n)), (21, .pure (.int .i64 i))], [(10, abox a)] :: F.ins 18 (.map (ents (insTs tk (l.drop j)))) :: H, 65⟩ →
    WPL KC needT 88 (lp Try.f88 2) [2, 4, 7, 8, 10, 19, 20, 21, 47, 48, 49] [2, 4, 7, 8, 10, 19, 20, 21] Q
      [(2, .bptr (H.length, 2) 0), (4, .bptr (H.length, 4) 0), (7, .bptr (H.length, 7) 0), (8, .map (H.length, 18)), (10, .bptr (H.length + 1, 10) 0), (19, .pure (.slice (g.map RAct.row))), (20, .pure (.int .i64 n)), (21, .pure (.int .i64 i)), (47, .pure (.slice (l.map pairRow))), (48, .pure (.int .i64 l.length)), (49, .pure (.int .i64 j))] ([(10, abox a)] :: F :: H) 65 := by
  intro k
  induction k with
  | zero =>
    intro j F tk hj hs gm h1
    apply WPL_step
    conv => arg 4; whnf
    have hnl : ¬ j < l.length := by omega
    have e : l.drop j = [] := List.drop_of_length_le (by omega)
    rw [e, show insTs tk [] = tk from rfl, Fr.ins_same hs gm] at h1
    simp only [abox] at h1
    simp [hnl, abox]
    exact h1
  | succ k ih =>
    intro j F tk hj hs gm h1
    have hja : j < l.length := by omega
    have hw := w64 (x := (j : Int) + 1) (by omega) (by omega)
    have ed : l.drop j = l[j] :: l.drop (j + 1) := List.drop_eq_getElem_cons hja
    have ne : ¬ H.length = H.length + 1 := by omega
    rw [ed, show insTs tk (l[j] :: l.drop (j + 1)) = insTs (insT tk l[j]) (l.drop (j + 1)) from rfl] at h1
    have ih' := ih (j + 1) (F.ins 18 (.map (ents (insT tk l[j])))) (insT tk l[j]) (by omega) (Fr.ins_srt hs) (Fr.get_ins ..) (by rw [Fr.ins_ins]; exact h1)
    apply WPL_step
    conv => arg 4; whnf
    by_cases hm : l[j] ∈ tk
    · have hm' : (l[j].1, l[j].2) ∈ tk := hm
      have e2 : insT tk l[j] = tk := by unfold insT; rw [if_pos hm]
      rw [e2] at ih'
      have e3 := ents_set hm'
      simp [hja, pairRow, gm, find_ents, hm', ne, hw, abox, muV, lowerVal, e3]
      simpa [pairRow, abox] using ih'
    · have hm' : ¬ (l[j].1, l[j].2) ∈ tk := hm
      have e2 : insT tk l[j] = tk ++ [(l[j].1, l[j].2)] := by unfold insT; rw [if_neg hm]
      rw [e2] at ih'
      simp [hja, pairRow, gm, find_ents, hm', ne, hw, abox, muV, lowerVal, ents_app]
      simpa [pairRow, abox] using ih'
end Go.Gh


/- The program's minutes. -/
namespace Go.Gh
open Go.Proofs
set_option linter.unusedSimpArgs false
set_option linter.unusedVariables false
set_option linter.unnecessarySimpa false
set_option maxRecDepth 100000
set_option maxHeartbeats 4000000

variable {c : Nat} {H : Heap}

/-! ### what a minute makes -/
noncomputable def minR (r : Rite) (s : Scene) : List RAct → List (Int × Int) → Scene → Nat → Scene × Int × Int
  | [], _, nx, _ => (nx, 0, 0)
  | a :: g, tk, nx, i => if posV r s a.who.toNat a = false then (s, i, 10) else if ∀ x ∈ touchP s a.who.toNat a, x ∉ tk then minR r s g (insTs tk (touchP s a.who.toNat a)) (doV nx a.who.toNat a) (i + 1) else (s, i, 12)

theorem GOk.after {r : Rite} : ∀ {p : List RAct} {s : Scene} {a : RAct}, Snd r s → GOk r s (p ++ [a]) → Snd r (doG s p) ∧ posV r (doG s p) a.who.toNat a = true
  | [], s, a, hS, h => ⟨hS, (h.ab a (by simp)).2⟩
  | b :: p, s, a, hS, h => by
    obtain ⟨h1, h2⟩ := h.tail hS
    show Snd r (doG (doV s b.who.toNat b) p) ∧ posV r (doG (doV s b.who.toNat b) p) a.who.toNat a = true
    exact GOk.after h1 h2

/-- What was touched by acts. -/
def TkOf (s : Scene) (p : List RAct) (tk : List (Int × Int)) : Prop := ∀ x, x ∈ tk ↔ ∃ b ∈ p, x ∈ touchP s b.who.toNat b
theorem TkOf.snoc {s : Scene} {p : List RAct} {tk : List (Int × Int)} {a : RAct} (h : TkOf s p tk) : TkOf s (p ++ [a]) (insTs tk (touchP s a.who.toNat a)) := fun x => by
  rw [insTs_mem, h x]
  simp only [List.mem_append, List.mem_singleton]
  constructor
  · rintro (⟨b, hb, hx⟩ | hx)
    · exact ⟨b, .inl hb, hx⟩
    · exact ⟨a, .inr rfl, hx⟩
  · rintro ⟨b, hb | rfl, hx⟩
    · exact .inl ⟨b, hb, hx⟩
    · exact .inr hx
theorem GOk.snoc {r : Rite} {s : Scene} {p : List RAct} {tk : List (Int × Int)} {a : RAct} (h : GOk r s p) (ht : TkOf s p tk) (hA : AB r a.who.toNat a) (pa : posV r s a.who.toNat a = true) (hd : ∀ x ∈ touchP s a.who.toNat a, x ∉ tk) : GOk r s (p ++ [a]) where
  ab := fun b hb => by
    rcases List.mem_append.1 hb with hb | hb
    · exact h.ab b hb
    · simp only [List.mem_singleton] at hb; subst hb; exact ⟨hA, pa⟩
  ap := by
    rw [List.pairwise_append]
    refine ⟨h.ap, List.pairwise_singleton .., fun b hb x hx => ?_⟩
    simp only [List.mem_singleton] at hx
    subst hx
    exact (touchP_apa.2 fun y h1 h2 => hd y h2 ((ht y).2 ⟨b, hb, h1⟩))

def doF (k : Nat) : Nat := 109 + 2 * (k - 1)
theorem doF_ok {r : Rite} {s : Scene} {w : Nat} {a : RAct} {n1 n2 n3 : Nm} {v1 v2 v3 : Nat} (h : ScSelf H n1 n2 n3 v1 v2 v3 s) (hb : DoB s w a) (hst : ∀ t : Nat, t < s.things.length → 0 ≤ (s.things.getD t spot0).state ∧ (s.things.getD t spot0).state < 16) (hH : 0 < H.length) : DoR H (doF a.kind.toNat) r n1 n2 n3 s w a c := by
  obtain ⟨d1, d2, d3, d4, d5, d6, d7, d8⟩ := doP_ok (r := r) (c := c) h hb hst hH
  rcases kinds8 hb.kind with k | k | k | k | k | k | k | k
  · rw [show doF a.kind.toNat = 109 by rw [k]; rfl]; exact d1 k
  · rw [show doF a.kind.toNat = 111 by rw [k]; rfl]; exact d2 k
  · rw [show doF a.kind.toNat = 113 by rw [k]; rfl]; exact d3 k
  · rw [show doF a.kind.toNat = 115 by rw [k]; rfl]; exact d4 k
  · rw [show doF a.kind.toNat = 117 by rw [k]; rfl]; exact d5 k
  · rw [show doF a.kind.toNat = 119 by rw [k]; rfl]; exact d6 k
  · rw [show doF a.kind.toNat = 121 by rw [k]; rfl]; exact d7 k
  · rw [show doF a.kind.toNat = 123 by rw [k]; rfl]; exact d8 k

/-- The names of the copy. -/
def mq1 : Nat := 117469202
def mq2 : Nat := 117485586
def mq3 : Nat := 117501970
def nxB (L : Nat) (r : Rite) (s : Scene) : Blk := .box [.pure (.int .i64 r.wide), .pure (.int .i64 r.deep), .pure (.slice (r.people.map Person.row)), .pure (.slice (r.things.map Thing.row)), .pure (.slice (r.seen.map irow)), .pure (.slice (r.lapses.map irow)), .pure (.slice (r.acts.map RAct.row)), .hdr (L, mq1) 1 s.people.length 0 s.people.length, .hdr (L, mq2) 2 s.hands.length 0 s.hands.length, .hdr (L, mq3) 2 s.things.length 0 s.things.length]
structure MX (L : Nat) (F : Fr) (r : Rite) (s : Scene) (tk : List (Int × Int)) (nx : Scene) : Prop extends MF F r s tk where
  srt : F.srt
  g7 : F.get 7 = some (nxB L r nx)
  sc : SF F mq1 mq2 mq3 nx

theorem min_loop {r : Rite} {s : Scene} (hS : Snd r s) (hW : WB r) (acts : List RAct) (hal : acts.length ≤ 1000000) (hA : ∀ a ∈ acts, AB r a.who.toNat a) (Q : GX → GSt → Prop) :
    ∀ (k i : Nat) (F : Fr) (tk : List (Int × Int)) (nx : Scene), i + k = acts.length → MX H.length F r s tk nx → TkOf s (acts.take i) tk → GOk r s (acts.take i) → nx = doG s (acts.take i) →
    ((minR r s (acts.drop i) tk nx i).2.2 = 0 → ∀ F', (∃ tk', MX H.length F' r s tk' (minR r s (acts.drop i) tk nx i).1) → GOk r s acts → (minR r s (acts.drop i) tk nx i).1 = doG s acts → Q (.exit 0) ⟨[(4, .bptr (H.length, 4) 0), (5, gdead), (6, gdead), (7, .bptr (H.length, 7) 0)], F' :: H, 65⟩) →
    ((minR r s (acts.drop i) tk nx i).2.2 ≠ 0 → (minR r s (acts.drop i) tk nx i).1 = s → ∀ F', F'.get 4 = some (stbox r s) → Q .ret ⟨[(4, .bptr (H.length, 4) 0), (5, .pure (.int .i64 (minR r s (acts.drop i) tk nx i).2.1)), (6, .pure (.int .i64 (minR r s (acts.drop i) tk nx i).2.2)), (7, .bptr (H.length, 7) 0)], F' :: H, 65⟩) →
    WPL KC needT 88 (lp Try.f88 0) [2, 4, 7, 8, 19, 20, 21] [4, 5, 6, 7] Q
      [(2, .bptr (H.length, 2) 0), (4, .bptr (H.length, 4) 0), (7, .bptr (H.length, 7) 0), (8, .map (H.length, 18)), (19, .pure (.slice (acts.map RAct.row))), (20, .pure (.int .i64 acts.length)), (21, .pure (.int .i64 i))] (F :: H) 65 := by
  intro k
  induction k with
  | zero =>
    intro i F tk nx hi hF hT hG hnx h1 h2
    apply WPL_step
    conv => arg 4; whnf
    have hnl : ¬ i < acts.length := by omega
    have e : acts.drop i = [] := List.drop_of_length_le (by omega)
    have et : acts.take i = acts := List.take_of_length_le (by omega)
    rw [e] at h1
    simp [hnl]
    exact h1 rfl F ⟨tk, hF⟩ (et ▸ hG) (by show nx = _; rw [hnx, et])
  | succ k ih =>
    intro i F tk nx hi hF hT hG hnx h1 h2
    have hia : i < acts.length := by omega
    have hw := w64 (x := (i : Int) + 1) (by omega) (by omega)
    have ed : acts.drop i = acts[i] :: acts.drop (i + 1) := List.drop_eq_getElem_cons hia
    have et : acts.take (i + 1) = acts.take i ++ [acts[i]] := List.take_succ_eq_append_getElem hia
    have ne : ¬ H.length = H.length + 1 := by omega
    obtain ⟨a, ha⟩ : ∃ a, acts[i] = a := ⟨_, rfl⟩
    have hAa : AB r a.who.toNat a := hA a (ha ▸ List.getElem_mem hia)
    obtain ⟨w, hwq⟩ : ∃ w, a.who.toNat = w := ⟨_, rfl⟩
    rw [ha] at ed et
    rw [ed] at h1 h2
    unfold minR at h1 h2
    have g2 := hF.g2
    have g4 := hF.g4
    have g7 := hF.g7
    have M := fun c (H : Heap) (hH : 0 < H.length) => may_ok (c := c) (H := H) hS hW hAa hH
    have T := fun c (H : Heap) (hH : 0 < H.length) => touchesP_ok (c := c) (H := H) hS hAa hH
    have hAk := hAa.kind
    have kk : ((a.kind.toNat : Nat) : Int) = a.kind := by omega
    have W := fun c (H : Heap) (hH : 0 < H.length) => way_ok (c := c) (H := H) (k := a.kind.toNat) (by omega) hH
    rw [kk] at W
    apply WPL_step
    conv => arg 4; whnf
    cases hp : posV r s a.who.toNat a with
    | false =>
      rw [hp] at M
      simp only [hp, if_true] at h2
      have h2' := h2 (by decide) trivial (F.ins 4 (stbox r s)) (Fr.get_ins ..)
      rw [actRow] at M
      simp only [stbox] at g2 h2'
      simp only [zst] at g4
      simp only [stRow] at M
      simp [hia, ha, actRow, ne, g2, g4, M, splice]
      exact h2'
    | true =>
      rw [hp] at M
      obtain ⟨l, hl⟩ : ∃ l, touchP s a.who.toNat a = l := ⟨_, rfl⟩
      have hll : l.length ≤ 1000 := by
        rw [← hl]; unfold touchP
        repeat' split
        all_goals simp
      rw [hl] at T h1 h2
      simp only [hp, Bool.true_eq_false, if_false] at h1 h2
      have L1 := fun Q => seen_loop (H := H) hF.toMF a acts acts.length i l hll Q l.length 0 (by omega)
      simp only [List.drop_zero, abox] at L1
      have hF1s : (F.ins 18 (.map (ents (insTs tk l)))).srt := Fr.ins_srt hF.srt
      rw [actRow] at M T
      simp only [stbox] at g2
      simp only [zst] at g4
      simp only [stRow] at M T
      simp [hia, ha, actRow, ne, g2, g4, M, T]
      refine L1 _ (fun hfr => ?_) (fun hfr => ?_)
      · clear L1
        rw [if_pos hfr] at h1 h2
        have hGs : GOk r s (acts.take (i + 1)) := by rw [et]; exact hG.snoc hT hAa hp (by rw [hl]; exact hfr)
        have hTs : TkOf s (acts.take (i + 1)) (insTs tk l) := by rw [et, ← hl]; exact hT.snoc
        have aft := (GOk.after hS (et ▸ hGs) : Snd r (doG s (acts.take i)) ∧ _)
        rw [← hnx] at aft
        have hD := DoB_of aft.1 hAa aft.2
        have L2 := fun Q => put_loop (H := H) (a := a) acts acts.length i l hll Q l.length 0 F tk (by omega) hF.srt hF.gm
        simp only [List.drop_zero, abox] at L2
        simp [ne]
        refine L2 _ ?_
        clear L2
        have q12 : mq1 ≠ mq2 := by decide
        have q13 : mq1 ≠ mq3 := by decide
        have q23 : mq2 ≠ mq3 := by decide
        have e1 : ∀ k, k ≠ 18 → (F.ins 18 (.map (ents (insTs tk l)))).get k = F.get k := fun k hk => Fr.get_ins_other _ hk _
        have sc1 : SF (F.ins 18 (.map (ents (insTs tk l)))) mq1 mq2 mq3 nx := hF.sc.other (e1 _ (by decide)) (e1 _ (by decide)) (e1 _ (by decide))
        have g71 := (e1 7 (by decide)).trans g7
        have gm1 : (F.ins 18 (.map (ents (insTs tk l)))).get 18 = some (.map (ents (insTs tk l))) := Fr.get_ins ..
        have g21 := (e1 2 (by decide)).trans hF.g2
        have g41 := (e1 4 (by decide)).trans hF.g4
        generalize F.ins 18 (.map (ents (insTs tk l))) = F1 at hF1s sc1 g71 gm1 g21 g41 ⊢
        obtain ⟨u1, u2, u3, SS⟩ := sc1.self (f0 := [(10, abox a)]) (H := H) hF1s q12 q13 q23
        obtain ⟨v1, v2, v3, b1, b2, b3, ed'⟩ := doF_ok (r := r) (c := 62) SS hD aft.1.st (by simp)
        have LD := doV_len (s := nx) (w := a.who.toNat) hAk
        obtain ⟨F2, hF2⟩ : ∃ F2, ((F1.ins mq1 (.arr 1 ((doV nx a.who.toNat a).people.map irow) v1 false)).ins mq2 (.arr 2 ((doV nx a.who.toNat a).hands.map Hands.row) v2 false)).ins mq3 (.arr 2 ((doV nx a.who.toNat a).things.map Spot.row) v3 false) = F2 := ⟨_, rfl⟩
        have hsc : scSet ([(10, abox a)] :: F1 :: H) (H.length, mq1) (H.length, mq2) (H.length, mq3) v1 v2 v3 (doV nx a.who.toNat a) = [(10, abox a)] :: F2 :: H := by
          rw [← hF2]; simp [scSet, ne]
        rw [hsc] at ed'
        have o2 : ∀ k, k ≠ mq1 → k ≠ mq2 → k ≠ mq3 → F2.get k = F1.get k := fun k h1 h2 h3 => by rw [← hF2, Fr.get_ins_other _ h3, Fr.get_ins_other _ h2, Fr.get_ins_other _ h1]
        have enx : nxB H.length r (doV nx a.who.toNat a) = nxB H.length r nx := by simp only [nxB, LD]
        have MX2 : MX H.length F2 r s (insTs tk l) (doV nx a.who.toNat a) := {
          g2 := (o2 2 (by decide) (by decide) (by decide)).trans g21
          g4 := (o2 4 (by decide) (by decide) (by decide)).trans g41
          gm := (o2 18 (by decide) (by decide) (by decide)).trans gm1
          srt := by rw [← hF2]; exact Fr.ins_srt (Fr.ins_srt (Fr.ins_srt hF1s))
          g7 := by rw [enx]; exact (o2 7 (by decide) (by decide) (by decide)).trans g71
          sc := ⟨⟨v1, by omega, by rw [← hF2, Fr.get_ins_other _ q13, Fr.get_ins_other _ q12, Fr.get_ins]⟩, ⟨v2, by omega, by rw [← hF2, Fr.get_ins_other _ q23, Fr.get_ins]⟩, ⟨v3, by omega, by rw [← hF2, Fr.get_ins]⟩⟩ }
        have ih' := ih (i + 1) F2 (insTs tk l) (doV nx a.who.toNat a) (by omega) MX2 hTs hGs (by rw [hnx, et, doG_append]; rfl) h1 h2
        rw [actRow] at ed'
        simp only [nxB] at g71
        simp only [stG, abox, doF] at ed'
        simp [ne, g71, W, ed', hw, doF]
        simpa using ih'
      · clear L1
        rw [if_neg hfr] at h2
        have h2' := h2 (show (12 : Int) ≠ 0 by decide) rfl (F.ins 4 (stbox r s)) (Fr.get_ins ..)
        simp only [stbox] at h2' ⊢
        simp
        exact h2'
end Go.Gh


/- The program's minutes, the whole. -/
namespace Go.Gh
open Go.Proofs
set_option linter.unusedSimpArgs false
set_option linter.unusedVariables false
set_option linter.unnecessarySimpa false
set_option maxRecDepth 100000
set_option maxHeartbeats 4000000

variable {c : Nat} {H : Heap}

theorem doG_len {r : Rite} {s : Scene} {g : List RAct} (hS : Snd r s) (hG : GOk r s g) : (doG s g).people.length = s.people.length ∧ (doG s g).hands.length = s.hands.length ∧ (doG s g).things.length = s.things.length := by
  have a := hG.snd hS
  exact ⟨a.pl.trans hS.pl.symm, a.hl.trans hS.hl.symm, a.tl.trans hS.tl.symm⟩

theorem minR_at {r : Rite} {s : Scene} : ∀ {g : List RAct} {tk : List (Int × Int)} {nx : Scene} {i : Nat}, (minR r s g tk nx i).2.2 = 0 → (minR r s g tk nx i).2.1 = 0
  | [], _, _, _, _ => rfl
  | a :: g, tk, nx, i, h => by
    unfold minR at h ⊢
    split at h
    · simp at h
    · rename_i h1
      split at h
      · rename_i h2
        rw [if_neg h1, if_pos h2]
        exact minR_at h
      · simp at h
theorem minute_ok {r : Rite} {s : Scene} (hS : Snd r s) (hW : WB r) (hFu : Full s) (acts : List RAct) (hal : acts.length ≤ 1000000) (hA : ∀ a ∈ acts, AB r a.who.toNat a) (hH : 0 < H.length) :
    gcall KC (geval KC) 88 [.pure (.agg (stRow r s)), .pure (.slice (acts.map RAct.row))] c H =
      some (.pure (.tuple [.agg (stRow r (minR r s acts [] s 0).1), .int .i64 (minR r s acts [] s 0).2.1, .int .i64 (minR r s acts [] s 0).2.2]), H) := by
  refine WPv_eq (call_enter KC needT Try.func88 rfl rfl good88 rfl rfl rfl (by simp) hH ?_)
  have k1 : newKey 17 28679 = mq1 := by decide
  have k2 : newKey 17 28683 = mq2 := by decide
  have k3 : newKey 17 28687 = mq3 := by decide
  have C := copied_ok (c := 17) (H := [(2, stbox r s), (4, zst)] :: H) r hFu (by simp) (by simp [k1, mq1]) (by simp [k2, mq2]) (by simp [k3, mq3])
  simp only [List.length_cons, Nat.add_sub_cancel, k1, k2, k3] at C
  obtain ⟨F0, hF0⟩ : ∃ F0 : Fr, [(2, stbox r s), (4, zst), (mq1, .arr 1 (s.people.map irow) 0 false), (mq2, .arr 2 (s.hands.map Hands.row) 0 false), (mq3, .arr 2 (s.things.map Spot.row) 0 false)] = F0 := ⟨_, rfl⟩
  have hC : scSet ([(2, stbox r s), (4, zst)] :: H) (H.length, mq1) (H.length, mq2) (H.length, mq3) 0 0 0 s = F0 :: H := by
    rw [← hF0]; simp [scSet, mq1, mq2, mq3]
  rw [hC] at C
  obtain ⟨F1, hF1⟩ : ∃ F1, (F0.ins 7 (nxB H.length r s)).ins 18 (.map []) = F1 := ⟨_, rfl⟩
  have f07 : F0.get 7 = none := by rw [← hF0]; simp [mq1, mq2, mq3]
  have f018 : F0.get 18 = none := by rw [← hF0]; simp [mq1, mq2, mq3]
  have o1 : ∀ k, k ≠ 7 → k ≠ 18 → F1.get k = F0.get k := fun k h1 h2 => by rw [← hF1, Fr.get_ins_other _ h2, Fr.get_ins_other _ h1]
  have MX1 : MX H.length F1 r s [] s := {
    g2 := (o1 2 (by decide) (by decide)).trans (by rw [← hF0]; simp)
    g4 := (o1 4 (by decide) (by decide)).trans (by rw [← hF0]; simp)
    gm := by rw [← hF1, Fr.get_ins]; rfl
    srt := by
      rw [← hF1]
      refine Fr.ins_srt (Fr.ins_srt ?_)
      rw [← hF0]; simp [Fr.srt, mq1, mq2, mq3]
    g7 := by rw [← hF1, Fr.get_ins_other _ (by decide), Fr.get_ins]
    sc := ⟨⟨0, Nat.zero_le _, (o1 _ (by decide) (by decide)).trans (by rw [← hF0]; simp [mq1, mq2, mq3])⟩, ⟨0, Nat.zero_le _, (o1 _ (by decide) (by decide)).trans (by rw [← hF0]; simp [mq1, mq2, mq3])⟩, ⟨0, Nat.zero_le _, (o1 _ (by decide) (by decide)).trans (by rw [← hF0]; simp [mq1, mq2, mq3])⟩⟩ }
  have L1 := fun Q => min_loop (H := H) hS hW acts hal hA Q acts.length 0 F1 [] s (by omega) MX1 (fun x => by simp) ⟨fun a ha => by simp at ha, by simp⟩ rfl
  simp only [List.drop_zero] at L1
  simp only [stRow, stG, stbox, zst] at C
  have f018' : (F0.ins 7 (nxB H.length r s)).get 18 = none := (Fr.get_ins_other _ (by decide) _).trans f018
  simp only [nxB] at hF1 f018'
  unfold stRow
  simp [C, f07, f018', Fr.get_ins, Fr.ins_ins, hF1]
  refine L1 _ (fun he F' hF' hG hm => ?_) (fun he hm F' h4 => ?_)
  · obtain ⟨tk', hF'⟩ := hF'
    have g7 := hF'.g7
    have g4 := hF'.g4
    have LL := doG_len hS hG
    rw [hm] at hF' g7
    obtain ⟨v1, a1, b1⟩ := hF'.sc.h1
    obtain ⟨v2, a2, b2⟩ := hF'.sc.h2
    obtain ⟨v3, a3, b3⟩ := hF'.sc.h3
    have o4 : ∀ (x : Blk) (k : Nat), k ≠ 4 → (F'.ins 4 x).get k = F'.get k := fun x k hk => Fr.get_ins_other _ hk _
    have c1 := fun x => (o4 x mq1 (by decide)).trans b1
    have c2 := fun x => (o4 x mq2 (by decide)).trans b2
    have c3 := fun x => (o4 x mq3 (by decide)).trans b3
    have hat := minR_at he
    rw [hm]
    simp only [nxB] at g7
    simp only [zst] at g4
    simp [g7, g4, splice, Fr.get_ins]
    have fin : ∀ x, gleave KC 88 c (.tuple [.agg [.pure (.int .i64 r.wide), .pure (.int .i64 r.deep), .pure (.slice (r.people.map Person.row)), .pure (.slice (r.things.map Thing.row)), .pure (.slice (r.seen.map irow)), .pure (.slice (r.lapses.map irow)), .pure (.slice (r.acts.map RAct.row)), .hdr (H.length, mq1) 1 (doG s acts).people.length 0 (doG s acts).people.length, .hdr (H.length, mq2) 2 (doG s acts).hands.length 0 (doG s acts).hands.length, .hdr (H.length, mq3) 2 (doG s acts).things.length 0 (doG s acts).things.length], .pure (.int .i64 0), .pure (.int .i64 0)]) (F'.ins 4 x :: H) =
        some (.pure (.tuple [.agg (stRow r (doG s acts)), .int .i64 0, .int .i64 0]), H) := fun x => by
      have d1 := c1 x
      have d2 := c2 x
      have d3 := c3 x
      generalize F'.ins 4 x = F5 at d1 d2 d3
      have hnl : ¬ H.length ≤ H.length - 1 := by omega
      rw [gleave_free (by simp)]
      simp [hnl, d1, d2, d3, a1, a2, a3, stRow]
      exact ⟨List.take_of_length_le (by simp), List.take_of_length_le (by simp), List.take_of_length_le (by simp)⟩
    rw [fin, WPv_some, hat, he]
    simp only [stRow]
  · rw [hm]
    simp only [stbox] at h4
    simp [h4, gleave_free]
end Go.Gh

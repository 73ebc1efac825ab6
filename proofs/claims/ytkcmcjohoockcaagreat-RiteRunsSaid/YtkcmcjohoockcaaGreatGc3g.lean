/- Texts joined: the evaluator over ghost values, its soundness, the walks. -/
import Derived.Test.YtkcmcjohoockcaaGreatGc3f
namespace Go.Gh
open Go.Proofs
set_option linter.unusedVariables false
set_option linter.unusedSimpArgs false
set_option linter.unnecessarySimpa false
set_option maxRecDepth 100000
set_option maxHeartbeats 8000000
section
variable {c : Nat} {H : Heap}
structure ScAt (H : Heap) (n1 n2 n3 : Nm) (v1 v2 v3 : Nat) (s : Scene) : Prop where
 n12 : n1 ≠ n2
 n13 : n1 ≠ n3
 n23 : n2 ≠ n3
 g1 : H.get n1 = some (.arr 1 (s.people.map irow) v1 false)
 g2 : H.get n2 = some (.arr 2 (s.hands.map Hands.row) v2 false)
 g3 : H.get n3 = some (.arr 2 (s.things.map Spot.row) v3 false)
 e1 : v1 ≤ s.people.length
 e2 : v2 ≤ s.hands.length
 e3 : v3 ≤ s.things.length
def scH (n1 n2 n3 : Nm) (s : Scene) : GV := .agg [.hdr n1 1 s.people.length 0 s.people.length, .hdr n2 2 s.hands.length 0 s.hands.length, .hdr n3 2 s.things.length 0 s.things.length]
theorem hdrP {nm : Nm} {es v n : Nat} {rows : List (List PV)} {ro : Bool} (h : H.get nm = some (.arr es rows v ro)) (hn : rows.length = n) (hv : v ≤ n) :
  pureCell H (.hdr nm es n 0 n) = (.slice rows, H.set nm (.arr es rows v true)) := by
 subst hn
 simp [h, hv]
theorem frz_sc {n1 n2 n3 : Nm} {v1 v2 v3 : Nat} {s : Scene} (h : ScAt H n1 n2 n3 v1 v2 v3 s) : (frzVal H (scH n1 n2 n3 s)).1 = .pure (.agg s.row) := by
 have a1 : (H.set n1 (.arr 1 (s.people.map irow) v1 true)).get n2 = some (.arr 2 (s.hands.map Hands.row) v2 false) := by rw [Heap.get_set_other _ h.n12.symm]; exact h.g2
 have a2 : ((H.set n1 (.arr 1 (s.people.map irow) v1 true)).set n2 (.arr 2 (s.hands.map Hands.row) v2 true)).get n3 = some (.arr 2 (s.things.map Spot.row) v3 false) := by
  rw [Heap.get_set_other _ h.n23.symm, Heap.get_set_other _ h.n13.symm]; exact h.g3
 simp only [scH, frzVal, frzCells, frzCell, hdrP h.g1 (by simp) h.e1, hdrP a1 (by simp) h.e2, hdrP a2 (by simp) h.e3, Scene.row]
 simp
theorem hasS_ok {n1 n2 n3 : Nm} {v1 v2 v3 : Nat} {s : Scene} (h : ScAt H n1 n2 n3 v1 v2 v3 s) {t st : Int} (ht : t < s.things.length) (hst : st ≠ 0) (hH : 0 < H.length) :
  gcall KC (geval KC) 121 [scH n1 n2 n3 s, .pure (.int .i64 t), .pure (.int .i64 st)] c H = some (.pure (.bool (hasV s.things t st)), H) := by
 refine bor_flat KC rfl rfl (args' := [.pure (.agg s.row), .pure (.int .i64 t), .pure (.int .i64 st)]) ?_ rfl hH (fun H hH => hasR_ok (c := c) ht hst hH) rfl
 simp only [frzVals, frz_sc h, frzVal_pure]
 rfl
noncomputable def setV : List Spot → Nat → Int → Bool → List Spot := hid fun ts t bit on =>
 if hasV ts t bit = on then ts else ts.set t ⟨(ts.getD t spot0).cell, if on then IntKind.i64.wrap ((ts.getD t spot0).state + bit) else IntKind.i64.wrap ((ts.getD t spot0).state - bit)⟩
theorem setV_def (ts : List Spot) (t : Nat) (bit : Int) (on : Bool) : setV ts t bit on = if hasV ts t bit = on then ts else ts.set t ⟨(ts.getD t spot0).cell, if on then IntKind.i64.wrap ((ts.getD t spot0).state + bit) else IntKind.i64.wrap ((ts.getD t spot0).state - bit)⟩ := by rw [setV, hid_eq]
theorem setV_len (ts : List Spot) (t : Nat) (bit : Int) (on : Bool) : (setV ts t bit on).length = ts.length := by
 rw [setV_def]; split <;> simp
theorem set_ok {n1 n2 n3 : Nm} {v1 v2 v3 : Nat} {s : Scene} (h : ScAt H n1 n2 n3 v1 v2 v3 s) {t : Nat} {bit : Int} {on : Bool} (ht : t < s.things.length) (hst : bit ≠ 0) (hH : 0 < H.length) :
    gcall KC (geval KC) 86 [scH n1 n2 n3 s, .pure (.int .i64 t), .pure (.int .i64 bit), .pure (.bool on)] c H =
      some (.pure (.tuple []), if hasV s.things t bit = on then H else H.set n3 (.arr 2 ((setV s.things t bit on).map Spot.row) s.things.length false)) := by
  refine WPv_eq (call_enterR KC needT Tryz.func86 rfl rfl good86 rfl rfl rfl (by simp) hH ?_)
  have l1 := Heap.get_lt h.g1
  have l2 := Heap.get_lt h.g2
  have l3 := Heap.get_lt h.g3
  have d1 : ¬ n1.1 = H.length := by omega
  have d2 : ¬ n2.1 = H.length := by omega
  have d3 : ¬ n3.1 = H.length := by omega
  have hg : s.things.getD t spot0 = s.things[t] := by simp [List.getD_eq_getElem?_getD, ht]
  have hd := setV_def s.things t bit on
  rw [hg] at hd
  have P := fun (c : Nat) => hasS_ok (c := c) (H := [(4, .box [.hdr n1 1 s.people.length 0 s.people.length, .hdr n2 2 s.hands.length 0 s.hands.length, .hdr n3 2 s.things.length 0 s.things.length])] :: H) (n1 := n1) (n2 := n2) (n3 := n3) (v1 := v1) (v2 := v2) (v3 := v3) (s := s)
    ⟨h.n12, h.n13, h.n23, by simp [d1, h.g1], by simp [d2, h.g2], by simp [d3, h.g3], h.e1, h.e2, h.e3⟩ (t := t) (st := bit) (by omega) hst (by simp)
  simp only [scH] at P ⊢
  cases on with
  | true =>
    cases hv : hasV s.things t bit with
    | true => simp [P, hv, gleave_free]
    | false =>
      simp [hv] at hd
      simp [P, hv, d3, h.g3, h.e3, ht, Spot.row, gleave_free, hd, splice]
  | false =>
    cases hv : hasV s.things t bit with
    | false => simp [P, hv, gleave_free]
    | true =>
      simp [hv] at hd
      simp [P, hv, d3, h.g3, h.e3, ht, Spot.row, gleave_free, hd, splice]
end
section
variable {c : Nat} {H : Heap}
def putHand (hs : List Hands) (w : Nat) (hand : Int) (v : Int) : List Hands := hs.set w (if hand = 0 then ⟨v, (hs.getD w hands0).r⟩ else ⟨(hs.getD w hands0).l, v⟩)
noncomputable def doV : Scene → Nat → RAct → Scene := hid fun s w a =>
 if a.kind = 1 then { s with people := s.people.set w a.cell }
 else if a.kind = 2 then { s with hands := putHand s.hands w a.hand a.thing, things := s.things.set a.thing.toNat ⟨-1, (s.things.getD a.thing.toNat spot0).state⟩ }
 else if a.kind = 3 then { s with hands := putHand s.hands w a.hand (-1), things := s.things.set (heldV s w a.hand).toNat ⟨s.people.getD w 0, (s.things.getD (heldV s w a.hand).toNat spot0).state⟩ }
 else if a.kind = 4 then { s with hands := putHand (putHand s.hands a.other.toNat (takerV s.hands a.other.toNat) (heldV s w a.hand)) w a.hand (-1) }
 else if a.kind = 5 then { s with things := setV s.things (heldV s w (1 - a.hand)).toNat 1 true }
 else if a.kind = 6 then { s with things := setV (setV (setV s.things (heldV s w a.hand).toNat 2 false) (heldV s w a.hand).toNat 1 false) (heldV s w (1 - a.hand)).toNat 2 true }
 else if a.kind = 7 then { s with things := setV s.things (heldV s w a.hand).toNat 4 true }
 else { s with things := setV s.things (heldV s w a.hand).toNat 4 false }
theorem doV_def (s : Scene) (w : Nat) (a : RAct) : doV s w a =
 if a.kind = 1 then { s with people := s.people.set w a.cell }
 else if a.kind = 2 then { s with hands := putHand s.hands w a.hand a.thing, things := s.things.set a.thing.toNat ⟨-1, (s.things.getD a.thing.toNat spot0).state⟩ }
 else if a.kind = 3 then { s with hands := putHand s.hands w a.hand (-1), things := s.things.set (heldV s w a.hand).toNat ⟨s.people.getD w 0, (s.things.getD (heldV s w a.hand).toNat spot0).state⟩ }
 else if a.kind = 4 then { s with hands := putHand (putHand s.hands a.other.toNat (takerV s.hands a.other.toNat) (heldV s w a.hand)) w a.hand (-1) }
 else if a.kind = 5 then { s with things := setV s.things (heldV s w (1 - a.hand)).toNat 1 true }
 else if a.kind = 6 then { s with things := setV (setV (setV s.things (heldV s w a.hand).toNat 2 false) (heldV s w a.hand).toNat 1 false) (heldV s w (1 - a.hand)).toNat 2 true }
 else if a.kind = 7 then { s with things := setV s.things (heldV s w a.hand).toNat 4 true }
 else { s with things := setV s.things (heldV s w a.hand).toNat 4 false } := by rw [doV, hid_eq]
structure DoB (s : Scene) (w : Nat) (a : RAct) : Prop where
 hp : w < s.people.length
 hh : w < s.hands.length
 who : a.who = w
 hand : a.hand = 0 ∨ a.hand = 1
 kind : 1 ≤ a.kind ∧ a.kind ≤ 8
 take : a.kind = 2 → ∃ t : Nat, a.thing = t ∧ t < s.things.length
 held : 3 ≤ a.kind → ∃ t : Nat, heldV s w a.hand = t ∧ t < s.things.length
 give : a.kind = 4 → ∃ o : Nat, a.other = o ∧ o < s.hands.length ∧ o ≠ w ∧ (takerV s.hands o = 0 ∨ takerV s.hands o = 1)
 oth : a.kind = 5 ∨ a.kind = 6 → ∃ t : Nat, heldV s w (1 - a.hand) = t ∧ t < s.things.length
theorem Heap.set_comm {n m : Nm} {x y : Blk} (h : n ≠ m) : ∀ {H : Heap}, (H.set n x).set m y = (H.set m y).set n x
  | [] => rfl
  | fr :: H => by
    by_cases e1 : n.1 = H.length
    · by_cases e2 : m.1 = H.length
      · have : n.2 ≠ m.2 := fun e => h (Prod.ext (e1.trans e2.symm) e)
        simp [e1, e2, Fr.ins_comm _ _ this.symm]
      · simp [e1, e2]
    · by_cases e2 : m.1 = H.length
      · simp [e1, e2]
      · simp [e1, e2, Heap.length_set, Heap.set_comm h (H := H)]
structure ScSelf (H : Heap) (n1 n2 n3 : Nm) (v1 v2 v3 : Nat) (s : Scene) : Prop extends ScAt H n1 n2 n3 v1 v2 v3 s where
 s1 : H.set n1 (.arr 1 (s.people.map irow) v1 false) = H
 s2 : H.set n2 (.arr 2 (s.hands.map Hands.row) v2 false) = H
 s3 : H.set n3 (.arr 2 (s.things.map Spot.row) v3 false) = H
def scSet (H : Heap) (n1 n2 n3 : Nm) (v1 v2 v3 : Nat) (s : Scene) : Heap := ((H.set n1 (.arr 1 (s.people.map irow) v1 false)).set n2 (.arr 2 (s.hands.map Hands.row) v2 false)).set n3 (.arr 2 (s.things.map Spot.row) v3 false)
theorem setF_ok {fr : Fr} {n1 n2 n3 : Nm} {v1 v2 v3 : Nat} {s : Scene} (h : ScSelf H n1 n2 n3 v1 v2 v3 s) {t : Nat} {bit : Int} {on : Bool} (ht : t < s.things.length) (hst : bit ≠ 0) (c : Nat) :
    ∃ v, v ≤ s.things.length ∧ gcall KC (geval KC) 86 [scH n1 n2 n3 s, .pure (.int .i64 t), .pure (.int .i64 bit), .pure (.bool on)] c (fr :: H) =
      some (.pure (.tuple []), fr :: H.set n3 (.arr 2 ((setV s.things t bit on).map Spot.row) v false)) ∧
      ScSelf (H.set n3 (.arr 2 ((setV s.things t bit on).map Spot.row) v false)) n1 n2 n3 v1 v2 v { s with things := setV s.things t bit on } := by
  have l1 := Heap.get_lt h.g1
  have l2 := Heap.get_lt h.g2
  have l3 := Heap.get_lt h.g3
  have d1 : ¬ n1.1 = H.length := by omega
  have d2 : ¬ n2.1 = H.length := by omega
  have d3 : ¬ n3.1 = H.length := by omega
  have hS : ScAt (fr :: H) n1 n2 n3 v1 v2 v3 s := ⟨h.n12, h.n13, h.n23, by simp [d1, h.g1], by simp [d2, h.g2], by simp [d3, h.g3], h.e1, h.e2, h.e3⟩
  have C := set_ok (c := c) hS (t := t) (bit := bit) (on := on) ht hst (by simp)
  have fin : ∀ v, v ≤ s.things.length → ScSelf (H.set n3 (.arr 2 ((setV s.things t bit on).map Spot.row) v false)) n1 n2 n3 v1 v2 v { s with things := setV s.things t bit on } := fun v hv =>
    { n12 := h.n12, n13 := h.n13, n23 := h.n23, g1 := by rw [Heap.get_set_other _ h.n13]; exact h.g1, g2 := by rw [Heap.get_set_other _ h.n23]; exact h.g2, g3 := Heap.get_set' l3,
      e1 := h.e1, e2 := h.e2, e3 := by simpa [setV_len] using hv, s1 := by rw [Heap.set_comm h.n13.symm, h.s1], s2 := by rw [Heap.set_comm h.n23.symm, h.s2], s3 := Heap.set_set }
  by_cases hv : hasV s.things t bit = on
  · have e : setV s.things t bit on = s.things := by rw [setV_def, if_pos hv]
    rw [if_pos hv] at C
    refine ⟨v3, h.e3, ?_, fin v3 h.e3⟩
    rw [C, e, h.s3]
  · rw [if_neg hv] at C
    refine ⟨s.things.length, Nat.le_refl _, ?_, fin _ (Nat.le_refl _)⟩
    rw [C, Heap.set_up l3]
theorem ScAt.up {fr : Fr} {n1 n2 n3 : Nm} {v1 v2 v3 : Nat} {s : Scene} (h : ScAt H n1 n2 n3 v1 v2 v3 s) : ScAt (fr :: H) n1 n2 n3 v1 v2 v3 s := by
 have l1 := Heap.get_lt h.g1
 have l2 := Heap.get_lt h.g2
 have l3 := Heap.get_lt h.g3
 have d1 : ¬ n1.1 = H.length := by omega
 have d2 : ¬ n2.1 = H.length := by omega
 have d3 : ¬ n3.1 = H.length := by omega
 exact ⟨h.n12, h.n13, h.n23, by simp [d1, h.g1], by simp [d2, h.g2], by simp [d3, h.g3], h.e1, h.e2, h.e3⟩
theorem do0_ok {n1 n2 n3 : Nm} {v1 v2 v3 : Nat} {s : Scene} (h : ScSelf H n1 n2 n3 v1 v2 v3 s) {w : Nat} {q1 kind thing cell other q3 q4 : Int} (hb : DoB s w ⟨q1, w, kind, 0, thing, cell, other, q3, q4⟩) (hhl : s.hands.length ≤ 1000000) (hH : 0 < H.length) :
  ∃ v1' v2' v3', v1' ≤ s.people.length ∧ v2' ≤ s.hands.length ∧ v3' ≤ s.things.length ∧
   gcall KC (geval KC) 51 [scH n1 n2 n3 s, .pure (.agg [.int .i64 q1, .int .i64 w, .int .i64 kind, .int .i64 0, .int .i64 thing, .int .i64 cell, .int .i64 other, .int .i64 q3, .int .i64 q4])] c H =
    some (.pure (.tuple []), scSet H n1 n2 n3 v1' v2' v3' (doV s w ⟨q1, w, kind, 0, thing, cell, other, q3, q4⟩)) := by
 have l1 := Heap.get_lt h.g1
 have l2 := Heap.get_lt h.g2
 have l3 := Heap.get_lt h.g3
 have d1 : ¬ n1.1 = H.length := by omega
 have d2 : ¬ n2.1 = H.length := by omega
 have d3 : ¬ n3.1 = H.length := by omega
 have hp := hb.hp
 have hh := hb.hh
 have hg : s.hands.getD w hands0 = s.hands[w] := by simp [List.getD_eq_getElem?_getD, hh]
 have hgp : s.people.getD w 0 = s.people[w] := by simp [List.getD_eq_getElem?_getD, hp]
 have eh : heldV s w 0 = s.hands[w].l := by unfold heldV; rw [hg]; simp
 have eo : heldV s w (1 - 0) = s.hands[w].r := by unfold heldV; rw [hg]; simp
 have wr : IntKind.i64.wrap (1 - 0) = 1 := rfl
 have hk := hb.kind
 have hd := doV_def s w ⟨q1, w, kind, 0, thing, cell, other, q3, q4⟩
 have hheld := hb.held
 have hoth := hb.oth
 have htake := hb.take
 have hgive := hb.give
 have G23 : ∀ b, (H.set n2 b).get n3 = H.get n3 := fun b => Heap.get_set_other b h.n23.symm
 have S2 : ∀ x, (H.set n1 x).set n2 (.arr 2 (s.hands.map Hands.row) v2 false) = H.set n1 x := fun x => by rw [Heap.set_comm h.n12, h.s2]
 have S3 : ∀ x, (H.set n1 x).set n3 (.arr 2 (s.things.map Spot.row) v3 false) = H.set n1 x := fun x => by rw [Heap.set_comm h.n13, h.s3]
 have S4 : ∀ x, (H.set n2 x).set n3 (.arr 2 (s.things.map Spot.row) v3 false) = H.set n2 x := fun x => by rw [Heap.set_comm h.n23, h.s3]
 have s1 := h.s1
 have s2 := h.s2
 have s3 := h.s3
 have G22 : ∀ b, (H.set n2 b).get n2 = some b := fun b => Heap.get_set' l2
 simp only [eh, eo, hgp, putHand, hg] at hd hk hheld hoth htake hgive
 simp only [scH]
 by_cases k1 : kind = 1
 ·subst k1
  simp at hd
  refine ⟨s.people.length, v2, v3, Nat.le_refl _, h.e2, h.e3, WPv_eq (call_enterR KC needT Tryz.func51 rfl rfl good51 rfl rfl rfl (by simp) hH ?_)⟩
  simp [d1, d2, d3, h.g1, h.g2, h.g3, h.e1, h.e2, h.e3, hp, hh, irow, Hands.row, wr, splice, gleave_free, hd, scSet, S2, S3]
 by_cases k2 : kind = 2
 ·subst k2
  obtain ⟨t, rfl, ht⟩ := htake rfl
  have hgt : s.things[t]?.getD spot0 = s.things[t] := by simp [ht]
  simp [hgt] at hd
  refine ⟨v1, s.hands.length, s.things.length, h.e1, Nat.le_refl _, Nat.le_refl _, WPv_eq (call_enterR KC needT Tryz.func51 rfl rfl good51 rfl rfl rfl (by simp) hH ?_)⟩
  simp [d1, d2, d3, h.g1, h.g2, h.g3, h.e1, h.e2, h.e3, hp, hh, ht, Hands.row, Spot.row, wr, splice, gleave_free, hd, scSet, G23, s1]
 have hk3 : 3 ≤ kind := by omega
 obtain ⟨t, et, ht⟩ := hheld hk3
 simp only [et] at hd hgive
 have hgt : s.things[t]?.getD spot0 = s.things[t] := by simp [ht]
 by_cases k3 : kind = 3
 ·subst k3
  simp [hgt] at hd
  refine ⟨v1, s.hands.length, s.things.length, h.e1, Nat.le_refl _, Nat.le_refl _, WPv_eq (call_enterR KC needT Tryz.func51 rfl rfl good51 rfl rfl rfl (by simp) hH ?_)⟩
  simp [d1, d2, d3, h.g1, h.g2, h.g3, h.e1, h.e2, h.e3, hp, hh, ht, et, irow, Hands.row, Spot.row, wr, splice, gleave_free, hd, scSet, G23, s1]
 by_cases k4 : kind = 4
 ·subst k4
  obtain ⟨o, rfl, ho, how, htk⟩ := hgive rfl
  have hgo : s.hands[o]?.getD hands0 = s.hands[o] := by simp [ho]
  have hsw : ∀ x, (s.hands.set o x)[w]?.getD hands0 = s.hands[w] := fun x => by rw [List.getElem?_set_ne how]; simp [hh]
  simp [hgo, hsw] at hd
  have R : (frzVals ([(2, .box [.hdr n1 1 s.people.length 0 s.people.length, .hdr n2 2 s.hands.length 0 s.hands.length, .hdr n3 2 s.things.length 0 s.things.length]), (3, abox ⟨q1, w, 4, 0, thing, cell, o, q3, q4⟩)] :: H) [scH n1 n2 n3 s, .pure (.int .i64 o)]).1.map canon = [.pure (.agg s.row), .pure (.int .i64 o)] := by
   simp only [frzVals, frz_sc (ScAt.up h.toScAt), frzVal_pure]; rfl
  have T := fun (c : Nat) => bor_flat KC (f := 85) (c := c) rfl rfl R rfl (by simp) (fun H hH => takerR_ok (c := c) ho hhl hH) rfl
  simp only [scH, abox] at T
  rcases htk with z | z
  ·rw [z] at hd T
   simp at hd
   refine ⟨v1, s.hands.length, v3, h.e1, Nat.le_refl _, h.e3, WPv_eq (call_enterR KC needT Tryz.func51 rfl rfl good51 rfl rfl rfl (by simp) hH ?_)⟩
   simp [d1, d2, d3, h.g1, h.g2, h.g3, h.e1, h.e2, h.e3, hp, hh, ht, et, ho, T, irow, Hands.row, Spot.row, wr, splice, gleave_free, hd, scSet, G22, G23, s1, S4, how, List.getElem_set_ne]
  ·rw [z] at hd T
   simp at hd
   refine ⟨v1, s.hands.length, v3, h.e1, Nat.le_refl _, h.e3, WPv_eq (call_enterR KC needT Tryz.func51 rfl rfl good51 rfl rfl rfl (by simp) hH ?_)⟩
   simp [d1, d2, d3, h.g1, h.g2, h.g3, h.e1, h.e2, h.e3, hp, hh, ht, et, ho, T, irow, Hands.row, Spot.row, wr, splice, gleave_free, hd, scSet, G22, G23, s1, S4, how, List.getElem_set_ne]
 by_cases k5 : kind = 5
 ·subst k5
  obtain ⟨u, eu, hu⟩ := hoth (.inl rfl)
  rw [eu] at hd
  simp at hd
  obtain ⟨v, hv, C, hS⟩ := setF_ok (fr := [(2, .box [.hdr n1 1 s.people.length 0 s.people.length, .hdr n2 2 s.hands.length 0 s.hands.length, .hdr n3 2 s.things.length 0 s.things.length]), (3, abox ⟨q1, w, 5, 0, thing, cell, other, q3, q4⟩)]) h (t := u) (bit := 1) (on := true) hu (by decide) 100
  simp only [scH, abox] at C
  refine ⟨v1, v2, v, h.e1, h.e2, hv, WPv_eq (call_enterR KC needT Tryz.func51 rfl rfl good51 rfl rfl rfl (by simp) hH ?_)⟩
  simp [d1, d2, d3, h.g1, h.g2, h.g3, h.e1, h.e2, h.e3, hp, hh, ht, et, eu, C, Hands.row, wr, gleave_free, hd, scSet, s1, s2]
 by_cases k6 : kind = 6
 ·subst k6
  obtain ⟨u, eu, hu⟩ := hoth (.inr rfl)
  rw [eu] at hd
  simp at hd
  obtain ⟨v, hv, C, hS⟩ := setF_ok (fr := [(2, .box [.hdr n1 1 s.people.length 0 s.people.length, .hdr n2 2 s.hands.length 0 s.hands.length, .hdr n3 2 s.things.length 0 s.things.length]), (3, abox ⟨q1, w, 6, 0, thing, cell, other, q3, q4⟩)]) h (t := t) (bit := 2) (on := false) ht (by decide) 105
  obtain ⟨v', hv', C', hS'⟩ := setF_ok (fr := [(2, .box [.hdr n1 1 s.people.length 0 s.people.length, .hdr n2 2 s.hands.length 0 s.hands.length, .hdr n3 2 s.things.length 0 s.things.length]), (3, abox ⟨q1, w, 6, 0, thing, cell, other, q3, q4⟩)]) hS (t := t) (bit := 1) (on := false) (by rw [setV_len]; exact ht) (by decide) 108
  obtain ⟨v'', hv'', C'', hS''⟩ := setF_ok (fr := [(2, .box [.hdr n1 1 s.people.length 0 s.people.length, .hdr n2 2 s.hands.length 0 s.hands.length, .hdr n3 2 s.things.length 0 s.things.length]), (3, abox ⟨q1, w, 6, 0, thing, cell, other, q3, q4⟩)]) hS' (t := u) (bit := 2) (on := true) (by simp only [setV_len]; exact hu) (by decide) 111
  simp only [scH, abox, setV_len, Heap.set_set] at C C' C''
  simp only [setV_len] at hv''
  refine ⟨v1, v2, v'', h.e1, h.e2, hv'', WPv_eq (call_enterR KC needT Tryz.func51 rfl rfl good51 rfl rfl rfl (by simp) hH ?_)⟩
  simp [d1, d2, d3, h.g1, h.g2, h.g3, h.e1, h.e2, h.e3, hp, hh, ht, et, eu, C, C', C'', Hands.row, wr, gleave_free, hd, scSet, s1, s2]
 by_cases k7 : kind = 7
 ·subst k7
  simp at hd
  obtain ⟨v, hv, C, hS⟩ := setF_ok (fr := [(2, .box [.hdr n1 1 s.people.length 0 s.people.length, .hdr n2 2 s.hands.length 0 s.hands.length, .hdr n3 2 s.things.length 0 s.things.length]), (3, abox ⟨q1, w, 7, 0, thing, cell, other, q3, q4⟩)]) h (t := t) (bit := 4) (on := true) ht (by decide) 116
  simp only [scH, abox] at C
  refine ⟨v1, v2, v, h.e1, h.e2, hv, WPv_eq (call_enterR KC needT Tryz.func51 rfl rfl good51 rfl rfl rfl (by simp) hH ?_)⟩
  simp [d1, d2, d3, h.g1, h.g2, h.g3, h.e1, h.e2, h.e3, hp, hh, ht, et, C, Hands.row, wr, gleave_free, hd, scSet, s1, s2]
 have k8 : kind = 8 := by omega
 subst k8
 simp at hd
 obtain ⟨v, hv, C, hS⟩ := setF_ok (fr := [(2, .box [.hdr n1 1 s.people.length 0 s.people.length, .hdr n2 2 s.hands.length 0 s.hands.length, .hdr n3 2 s.things.length 0 s.things.length]), (3, abox ⟨q1, w, 8, 0, thing, cell, other, q3, q4⟩)]) h (t := t) (bit := 4) (on := false) ht (by decide) 121
 simp only [scH, abox] at C
 refine ⟨v1, v2, v, h.e1, h.e2, hv, WPv_eq (call_enterR KC needT Tryz.func51 rfl rfl good51 rfl rfl rfl (by simp) hH ?_)⟩
 simp [d1, d2, d3, h.g1, h.g2, h.g3, h.e1, h.e2, h.e3, hp, hh, ht, et, C, Hands.row, wr, gleave_free, hd, scSet, s1, s2]
theorem do1_ok {n1 n2 n3 : Nm} {v1 v2 v3 : Nat} {s : Scene} (h : ScSelf H n1 n2 n3 v1 v2 v3 s) {w : Nat} {q1 kind thing cell other q3 q4 : Int} (hb : DoB s w ⟨q1, w, kind, 1, thing, cell, other, q3, q4⟩) (hhl : s.hands.length ≤ 1000000) (hH : 0 < H.length) :
  ∃ v1' v2' v3', v1' ≤ s.people.length ∧ v2' ≤ s.hands.length ∧ v3' ≤ s.things.length ∧
   gcall KC (geval KC) 51 [scH n1 n2 n3 s, .pure (.agg [.int .i64 q1, .int .i64 w, .int .i64 kind, .int .i64 1, .int .i64 thing, .int .i64 cell, .int .i64 other, .int .i64 q3, .int .i64 q4])] c H =
    some (.pure (.tuple []), scSet H n1 n2 n3 v1' v2' v3' (doV s w ⟨q1, w, kind, 1, thing, cell, other, q3, q4⟩)) := by
 have l1 := Heap.get_lt h.g1
 have l2 := Heap.get_lt h.g2
 have l3 := Heap.get_lt h.g3
 have d1 : ¬ n1.1 = H.length := by omega
 have d2 : ¬ n2.1 = H.length := by omega
 have d3 : ¬ n3.1 = H.length := by omega
 have hp := hb.hp
 have hh := hb.hh
 have hg : s.hands.getD w hands0 = s.hands[w] := by simp [List.getD_eq_getElem?_getD, hh]
 have hgp : s.people.getD w 0 = s.people[w] := by simp [List.getD_eq_getElem?_getD, hp]
 have eh : heldV s w 1 = s.hands[w].r := by unfold heldV; rw [hg]; simp
 have eo : heldV s w (1 - 1) = s.hands[w].l := by unfold heldV; rw [hg]; simp
 have wr : IntKind.i64.wrap (1 - 1) = 0 := rfl
 have hk := hb.kind
 have hd := doV_def s w ⟨q1, w, kind, 1, thing, cell, other, q3, q4⟩
 have hheld := hb.held
 have hoth := hb.oth
 have htake := hb.take
 have hgive := hb.give
 have G23 : ∀ b, (H.set n2 b).get n3 = H.get n3 := fun b => Heap.get_set_other b h.n23.symm
 have S2 : ∀ x, (H.set n1 x).set n2 (.arr 2 (s.hands.map Hands.row) v2 false) = H.set n1 x := fun x => by rw [Heap.set_comm h.n12, h.s2]
 have S3 : ∀ x, (H.set n1 x).set n3 (.arr 2 (s.things.map Spot.row) v3 false) = H.set n1 x := fun x => by rw [Heap.set_comm h.n13, h.s3]
 have S4 : ∀ x, (H.set n2 x).set n3 (.arr 2 (s.things.map Spot.row) v3 false) = H.set n2 x := fun x => by rw [Heap.set_comm h.n23, h.s3]
 have s1 := h.s1
 have s2 := h.s2
 have s3 := h.s3
 have G22 : ∀ b, (H.set n2 b).get n2 = some b := fun b => Heap.get_set' l2
 simp only [eh, eo, hgp, putHand, hg] at hd hk hheld hoth htake hgive
 simp only [scH]
 by_cases k1 : kind = 1
 ·subst k1
  simp at hd
  refine ⟨s.people.length, v2, v3, Nat.le_refl _, h.e2, h.e3, WPv_eq (call_enterR KC needT Tryz.func51 rfl rfl good51 rfl rfl rfl (by simp) hH ?_)⟩
  simp [d1, d2, d3, h.g1, h.g2, h.g3, h.e1, h.e2, h.e3, hp, hh, irow, Hands.row, wr, splice, gleave_free, hd, scSet, S2, S3]
 by_cases k2 : kind = 2
 ·subst k2
  obtain ⟨t, rfl, ht⟩ := htake rfl
  have hgt : s.things[t]?.getD spot0 = s.things[t] := by simp [ht]
  simp [hgt] at hd
  refine ⟨v1, s.hands.length, s.things.length, h.e1, Nat.le_refl _, Nat.le_refl _, WPv_eq (call_enterR KC needT Tryz.func51 rfl rfl good51 rfl rfl rfl (by simp) hH ?_)⟩
  simp [d1, d2, d3, h.g1, h.g2, h.g3, h.e1, h.e2, h.e3, hp, hh, ht, Hands.row, Spot.row, wr, splice, gleave_free, hd, scSet, G23, s1]
 have hk3 : 3 ≤ kind := by omega
 obtain ⟨t, et, ht⟩ := hheld hk3
 simp only [et] at hd hgive
 have hgt : s.things[t]?.getD spot0 = s.things[t] := by simp [ht]
 by_cases k3 : kind = 3
 ·subst k3
  simp [hgt] at hd
  refine ⟨v1, s.hands.length, s.things.length, h.e1, Nat.le_refl _, Nat.le_refl _, WPv_eq (call_enterR KC needT Tryz.func51 rfl rfl good51 rfl rfl rfl (by simp) hH ?_)⟩
  simp [d1, d2, d3, h.g1, h.g2, h.g3, h.e1, h.e2, h.e3, hp, hh, ht, et, irow, Hands.row, Spot.row, wr, splice, gleave_free, hd, scSet, G23, s1]
 by_cases k4 : kind = 4
 ·subst k4
  obtain ⟨o, rfl, ho, how, htk⟩ := hgive rfl
  have hgo : s.hands[o]?.getD hands0 = s.hands[o] := by simp [ho]
  have hsw : ∀ x, (s.hands.set o x)[w]?.getD hands0 = s.hands[w] := fun x => by rw [List.getElem?_set_ne how]; simp [hh]
  simp [hgo, hsw] at hd
  have R : (frzVals ([(2, .box [.hdr n1 1 s.people.length 0 s.people.length, .hdr n2 2 s.hands.length 0 s.hands.length, .hdr n3 2 s.things.length 0 s.things.length]), (3, abox ⟨q1, w, 4, 1, thing, cell, o, q3, q4⟩)] :: H) [scH n1 n2 n3 s, .pure (.int .i64 o)]).1.map canon = [.pure (.agg s.row), .pure (.int .i64 o)] := by
   simp only [frzVals, frz_sc (ScAt.up h.toScAt), frzVal_pure]; rfl
  have T := fun (c : Nat) => bor_flat KC (f := 85) (c := c) rfl rfl R rfl (by simp) (fun H hH => takerR_ok (c := c) ho hhl hH) rfl
  simp only [scH, abox] at T
  rcases htk with z | z
  ·rw [z] at hd T
   simp at hd
   refine ⟨v1, s.hands.length, v3, h.e1, Nat.le_refl _, h.e3, WPv_eq (call_enterR KC needT Tryz.func51 rfl rfl good51 rfl rfl rfl (by simp) hH ?_)⟩
   simp [d1, d2, d3, h.g1, h.g2, h.g3, h.e1, h.e2, h.e3, hp, hh, ht, et, ho, T, irow, Hands.row, Spot.row, wr, splice, gleave_free, hd, scSet, G22, G23, s1, S4, how, List.getElem_set_ne]
  ·rw [z] at hd T
   simp at hd
   refine ⟨v1, s.hands.length, v3, h.e1, Nat.le_refl _, h.e3, WPv_eq (call_enterR KC needT Tryz.func51 rfl rfl good51 rfl rfl rfl (by simp) hH ?_)⟩
   simp [d1, d2, d3, h.g1, h.g2, h.g3, h.e1, h.e2, h.e3, hp, hh, ht, et, ho, T, irow, Hands.row, Spot.row, wr, splice, gleave_free, hd, scSet, G22, G23, s1, S4, how, List.getElem_set_ne]
 by_cases k5 : kind = 5
 ·subst k5
  obtain ⟨u, eu, hu⟩ := hoth (.inl rfl)
  rw [eu] at hd
  simp at hd
  obtain ⟨v, hv, C, hS⟩ := setF_ok (fr := [(2, .box [.hdr n1 1 s.people.length 0 s.people.length, .hdr n2 2 s.hands.length 0 s.hands.length, .hdr n3 2 s.things.length 0 s.things.length]), (3, abox ⟨q1, w, 5, 1, thing, cell, other, q3, q4⟩)]) h (t := u) (bit := 1) (on := true) hu (by decide) 100
  simp only [scH, abox] at C
  refine ⟨v1, v2, v, h.e1, h.e2, hv, WPv_eq (call_enterR KC needT Tryz.func51 rfl rfl good51 rfl rfl rfl (by simp) hH ?_)⟩
  simp [d1, d2, d3, h.g1, h.g2, h.g3, h.e1, h.e2, h.e3, hp, hh, ht, et, eu, C, Hands.row, wr, gleave_free, hd, scSet, s1, s2]
 by_cases k6 : kind = 6
 ·subst k6
  obtain ⟨u, eu, hu⟩ := hoth (.inr rfl)
  rw [eu] at hd
  simp at hd
  obtain ⟨v, hv, C, hS⟩ := setF_ok (fr := [(2, .box [.hdr n1 1 s.people.length 0 s.people.length, .hdr n2 2 s.hands.length 0 s.hands.length, .hdr n3 2 s.things.length 0 s.things.length]), (3, abox ⟨q1, w, 6, 1, thing, cell, other, q3, q4⟩)]) h (t := t) (bit := 2) (on := false) ht (by decide) 105
  obtain ⟨v', hv', C', hS'⟩ := setF_ok (fr := [(2, .box [.hdr n1 1 s.people.length 0 s.people.length, .hdr n2 2 s.hands.length 0 s.hands.length, .hdr n3 2 s.things.length 0 s.things.length]), (3, abox ⟨q1, w, 6, 1, thing, cell, other, q3, q4⟩)]) hS (t := t) (bit := 1) (on := false) (by rw [setV_len]; exact ht) (by decide) 108
  obtain ⟨v'', hv'', C'', hS''⟩ := setF_ok (fr := [(2, .box [.hdr n1 1 s.people.length 0 s.people.length, .hdr n2 2 s.hands.length 0 s.hands.length, .hdr n3 2 s.things.length 0 s.things.length]), (3, abox ⟨q1, w, 6, 1, thing, cell, other, q3, q4⟩)]) hS' (t := u) (bit := 2) (on := true) (by simp only [setV_len]; exact hu) (by decide) 111
  simp only [scH, abox, setV_len, Heap.set_set] at C C' C''
  simp only [setV_len] at hv''
  refine ⟨v1, v2, v'', h.e1, h.e2, hv'', WPv_eq (call_enterR KC needT Tryz.func51 rfl rfl good51 rfl rfl rfl (by simp) hH ?_)⟩
  simp [d1, d2, d3, h.g1, h.g2, h.g3, h.e1, h.e2, h.e3, hp, hh, ht, et, eu, C, C', C'', Hands.row, wr, gleave_free, hd, scSet, s1, s2]
 by_cases k7 : kind = 7
 ·subst k7
  simp at hd
  obtain ⟨v, hv, C, hS⟩ := setF_ok (fr := [(2, .box [.hdr n1 1 s.people.length 0 s.people.length, .hdr n2 2 s.hands.length 0 s.hands.length, .hdr n3 2 s.things.length 0 s.things.length]), (3, abox ⟨q1, w, 7, 1, thing, cell, other, q3, q4⟩)]) h (t := t) (bit := 4) (on := true) ht (by decide) 116
  simp only [scH, abox] at C
  refine ⟨v1, v2, v, h.e1, h.e2, hv, WPv_eq (call_enterR KC needT Tryz.func51 rfl rfl good51 rfl rfl rfl (by simp) hH ?_)⟩
  simp [d1, d2, d3, h.g1, h.g2, h.g3, h.e1, h.e2, h.e3, hp, hh, ht, et, C, Hands.row, wr, gleave_free, hd, scSet, s1, s2]
 have k8 : kind = 8 := by omega
 subst k8
 simp at hd
 obtain ⟨v, hv, C, hS⟩ := setF_ok (fr := [(2, .box [.hdr n1 1 s.people.length 0 s.people.length, .hdr n2 2 s.hands.length 0 s.hands.length, .hdr n3 2 s.things.length 0 s.things.length]), (3, abox ⟨q1, w, 8, 1, thing, cell, other, q3, q4⟩)]) h (t := t) (bit := 4) (on := false) ht (by decide) 121
 simp only [scH, abox] at C
 refine ⟨v1, v2, v, h.e1, h.e2, hv, WPv_eq (call_enterR KC needT Tryz.func51 rfl rfl good51 rfl rfl rfl (by simp) hH ?_)⟩
 simp [d1, d2, d3, h.g1, h.g2, h.g3, h.e1, h.e2, h.e3, hp, hh, ht, et, C, Hands.row, wr, gleave_free, hd, scSet, s1, s2]
theorem do_ok {n1 n2 n3 : Nm} {v1 v2 v3 : Nat} {s : Scene} (h : ScSelf H n1 n2 n3 v1 v2 v3 s) {w : Nat} {a : RAct} (hb : DoB s w a) (hhl : s.hands.length ≤ 1000000) (hH : 0 < H.length) :
  ∃ v1' v2' v3', v1' ≤ s.people.length ∧ v2' ≤ s.hands.length ∧ v3' ≤ s.things.length ∧
   gcall KC (geval KC) 51 [scH n1 n2 n3 s, .pure (.agg a.row)] c H = some (.pure (.tuple []), scSet H n1 n2 n3 v1' v2' v3' (doV s w a)) := by
 obtain ⟨q1, who, kind, hand, thing, cell, other, q3, q4⟩ := a
 have e1 := hb.who
 have e2 := hb.hand
 simp only at e1 e2
 subst e1
 rcases e2 with rfl | rfl
 ·exact do0_ok h hb hhl hH
 ·exact do1_ok h hb hhl hH
end
section
variable {c : Nat} {H : Heap}
noncomputable def commonV : List Int → List Int → Bool := hid fun l m => l.any fun x => m.contains x
theorem commonV_def (l m : List Int) : commonV l m = l.any fun x => m.contains x := by rw [commonV, hid_eq]
theorem common_loop2 (l m : List Int) (hm : m.length ≤ 1000000) (i : Nat) (hi : i < l.length) (H' : Heap) (f0 f1 : Fr) (hH' : H' = f1 :: f0 :: H) (Q : GX → GSt → Prop) :
    ∀ k j : Nat, j + k = m.length →
    ((m.drop j).contains l[i] = false → Q (.exit 2) ⟨[(0, .pure (.slice (l.map irow))), (1, .pure (.slice (m.map irow))), (4, gdead), (5, .pure (.int .i64 i))], H', 28⟩) →
    ((m.drop j).contains l[i] = true → Q .ret ⟨[(0, .pure (.slice (l.map irow))), (1, .pure (.slice (m.map irow))), (4, .pure (.bool true)), (5, .pure (.int .i64 i))], H', 28⟩) →
    WPL KC needT 122 (lp Tryz.f122 1) [0, 1, 5, 6] [0, 1, 4, 5] Q
      [(0, .pure (.slice (l.map irow))), (1, .pure (.slice (m.map irow))), (5, .pure (.int .i64 i)), (6, .pure (.int .i64 j))] H' 28 := by
  subst hH'
  intro k
  induction k with
  | zero =>
    intro j hj h1 h2
    have e1 : m.drop j = [] := List.drop_of_length_le (by omega)
    rw [e1] at h1
    have : ¬ j < m.length := by omega
    apply WPL_step
    conv => arg 4; whnf
    simp [this]
    exact h1 rfl
  | succ k ih =>
    intro j hj h1 h2
    have hja : j < m.length := by omega
    have hw := w64 (x := (j : Int) + 1) (by omega) (by omega)
    have ih' := ih (j + 1) (by omega)
    rw [List.drop_eq_getElem_cons hja, List.contains_cons] at h1 h2
    apply WPL_step
    conv => arg 4; whnf
    cases he : l[i] == m[j] with
    | true =>
      rw [he] at h2
      simp [hi, hja, irow, he]
      exact h2 rfl
    | false =>
      rw [he] at h1 h2
      rw [Bool.false_or] at h1 h2
      simp [hi, hja, irow, he, hw]
      exact ih' h1 h2
theorem common_loop (l m : List Int) (hl : l.length ≤ 1000000) (hm : m.length ≤ 1000000) (f0 : Fr) (Q : GX → GSt → Prop) :
    ∀ k i : Nat, i + k = l.length →
    (((l.drop i).any fun x => m.contains x) = false → Q (.exit 0) ⟨[(4, gdead)], f0 :: H, 28⟩) →
    (((l.drop i).any fun x => m.contains x) = true → Q .ret ⟨[(4, .pure (.bool true))], f0 :: H, 28⟩) →
    WPL KC needT 122 (lp Tryz.f122 0) [0, 1, 5] [4] Q
      [(0, .pure (.slice (l.map irow))), (1, .pure (.slice (m.map irow))), (5, .pure (.int .i64 i))] (f0 :: H) 28 := by
  intro k
  induction k with
  | zero =>
    intro i hi h1 h2
    have e1 : l.drop i = [] := List.drop_of_length_le (by omega)
    rw [e1] at h1
    have : ¬ i < l.length := by omega
    apply WPL_step
    conv => arg 4; whnf
    simp [this]
    exact h1 rfl
  | succ k ih =>
    intro i hi h1 h2
    have hia : i < l.length := by omega
    have hw := w64 (x := (i : Int) + 1) (by omega) (by omega)
    have ih' := ih (i + 1) (by omega)
    rw [List.drop_eq_getElem_cons hia, List.any_cons] at h1 h2
    apply WPL_step
    conv => arg 4; whnf
    have L := fun f1 Q => common_loop2 l m hm i hia (f1 :: f0 :: H) f0 f1 rfl Q m.length 0 (by omega)
    simp only [List.drop_zero] at L
    simp [hia]
    refine L _ _ (fun z => ?_) (fun z => ?_)
    · rw [z, Bool.false_or] at h1 h2
      simp [hw]
      exact ih' h1 h2
    · rw [z, Bool.true_or] at h2
      simp
      exact h2 rfl
theorem common_ok {l m : List Int} (hl : l.length ≤ 1000000) (hm : m.length ≤ 1000000) (hH : 0 < H.length) :
  gcall KC (geval KC) 122 [.pure (.slice (l.map irow)), .pure (.slice (m.map irow))] c H = some (.pure (.bool (commonV l m)), H) := by
 refine bor_c rfl rfl rfl rfl rfl hH fun H hH => ?_
 refine WPv_eq (call_enter0 KC needT Tryz.func122 rfl rfl good122 (by simp) hH ?_)
 have hd := commonV_def l m
 have L := fun f0 Q => common_loop (H := H) l m hl hm f0 Q l.length 0 (by omega)
 simp only [List.drop_zero] at L
 simp
 refine L _ _ (fun z => ?_) (fun z => ?_)
 ·rw [z] at hd
  simp [gleave_free, hd]
 ·rw [z] at hd
  simp [gleave_free, hd]
structure Touch where
 people : List Int
 things : List Int
 cells : List Int
def Touch.row (t : Touch) : List PV := [.slice (t.people.map irow), .slice (t.things.map irow), .slice (t.cells.map irow)]
noncomputable def touchV : Scene → Nat → RAct → Touch := hid fun s w a =>
 if a.kind = 1 then ⟨[a.who], [], [s.people.getD w 0, a.cell]⟩
 else if a.kind = 2 then ⟨[a.who], [a.thing], []⟩
 else if a.kind = 4 then ⟨[a.who, a.other], [heldV s w a.hand], []⟩
 else if a.kind = 5 ∨ a.kind = 6 then ⟨[a.who], [heldV s w a.hand, heldV s w (1 - a.hand)], []⟩
 else ⟨[a.who], [heldV s w a.hand], []⟩
theorem touchV_def (s : Scene) (w : Nat) (a : RAct) : touchV s w a =
 if a.kind = 1 then ⟨[a.who], [], [s.people.getD w 0, a.cell]⟩
 else if a.kind = 2 then ⟨[a.who], [a.thing], []⟩
 else if a.kind = 4 then ⟨[a.who, a.other], [heldV s w a.hand], []⟩
 else if a.kind = 5 ∨ a.kind = 6 then ⟨[a.who], [heldV s w a.hand, heldV s w (1 - a.hand)], []⟩
 else ⟨[a.who], [heldV s w a.hand], []⟩ := by rw [touchV, hid_eq]
theorem touchV_len (s : Scene) (w : Nat) (a : RAct) : (touchV s w a).people.length ≤ 2 ∧ (touchV s w a).things.length ≤ 2 ∧ (touchV s w a).cells.length ≤ 2 := by
 rw [touchV_def]
 repeat' split
 all_goals simp
theorem touch0_ok {s : Scene} {w : Nat} {q1 kind thing cell other q3 q4 : Int} (hp : w < s.people.length) (hh : w < s.hands.length) (hH : 0 < H.length) :
  gcall KC (geval KC) 88 [.pure (.agg s.row), .pure (.agg [.int .i64 q1, .int .i64 w, .int .i64 kind, .int .i64 0, .int .i64 thing, .int .i64 cell, .int .i64 other, .int .i64 q3, .int .i64 q4])] c H =
    some (.pure (.agg (touchV s w ⟨q1, w, kind, 0, thing, cell, other, q3, q4⟩).row), H) := by
 refine WPv_eq (call_enter KC needT Tryz.func88 rfl rfl good88 rfl rfl rfl (by simp) hH ?_)
 have hg : s.hands.getD w hands0 = s.hands[w] := by simp [List.getD_eq_getElem?_getD, hh]
 have hgp : s.people.getD w 0 = s.people[w] := by simp [List.getD_eq_getElem?_getD, hp]
 have eh : heldV s w 0 = s.hands[w].l := by unfold heldV; rw [hg]; simp
 have eo : heldV s w (1 - 0) = s.hands[w].r := by unfold heldV; rw [hg]; simp
 have wr : IntKind.i64.wrap (1 - 0) = 1 := rfl
 have hnl : ¬ H.length ≤ H.length - 1 := by omega
 have hd := touchV_def s w ⟨q1, w, kind, 0, thing, cell, other, q3, q4⟩
 simp only [eh, eo, hgp] at hd
 simp only [Scene.row]
 by_cases k1 : kind = 1
 ·subst k1
  simp at hd
  simp [hp, hh, irow, Hands.row, wr, gleave_free, hd, Touch.row, hnl]
 by_cases k2 : kind = 2
 ·subst k2
  simp at hd
  simp [hp, hh, irow, Hands.row, wr, gleave_free, hd, Touch.row, hnl]
 by_cases k4 : kind = 4
 ·subst k4
  simp at hd
  simp [hp, hh, irow, Hands.row, wr, gleave_free, hd, Touch.row, hnl]
 by_cases k5 : kind = 5
 ·subst k5
  simp at hd
  simp [hp, hh, irow, Hands.row, wr, gleave_free, hd, Touch.row, hnl]
 by_cases k6 : kind = 6
 ·subst k6
  simp at hd
  simp [hp, hh, irow, Hands.row, wr, gleave_free, hd, Touch.row, hnl]
 have k1' : (kind == 1) = false := by simpa using k1
 have k2' : (kind == 2) = false := by simpa using k2
 have k4' : (kind == 4) = false := by simpa using k4
 have k5' : (kind == 5) = false := by simpa using k5
 have k6' : (kind == 6) = false := by simpa using k6
 simp [k1, k2, k4, k5, k6] at hd
 simp [hp, hh, irow, Hands.row, wr, k1', k2', k4', k5', k6', gleave_free, hd, Touch.row, hnl]
theorem touch1_ok {s : Scene} {w : Nat} {q1 kind thing cell other q3 q4 : Int} (hp : w < s.people.length) (hh : w < s.hands.length) (hH : 0 < H.length) :
  gcall KC (geval KC) 88 [.pure (.agg s.row), .pure (.agg [.int .i64 q1, .int .i64 w, .int .i64 kind, .int .i64 1, .int .i64 thing, .int .i64 cell, .int .i64 other, .int .i64 q3, .int .i64 q4])] c H =
    some (.pure (.agg (touchV s w ⟨q1, w, kind, 1, thing, cell, other, q3, q4⟩).row), H) := by
 refine WPv_eq (call_enter KC needT Tryz.func88 rfl rfl good88 rfl rfl rfl (by simp) hH ?_)
 have hg : s.hands.getD w hands0 = s.hands[w] := by simp [List.getD_eq_getElem?_getD, hh]
 have hgp : s.people.getD w 0 = s.people[w] := by simp [List.getD_eq_getElem?_getD, hp]
 have eh : heldV s w 1 = s.hands[w].r := by unfold heldV; rw [hg]; simp
 have eo : heldV s w (1 - 1) = s.hands[w].l := by unfold heldV; rw [hg]; simp
 have wr : IntKind.i64.wrap (1 - 1) = 0 := rfl
 have hnl : ¬ H.length ≤ H.length - 1 := by omega
 have hd := touchV_def s w ⟨q1, w, kind, 1, thing, cell, other, q3, q4⟩
 simp only [eh, eo, hgp] at hd
 simp only [Scene.row]
 by_cases k1 : kind = 1
 ·subst k1
  simp at hd
  simp [hp, hh, irow, Hands.row, wr, gleave_free, hd, Touch.row, hnl]
 by_cases k2 : kind = 2
 ·subst k2
  simp at hd
  simp [hp, hh, irow, Hands.row, wr, gleave_free, hd, Touch.row, hnl]
 by_cases k4 : kind = 4
 ·subst k4
  simp at hd
  simp [hp, hh, irow, Hands.row, wr, gleave_free, hd, Touch.row, hnl]
 by_cases k5 : kind = 5
 ·subst k5
  simp at hd
  simp [hp, hh, irow, Hands.row, wr, gleave_free, hd, Touch.row, hnl]
 by_cases k6 : kind = 6
 ·subst k6
  simp at hd
  simp [hp, hh, irow, Hands.row, wr, gleave_free, hd, Touch.row, hnl]
 have k1' : (kind == 1) = false := by simpa using k1
 have k2' : (kind == 2) = false := by simpa using k2
 have k4' : (kind == 4) = false := by simpa using k4
 have k5' : (kind == 5) = false := by simpa using k5
 have k6' : (kind == 6) = false := by simpa using k6
 simp [k1, k2, k4, k5, k6] at hd
 simp [hp, hh, irow, Hands.row, wr, k1', k2', k4', k5', k6', gleave_free, hd, Touch.row, hnl]
theorem touch_ok {s : Scene} {w : Nat} {a : RAct} (hp : w < s.people.length) (hh : w < s.hands.length) (hw : a.who = w) (ha : a.hand = 0 ∨ a.hand = 1) (hH : 0 < H.length) :
  gcall KC (geval KC) 88 [.pure (.agg s.row), .pure (.agg a.row)] c H = some (.pure (.agg (touchV s w a).row), H) := by
 obtain ⟨q1, who, kind, hand, thing, cell, other, q3, q4⟩ := a
 simp only at hw ha
 subst hw
 rcases ha with rfl | rfl
 ·exact touch0_ok hp hh hH
 ·exact touch1_ok hp hh hH
noncomputable def bothV : Touch → Touch → Bool := hid fun a b => commonV a.people b.people || (commonV a.things b.things || commonV a.cells b.cells)
theorem bothV_def (a b : Touch) : bothV a b = (commonV a.people b.people || (commonV a.things b.things || commonV a.cells b.cells)) := by rw [bothV, hid_eq]
theorem both_ok {a b : Touch} (ha : a.people.length ≤ 2 ∧ a.things.length ≤ 2 ∧ a.cells.length ≤ 2) (hb : b.people.length ≤ 2 ∧ b.things.length ≤ 2 ∧ b.cells.length ≤ 2) (hH : 0 < H.length) :
    gcall KC (geval KC) 87 [.pure (.agg a.row), .pure (.agg b.row)] c H = some (.pure (.bool (bothV a b)), H) := by
  refine bor_c rfl rfl rfl rfl rfl hH fun H hH => ?_
  refine WPv_eq (call_enter0 KC needT Tryz.func87 rfl rfl good87 (by simp) hH ?_)
  have hd := bothV_def a b
  have C := fun (l m : List Int) (hl : l.length ≤ 2) (hm : m.length ≤ 2) (c : Nat) (H : Heap) (hH : 0 < H.length) => common_ok (c := c) (H := H) (l := l) (m := m) (by omega) (by omega) hH
  simp only [Touch.row]
  cases z1 : commonV a.people b.people with
  | true =>
    simp [z1] at hd
    simp [C, ha, hb, z1, gleave_free, hd]
  | false =>
    cases z2 : commonV a.things b.things with
    | true =>
      simp [z1, z2] at hd
      simp [C, ha, hb, z1, z2, gleave_free, hd]
    | false =>
      simp [z1, z2] at hd
      simp [C, ha, hb, z1, z2, gleave_free, hd]
noncomputable def apartV : Scene → Nat → RAct → Nat → RAct → Bool := hid fun s w a v b => !bothV (touchV s w a) (touchV s v b)
theorem apartV_def (s : Scene) (w : Nat) (a : RAct) (v : Nat) (b : RAct) : apartV s w a v b = !bothV (touchV s w a) (touchV s v b) := by rw [apartV, hid_eq]
theorem apart_ok {s : Scene} {w v : Nat} {a b : RAct} (hp : w < s.people.length) (hh : w < s.hands.length) (hw : a.who = w) (ha : a.hand = 0 ∨ a.hand = 1)
  (hp2 : v < s.people.length) (hh2 : v < s.hands.length) (hw2 : b.who = v) (hb : b.hand = 0 ∨ b.hand = 1) (hH : 0 < H.length) :
  gcall0 KC (geval KC) 53 [.pure (.agg s.row), .pure (.agg a.row), .pure (.agg b.row)] c H = some (.pure (.bool (apartV s w a v b)), H) := by
 refine WPv_eq (call_enter0 KC needT Tryz.func53 rfl rfl good53 (by simp) hH ?_)
 have hd := apartV_def s w a v b
 have T1 := fun c (H : Heap) (hH : 0 < H.length) => touch_ok (c := c) (H := H) hp hh hw ha hH
 have T2 := fun c (H : Heap) (hH : 0 < H.length) => touch_ok (c := c) (H := H) hp2 hh2 hw2 hb hH
 have B := fun c (H : Heap) (hH : 0 < H.length) => both_ok (c := c) (H := H) (touchV_len s w a) (touchV_len s v b) hH
 simp only [Scene.row, RAct.row, Touch.row] at T1 T2 B ⊢
 simp [T1, T2, B, gleave_free, hd]
end
section
variable {c : Nat} {H : Heap}
@[simp] theorem irow_len (x : Int) : (irow x).length = 1 := rfl
@[simp] theorem Hrow_len (x : Hands) : x.row.length = 2 := rfl
@[simp] theorem Srow_len (x : Spot) : x.row.length = 2 := rfl
theorem own_ok {n1 n2 n3 : Nm} {v1 v2 v3 : Nat} {s : Scene} (h : ScAt H n1 n2 n3 v1 v2 v3 s) (p0 : s.people ≠ []) (h0 : s.hands ≠ []) (t0 : s.things ≠ []) (pl : s.people.length ≤ 1000000) (hl : s.hands.length ≤ 1000000) (tl : s.things.length ≤ 1000000) (hH : 0 < H.length)
  (hf1 : H.get (H.length - 1, newKey c 6) = none) (hf2 : H.get (H.length - 1, newKey c 10) = none) (hf3 : H.get (H.length - 1, newKey c 14) = none) :
  gcall KC (geval KC) 50 [scH n1 n2 n3 s] c H = some (scH (H.length - 1, newKey c 6) (H.length - 1, newKey c 10) (H.length - 1, newKey c 14) s,
   scSet H (H.length - 1, newKey c 6) (H.length - 1, newKey c 10) (H.length - 1, newKey c 14) 0 0 0 s) := by
 refine WPv_eq (call_enterR KC needT Tryz.func50 rfl rfl good50 rfl rfl rfl (by simp) hH ?_)
 have l1 := Heap.get_lt h.g1
 have l2 := Heap.get_lt h.g2
 have l3 := Heap.get_lt h.g3
 have d1 : ¬ n1.1 = H.length := by omega
 have d2 : ¬ n2.1 = H.length := by omega
 have d3 : ¬ n3.1 = H.length := by omega
 have b1 : s.people.length * 8 ≤ 1099511627776 := by omega
 have b2 : s.hands.length * 16 ≤ 1099511627776 := by omega
 have b3 : s.things.length * 16 ≤ 1099511627776 := by omega
 have n12 : newKey c 6 ≠ newKey c 10 := by unfold newKey; omega
 have n13 : newKey c 6 ≠ newKey c 14 := by unfold newKey; omega
 have n23 : newKey c 10 ≠ newKey c 14 := by unfold newKey; omega
 have k1 : (H.length - 1, newKey c 10) ≠ ((H.length - 1, newKey c 6) : Nm) := fun e => n12 (Prod.mk.inj e).2.symm
 have k2 : (H.length - 1, newKey c 14) ≠ ((H.length - 1, newKey c 6) : Nm) := fun e => n13 (Prod.mk.inj e).2.symm
 have k3 : (H.length - 1, newKey c 14) ≠ ((H.length - 1, newKey c 10) : Nm) := fun e => n23 (Prod.mk.inj e).2.symm
 have g2 : ∀ b, (H.set (H.length - 1, newKey c 6) b).get (H.length - 1, newKey c 10) = none := fun b => (Heap.get_set_other b k1).trans hf2
 have g3 : ∀ b b', ((H.set (H.length - 1, newKey c 6) b).set (H.length - 1, newKey c 10) b').get (H.length - 1, newKey c 14) = none := fun b b' => (Heap.get_set_other b' k3).trans ((Heap.get_set_other b k2).trans hf3)
 have tp : List.take s.people.length (s.people.map irow) = s.people.map irow := List.take_of_length_le (by simp)
 have th : List.take s.hands.length (s.hands.map Hands.row) = s.hands.map Hands.row := List.take_of_length_le (by simp)
 have tt : List.take s.things.length (s.things.map Spot.row) = s.things.map Spot.row := List.take_of_length_le (by simp)
 have hn : ¬ H.length + 1 ≤ H.length := by omega
 simp only [scH]
 simp [tp, th, tt, hn, d1, d2, d3, h.g1, h.g2, h.g3, h.e1, h.e2, h.e3, p0, h0, t0, b1, b2, b3]
 simp [gleave_keep, refs, refs2, refs1, dedup, moveOut, cleanBlk, hf1, g2, g3, ren, ren2, ren1, scSet]
end
section
variable {c : Nat} {H : Heap}
def swapL (l : List Int) (i j : Nat) : List Int := ((l ++ [(i : Int)]).set i ((l ++ [(i : Int)]).getD j 0)).set j i
theorem swapL_len (l : List Int) (i j : Nat) : (swapL l i j).length = l.length + 1 := by simp [swapL]
noncomputable def orderR : Nat → Nat → List Int → Int → List Int × Int
 | 0, _, l, wd => (l, wd)
 | k + 1, i, l, wd => orderR k (i + 1) (swapL l i (upR wd (i + 1 : Nat)).1.toNat) (upR wd (i + 1 : Nat)).2
theorem set_perm (l : List Int) (j : Nat) (hj : j < l.length) (x : Int) : (l.set j x ++ [l[j]]).Perm (l ++ [x]) := by
 have e : l = l.take j ++ l[j] :: l.drop (j + 1) := by rw [← List.drop_eq_getElem_cons hj, List.take_append_drop]
 have e2 : l.set j x = l.take j ++ x :: l.drop (j + 1) := List.set_eq_take_append_cons_drop .. |>.trans (by simp [hj])
 rw [e2]
 conv => rhs; rw [e]
 simp only [List.append_assoc]
 refine List.Perm.append_left _ ?_
 simp only [List.cons_append]
 refine (List.Perm.cons x List.perm_append_comm).trans ?_
 simp only [List.singleton_append]
 refine (List.Perm.swap ..).trans ?_
 refine List.Perm.cons _ ?_
 exact (List.perm_append_comm (l₁ := [x]) (l₂ := l.drop (j + 1)))
theorem swapL_perm (l : List Int) (i j : Nat) (hl : l.length = i) (hj : j ≤ i) : (swapL l i j).Perm (l ++ [(i : Int)]) := by
 subst hl
 unfold swapL
 by_cases e : j = l.length
 ·subst e; simp
 ·have hj' : j < l.length := by omega
  have h1 : (l ++ [(l.length : Int)]).getD j 0 = l[j] := by simp [List.getD_eq_getElem?_getD, List.getElem?_append_left hj', hj']
  rw [h1]
  have h2 : (l ++ [(l.length : Int)]).set l.length l[j] = l ++ [l[j]] := by simp
  rw [h2]
  have h3 : (l ++ [l[j]]).set j (l.length : Int) = l.set j l.length ++ [l[j]] := by rw [List.set_append_left _ _ hj']
  rw [h3]
  exact set_perm l j hj' _
theorem orderR_perm : ∀ (k i : Nat) (l : List Int) (wd : Int), l.Perm ((List.range i).map Int.ofNat) → i + k ≤ 1000000 → (orderR k i l wd).1.Perm ((List.range (i + k)).map Int.ofNat)
  | 0, i, l, wd, h, _ => by simpa [orderR] using h
  | k + 1, i, l, wd, h, hk => by
    have hr := upR_rng wd ((i + 1 : Nat) : Int) (by omega)
    have hl : l.length = i := by simpa using h.length_eq
    have e : i + (k + 1) = i + 1 + k := by omega
    rw [orderR, e]
    refine orderR_perm k (i + 1) _ _ ((swapL_perm l i _ hl (by omega)).trans ?_) (by omega)
    rw [List.range_succ, List.map_append]
    exact h.append_right _
def ordF (l : List Int) : Fr := [(20, .arr 1 (l.map irow) l.length false)]
theorem order_loop {nm : Nm} (hlt : nm.1 < H.length) (n : Nat) (hn : n ≤ 1000000) (Q : GX → GSt → Prop) : ∀ (k i : Nat) (l : List Int) (wd : Int), i + k = n → l.length = i → 0 < i →
    Q (.exit 0) ⟨[(5, .hdr (H.length, 20) 1 (orderR k i l wd).1.length 0 (orderR k i l wd).1.length)], ordF (orderR k i l wd).1 :: H.set nm (wbox (orderR k i l wd).2), 36⟩ →
    WPL KC needT 83 (lp Tryz.f83 0) [0, 1, 5, 6] [5] Q
      [(0, .bptr nm 0), (1, .pure (.int .i64 n)), (5, .hdr (H.length, 20) 1 l.length 0 l.length), (6, .pure (.int .i64 i))] (ordF l :: H.set nm (wbox wd)) 36 := by
  have hB : ∀ w f0 f1, isBox (f0 :: f1 :: H.set nm (wbox w)) nm := fun w f0 f1 => isBox_up (isBox_up (isBox_set' hlt))
  have hne : ¬ nm.1 = H.length := by omega
  have hne2 : ¬ nm.1 = H.length + 1 := by omega
  have hle : nm.1 ≤ H.length := by omega
  intro k
  induction k with
  | zero =>
    intro i l wd hi hl h0 hq
    have : ¬ i < n := by omega
    apply WPL_step
    conv => arg 4; whnf
    simp [ordF, this, Heap.length_set]
    simpa [ordF, orderR] using hq
  | succ k ih =>
    intro i l wd hi hl h0 hq
    have hia : i < n := by omega
    have hw := w64 (x := (i : Int) + 1) (by omega) (by omega)
    have hr := upR_rng wd ((i + 1 : Nat) : Int) (by omega)
    obtain ⟨j, ej⟩ : ∃ j : Nat, (upR wd ((i + 1 : Nat) : Int)).1 = j := ⟨(upR wd ((i + 1 : Nat) : Int)).1.toNat, by omega⟩
    have ih' := ih (i + 1) (swapL l i j) (upR wd ((i + 1 : Nat) : Int)).2 (by omega) (by rw [swapL_len, hl]) (by omega)
    rw [orderR, ej, Int.toNat_natCast] at hq
    have ih'' := ih' hq
    have hji : j < l.length + 1 := by omega
    have ec : ((i + 1 : Nat) : Int) = (i : Int) + 1 := by omega
    rw [ec] at ej ih''
    have hb : (l.length + 1) * 8 ≤ 1099511627776 := by omega
    have hnb : (i : Int) + 1 ≤ 9223372036854775807 := by omega
    have hW : ∀ w f0 f1, wordAt (f0 :: f1 :: H.set nm (wbox w)) nm = w := fun w f0 f1 => by rw [wordAt_up (by simp [Heap.length_set]; omega), wordAt_up (by simpa [Heap.length_set] using hlt), wordAt_set hlt]
    subst hl
    obtain ⟨m, em⟩ : ∃ m, m = l ++ [(l.length : Int)] := ⟨_, rfl⟩
    have hm : m.length = l.length + 1 := by simp [em]
    have ra : List.map irow l ++ [[PV.int .i64 l.length]] = List.map irow m := by simp [em, irow]
    have hjm : j < m.length := by omega
    have him : l.length < m.length := by omega
    have hjI : (j : Int) < (l.length : Int) + 1 := by omega
    have hiI : (l.length : Int) < (l.length : Int) + 1 := by omega
    have gi : m[l.length] = (l.length : Int) := by simp [em]
    have sw : swapL l l.length j = (m.set l.length m[j]).set j l.length := by
      unfold swapL; rw [← em]; simp [List.getD_eq_getElem?_getD, hjm]
    rw [sw] at ih''
    have hgj : ((List.map irow m).set l.length [PV.int .i64 m[j]])[j]'(by simpa using hjm) = [PV.int .i64 m[j]] := by rw [List.getElem_set]; split <;> simp [irow]
    apply WPL_step
    conv => arg 4; whnf
    simp [ordF, hia, hw, Heap.length_set, up_ok, hB, hW, hnb, hlt, hne, hne2, Heap.set_up, ej, hb, hji, hjI, hiI, hle, ra, hm, irow, splice, gi, hgj]
    simpa [ordF, irow, hm] using ih''
noncomputable def orderV : Nat → Int → List Int × Int := hid fun n wd => orderR n 0 [] wd
theorem orderV_def (n : Nat) (wd : Int) : orderV n wd = orderR n 0 [] wd := by rw [orderV, hid_eq]
theorem orderV_perm {n : Nat} (wd : Int) (hn : n ≤ 1000000) : (orderV n wd).1.Perm ((List.range n).map Int.ofNat) := by
 rw [orderV_def]
 simpa using orderR_perm n 0 [] wd (by simp) (by omega)
theorem order_ok {nm : Nm} (hB : isBox H nm) {n : Nat} (h0 : 0 < n) (hn : n ≤ 1000000) :
  gcall KC (geval KC) 83 [.bptr nm 0, .pure (.int .i64 n)] c H = some (.pure (.slice ((orderV n (wordAt H nm)).1.map irow)), H.set nm (wbox (orderV n (wordAt H nm)).2)) := by
 have hlt := isBox_lt hB
 have hset := isBox_set hB
 have hne : ¬ nm.1 = H.length := by omega
 have hne2 : ¬ nm.1 = H.length + 1 := by omega
 have hle : nm.1 ≤ H.length := by omega
 have hB2 : ∀ f0 f1, isBox (f0 :: f1 :: H) nm := fun f0 f1 => isBox_up (isBox_up hB)
 have hW : ∀ f0 f1, wordAt (f0 :: f1 :: H) nm = wordAt H nm := fun f0 f1 => by rw [wordAt_up (by simp; omega), wordAt_up hlt]
 have hnl : ¬ H.length ≤ H.length - 1 := by omega
 refine WPv_eq (call_enter KC needT Tryz.func83 rfl rfl good83 rfl rfl rfl (by simp) (by omega) ?_)
 obtain ⟨k, rfl⟩ : ∃ k, n = k + 1 := ⟨n - 1, by omega⟩
 have hr := upR_rng (wordAt H nm) 1 (by omega)
 have ej : (upR (wordAt H nm) 1).1 = 0 := by omega
 have L := fun Q => order_loop (H := H) hlt (k + 1) hn Q k 1 [0] (upR (wordAt H nm) 1).2 (by omega) rfl (by omega)
 have hd := orderV_def (k + 1) (wordAt H nm)
 have e1 : orderR (k + 1) 0 [] (wordAt H nm) = orderR k 1 [0] (upR (wordAt H nm) 1).2 := by
  rw [orderR]; simp [ej, swapL]
 rw [e1] at hd
 have hk : (0 : Int) < (k : Int) + 1 := by omega
 simp [ordF] at L
 simp
 apply WPL_step
 conv => arg 4; whnf
 simp [hk, Heap.length_set, up_ok, hB2, hW, hlt, hne, hne2, Heap.set_up, ej, hle, irow, splice]
 simp [irow] at L
 refine L _ ?_
 have tk : ∀ l : List Int, List.take l.length (List.map irow l) = List.map irow l := fun l => List.take_of_length_le (by simp)
 simp [gleave_free, hd, Heap.length_set, hnl, tk]
end
section
variable {c : Nat} {H : Heap}
theorem box2 {nm : Nm} (hlt : nm.1 < H.length) (w : Int) (f0 f1 : Fr) : isBox (f0 :: f1 :: H.set nm (wbox w)) nm := isBox_up (isBox_up (isBox_set' hlt))
theorem box1 {nm : Nm} (hlt : nm.1 < H.length) (w : Int) (f1 : Fr) : isBox (f1 :: H.set nm (wbox w)) nm := isBox_up (isBox_set' hlt)
theorem word2 {nm : Nm} (hlt : nm.1 < H.length) (w : Int) (f0 f1 : Fr) : wordAt (f0 :: f1 :: H.set nm (wbox w)) nm = w := by
 rw [wordAt_up (by simp [Heap.length_set]; omega), wordAt_up (by simpa [Heap.length_set] using hlt), wordAt_set hlt]
theorem word1 {nm : Nm} (hlt : nm.1 < H.length) (w : Int) (f1 : Fr) : wordAt (f1 :: H.set nm (wbox w)) nm = w := by
 rw [wordAt_up (by simpa [Heap.length_set] using hlt), wordAt_set hlt]
def zbox : Blk := .box [.pure (.int .i64 0), .pure (.int .i64 0), .nils, .nils, .nils, .nils, .nils]
def rm1 (w d : Int) (L : Nat) (p : List Person) : Fr :=
 [(4, zbox), (5, .box [.pure (.int .i64 w), .pure (.int .i64 d), .hdr (L, 46) 2 p.length 0 p.length, .nils, .nils, .nils, .nils]), (46, .arr 2 (p.map Person.row) 0 false)]
theorem room_loop1 {nm : Nm} (hlt : nm.1 < H.length) (w d : Int) (cells : List Int) (hcl : cells.length ≤ 1000000) (Q : GX → GSt → Prop) : ∀ (k : Nat) (p : List Person) (wd : Int), p.length + k ≤ cells.length → 0 < p.length → p.map Person.cell = cells.take p.length → (∀ x ∈ p, 1 ≤ x.role ∧ x.role ≤ 3) →
    (∀ (p' : List Person) (wd' : Int), p'.length = p.length + k → p'.map Person.cell = cells.take p'.length → (∀ x ∈ p', 1 ≤ x.role ∧ x.role ≤ 3) →
      Q (.exit 0) ⟨[(0, .bptr nm 0), (4, .bptr (H.length, 4) 0), (5, .bptr (H.length, 5) 0)], rm1 w d H.length p' :: H.set nm (wbox wd'), 99⟩) →
    WPL KC needT 47 (lp Tryz.f47 0) [0, 4, 5, 6, 7] [0, 4, 5] Q
      [(0, .bptr nm 0), (4, .bptr (H.length, 4) 0), (5, .bptr (H.length, 5) 0), (6, .pure (.slice (cells.map irow))), (7, .pure (.int .i64 k))] (rm1 w d H.length p :: H.set nm (wbox wd)) 99 := by
  have hne : ¬ nm.1 = H.length := by omega
  have hne2 : ¬ nm.1 = H.length + 1 := by omega
  have hle : nm.1 ≤ H.length := by omega
  have hB := fun w f0 f1 => box2 hlt w f0 f1
  have hW := fun w f0 f1 => word2 hlt w f0 f1
  intro k
  induction k with
  | zero =>
    intro p wd hi h0 hpc hpr hq
    have hq' := hq p wd (by omega) hpc hpr
    apply WPL_step
    conv => arg 4; whnf
    simp [rm1, Heap.length_set, hle]
    simpa [rm1] using hq'
  | succ k ih =>
    intro p wd hi h0 hpc hpr hq
    have hw := w64 (x := ((k : Int) + 1) - 1) (by omega) (by omega)
    have hk : (0 : Int) < (k : Int) + 1 := by omega
    have hia : p.length < cells.length := by omega
    have hr := anyR_rng wd 1 3 (by omega) (by omega) (by omega)
    have hb : (p.length + 1) * 16 ≤ 1099511627776 := by omega
    have es : (k : Int) + 1 - 1 = k := by omega
    rw [es] at hw
    have ih' := ih (p ++ [⟨(anyR wd 1 3).1, cells[p.length]⟩]) (anyR wd 1 3).2 (by simp; omega) (by simp) (by
      simp only [List.map_append, List.map_cons, List.map_nil, hpc, List.length_append, List.length_singleton]
      exact List.take_append_getElem hia) (by
      intro x hx
      rcases List.mem_append.1 hx with hx | hx
      · exact hpr x hx
      · simp at hx; subst hx; exact hr) (fun p' wd' h1 h2 h3 => hq p' wd' (by rw [h1]; simp; omega) h2 h3)
    apply WPL_step
    conv => arg 4; whnf
    simp [rm1, hk, es, hw, Heap.length_set, any_ok, hB, hW, hlt, hne, hne2, Heap.set_up, hle, irow, hia, hb]
    simpa [rm1, Person.row] using ih'
end
section
variable {c : Nat} {H : Heap}
theorem upR_get (w n : Int) (h : n ≤ 9223372036854775807) (h1 : 1 ≤ n) : ∃ (i : Nat) (w' : Int), upR w n = ((i : Int), w') ∧ (i : Int) < n := by
 have := upR_rng w n h
 refine ⟨(upR w n).1.toNat, (upR w n).2, ?_, ?_⟩
 ·rw [Int.toNat_of_nonneg this.1]
 ·omega
theorem anyR_get (w : Int) (hi : Int) (h : hi ≤ 1000000) (h1 : 1 ≤ hi) : ∃ (i : Nat) (w' : Int), anyR w 1 hi = ((i : Int), w') ∧ 1 ≤ i ∧ (i : Int) ≤ hi := by
 have := anyR_rng w 1 hi (by omega) (by omega) (by omega)
 refine ⟨(anyR w 1 hi).1.toNat, (anyR w 1 hi).2, ?_, ?_, ?_⟩
 ·rw [Int.toNat_of_nonneg (by omega)]
 ·omega
 ·omega
def rm2 (w d : Int) (L : Nat) (p : List Person) (ts : List Thing) : Fr :=
 [(4, zbox), (5, .box [.pure (.int .i64 w), .pure (.int .i64 d), .hdr (L, 46) 2 p.length 0 p.length, apS (L, 83) 5 (ts.map Thing.row), .nils, .nils, .nils]), (46, .arr 2 (p.map Person.row) 0 false)]
def ThB (w d : Int) (t : Thing) : Prop := 0 ≤ t.cell ∧ t.cell < w * d ∧ 0 ≤ t.state ∧ t.state < 16 ∧ t.home = 0 ∧ t.want = 0
theorem room_loop2 {nm : Nm} (hlt : nm.1 < H.length) (w d : Int) (hwd : IntKind.i64.wrap (w * d) = w * d) (hwd1 : 0 < w * d) (hwd2 : w * d ≤ 1000000) (p : List Person) (hp : p ≠ []) (hpl : p.length ≤ 1000000) (hpc : ∀ x ∈ p, 0 ≤ x.cell ∧ x.cell < w * d) (Q : GX → GSt → Prop) : ∀ (k : Nat) (ts : List Thing) (wd : Int), ts.length + k ≤ 1000000 → (∀ t ∈ ts, ThB w d t) →
    (∀ (ts' : List Thing) (wd' : Int), ts'.length = ts.length + k → (∀ t ∈ ts', ThB w d t) →
      Q (.exit 2) ⟨[(0, .bptr nm 0), (4, .bptr (H.length, 4) 0), (5, .bptr (H.length, 5) 0)], apF 83 5 (ts'.map Thing.row) (rm2 w d H.length p ts') :: H.set nm (wbox wd'), 99⟩) →
    WPL KC needT 47 (lp Tryz.f47 1) [0, 4, 5, 8] [0, 4, 5] Q
      [(0, .bptr nm 0), (4, .bptr (H.length, 4) 0), (5, .bptr (H.length, 5) 0), (8, .pure (.int .i64 k))] (apF 83 5 (ts.map Thing.row) (rm2 w d H.length p ts) :: H.set nm (wbox wd)) 99 := by
  have hne : ¬ nm.1 = H.length := by omega
  have hne2 : ¬ nm.1 = H.length + 1 := by omega
  have hle : nm.1 ≤ H.length := by omega
  have hB := fun w f0 f1 => box2 hlt w f0 f1
  have hW := fun w f0 f1 => word2 hlt w f0 f1
  have lp0 : 0 < p.length := List.length_pos_iff.2 hp
  have hplI : (p.length : Int) ≤ 9223372036854775807 := by omega
  have hwdI : w * d ≤ 9223372036854775807 := by omega
  intro k
  induction k with
  | zero =>
    intro ts wd hi hts hq
    have hq' := hq ts wd (by omega) hts
    apply WPL_step
    conv => arg 4; whnf
    simp [rm2, Heap.length_set, hle]
    simpa [rm2] using hq'
  | succ k ih =>
    intro ts wd hi hts hq
    have hw := w64 (x := ((k : Int) + 1) - 1) (by omega) (by omega)
    have hk : (0 : Int) < (k : Int) + 1 := by omega
    have hb : (ts.length + 1) * 40 ≤ 1099511627776 := by omega
    have es : (k : Int) + 1 - 1 = k := by omega
    rw [es] at hw
    obtain ⟨i, w1, e1, hi1I⟩ := upR_get wd p.length hplI (by omega)
    have hi1 : i < p.length := by omega
    obtain ⟨st, w2, e2, hst⟩ := upR_get w1 16 (by omega) (by omega)
    obtain ⟨cl, w3, e3⟩ : ∃ (cl : Bool) (w3 : Int), oneR w2 3 = (cl, w3) := ⟨_, _, rfl⟩
    obtain ⟨mv, w4, e4⟩ : ∃ (mv : Bool) (w4 : Int), oneR w3 5 = (mv, w4) := ⟨_, _, rfl⟩
    have hin : ¬ (i : Int) < 0 := by omega
    have ih' := fun (t : Thing) (w' : Int) (ht : ThB w d t) => ih (ts ++ [t]) w' (by simp; omega) (by
      intro x hx
      rcases List.mem_append.1 hx with hx | hx
      · exact hts x hx
      · simp at hx; subst hx; exact ht) (fun p' wd' h1 h2 => hq p' wd' (by rw [h1]; simp; omega) h2)
    have hcell := hpc p[i] (List.getElem_mem hi1)
    apply WPL_step
    conv => arg 4; whnf
    cases mv with
    | false =>
      have ih2 := ih' ⟨p[i].cell, st, 0, 0, cl⟩ w4 ⟨hcell.1, hcell.2, Int.natCast_nonneg st, hst, rfl, rfl⟩
      simp [rm2, Thing.row] at ih2
      simp [rm2, hk, es, hw, Heap.length_set, up_ok, one_ok, hB, hW, hplI, hlt, hne, hne2, Heap.set_up, hle, irow, hb, e1, e2, e3, e4, hi1, hi1I, hin, Person.row]
      exact ih2
    | true =>
      obtain ⟨cc, w5, e5, hcc⟩ := upR_get w4 (w * d) hwdI (by omega)
      have ih2 := ih' ⟨cc, st, 0, 0, cl⟩ w5 ⟨Int.natCast_nonneg cc, hcc, Int.natCast_nonneg st, hst, rfl, rfl⟩
      simp [rm2, Thing.row] at ih2
      simp [rm2, hk, es, hw, Heap.length_set, up_ok, one_ok, hB, hW, hplI, hlt, hne, hne2, Heap.set_up, hle, irow, hb, e1, e2, e3, e4, e5, hwd, hwdI, hi1, hi1I, hin, Person.row]
      exact ih2
def rm3 (w d : Int) (L : Nat) (p : List Person) (ts : List Thing) (ls : List Int) : Fr :=
 [(4, zbox), (5, .box [.pure (.int .i64 w), .pure (.int .i64 d), .hdr (L, 46) 2 p.length 0 p.length, .hdr (L, 83) 5 ts.length 0 ts.length, .nils, apS (L, 96) 1 (ls.map irow), .nils]), (46, .arr 2 (p.map Person.row) 0 false), (83, .arr 5 (ts.map Thing.row) 0 false)]
theorem room_loop3 {nm : Nm} (hlt : nm.1 < H.length) (w d : Int) (p : List Person) (ts : List Thing) (Q : GX → GSt → Prop) : ∀ (k i : Nat) (ls : List Int) (wd : Int), i + k = 4 → 1 ≤ i → ls.length < i → ls.Pairwise (· < ·) → (∀ x ∈ ls, 1 ≤ x ∧ x < i) →
    (∀ (ls' : List Int) (wd' : Int), ls'.length ≤ 3 → ls'.Pairwise (· < ·) → (∀ x ∈ ls', 1 ≤ x ∧ x < 4) →
      Q (.exit 4) ⟨[(4, .bptr (H.length, 4) 0), (5, .bptr (H.length, 5) 0)], apF 96 1 (ls'.map irow) (rm3 w d H.length p ts ls') :: H.set nm (wbox wd'), 99⟩) →
    WPL KC needT 47 (lp Tryz.f47 2) [0, 4, 5, 10] [4, 5] Q
      [(0, .bptr nm 0), (4, .bptr (H.length, 4) 0), (5, .bptr (H.length, 5) 0), (10, .pure (.int .i64 i))] (apF 96 1 (ls.map irow) (rm3 w d H.length p ts ls) :: H.set nm (wbox wd)) 99 := by
  have hne : ¬ nm.1 = H.length := by omega
  have hne2 : ¬ nm.1 = H.length + 1 := by omega
  have hle : nm.1 ≤ H.length := by omega
  have hB := fun w f0 f1 => box2 hlt w f0 f1
  have hW := fun w f0 f1 => word2 hlt w f0 f1
  intro k
  induction k with
  | zero =>
    intro i ls wd hi h1 hl hps hb hq
    have hq' := hq ls wd (by omega) hps (fun x hx => ⟨(hb x hx).1, by have := (hb x hx).2; omega⟩)
    have : ¬ (i : Int) ≤ 3 := by omega
    apply WPL_step
    conv => arg 4; whnf
    simp [rm3, Heap.length_set, this]
    simpa [rm3] using hq'
  | succ k ih =>
    intro i ls wd hi h1 hl hps hb hq
    have hw := w64 (x := (i : Int) + 1) (by omega) (by omega)
    have hk : (i : Int) ≤ 3 := by omega
    have hbb : (ls.length + 1) * 8 ≤ 1099511627776 := by omega
    obtain ⟨on, w1, e1⟩ : ∃ (on : Bool) (w1 : Int), oneR wd 3 = (on, w1) := ⟨_, _, rfl⟩
    apply WPL_step
    conv => arg 4; whnf
    cases on with
    | true =>
      have ih2 := ih (i + 1) ls w1 (by omega) (by omega) (by omega) hps (fun x hx => ⟨(hb x hx).1, by have := (hb x hx).2; omega⟩) hq
      simp [rm3] at ih2
      simp [rm3, hk, hw, Heap.length_set, one_ok, hB, hW, hlt, hne, hne2, Heap.set_up, hle, e1]
      exact ih2
    | false =>
      have ih2 := ih (i + 1) (ls ++ [(i : Int)]) w1 (by omega) (by omega) (by simp; omega) (List.pairwise_append.2 ⟨hps, by simp, fun a ha b hb' => by simp at hb'; subst hb'; exact (hb a ha).2⟩)
        (fun x hx => by
          rcases List.mem_append.1 hx with hx | hx
          · exact ⟨(hb x hx).1, by have := (hb x hx).2; omega⟩
          · simp at hx; subst hx; constructor <;> omega) hq
      simp [rm3, irow] at ih2
      simp [rm3, hk, hw, Heap.length_set, one_ok, hB, hW, hlt, hne, hne2, Heap.set_up, hle, e1, irow, hbb]
      exact ih2
structure RoomB (r : Rite) : Prop where
 w1 : 1 ≤ r.wide
 w3 : r.wide ≤ 3
 d1 : 1 ≤ r.deep
 d3 : r.deep ≤ 3
 p0 : r.people ≠ []
 p3 : r.people.length ≤ 3
 pn : (r.people.map Person.cell).Nodup
 pc : ∀ x ∈ r.people, (1 ≤ x.role ∧ x.role ≤ 3) ∧ 0 ≤ x.cell ∧ x.cell < r.wide * r.deep
 t0 : r.things ≠ []
 t4 : r.things.length ≤ 4
 tc : ∀ t ∈ r.things, ThB r.wide r.deep t
 seen : r.seen = []
 lp : r.lapses.Pairwise (· < ·)
 lr : ∀ x ∈ r.lapses, 1 ≤ x ∧ x < 4
 ll : r.lapses.length ≤ 3
 acts : r.acts = []
def roomG (n2 n3 n5 : Nm) (r : Rite) : GV := .agg [.pure (.int .i64 r.wide), .pure (.int .i64 r.deep), .hdr n2 2 r.people.length 0 r.people.length, .hdr n3 5 r.things.length 0 r.things.length, .nils, apS n5 1 (r.lapses.map irow), .nils]
def apSet (H : Heap) (nm : Nm) (es : Nat) (rows : List (List PV)) : Heap := if rows = [] then H else H.set nm (.arr es rows 0 false)
theorem roomOf_ok {nm : Nm} (hB0 : isBox H nm)
    (hf1 : H.get (H.length - 1, newKey c 46) = none) (hf2 : H.get (H.length - 1, newKey c 83) = none) (hf3 : H.get (H.length - 1, newKey c 96) = none) (hnk : ∀ k, nm ≠ (H.length - 1, newKey c k)) :
    ∃ r wd, RoomB r ∧ gcall KC (geval KC) 47 [.bptr nm 0, .pure (.int .i64 3)] c H = some (roomG (H.length - 1, newKey c 46) (H.length - 1, newKey c 83) (H.length - 1, newKey c 96) r,
      apSet (((H.set nm (wbox wd)).set (H.length - 1, newKey c 46) (.arr 2 (r.people.map Person.row) 0 false)).set (H.length - 1, newKey c 83) (.arr 5 (r.things.map Thing.row) 0 false)) (H.length - 1, newKey c 96) 1 (r.lapses.map irow)) := by
  have hlt := isBox_lt hB0
  have hset := isBox_set hB0
  have hne : ¬ nm.1 = H.length := by omega
  have hne2 : ¬ nm.1 = H.length + 1 := by omega
  have hle : nm.1 ≤ H.length := by omega
  suffices hs : WPv (gcall KC (geval KC) 47 [.bptr nm 0, .pure (.int .i64 3)] c H) (fun x => ∃ r wd, RoomB r ∧ x = (roomG (H.length - 1, newKey c 46) (H.length - 1, newKey c 83) (H.length - 1, newKey c 96) r,
      apSet (((H.set nm (wbox wd)).set (H.length - 1, newKey c 46) (.arr 2 (r.people.map Person.row) 0 false)).set (H.length - 1, newKey c 83) (.arr 5 (r.things.map Thing.row) 0 false)) (H.length - 1, newKey c 96) 1 (r.lapses.map irow))) by
    obtain ⟨x, hx, r, wd, h1, h2⟩ := hs
    exact ⟨r, wd, h1, by rw [hx, h2]⟩
  refine call_enter KC needT Tryz.func47 rfl rfl good47 rfl rfl rfl (by simp) (by omega) ?_
  obtain ⟨w0, hw0⟩ : ∃ w0, wordAt H nm = w0 := ⟨_, rfl⟩
  rw [hw0] at hset
  have hB' : ∀ f, isBox (f :: H) nm := fun f => isBox_up hB0
  have hW' : ∀ f, wordAt (f :: H) nm = w0 := fun f => (wordAt_up hlt).trans hw0
  have hB1 := fun w f => box1 hlt w f
  have hW1 := fun w f => word1 hlt w f
  have hB2 := fun w f0 f1 => box2 hlt w f0 f1
  have hW2 := fun w f0 f1 => word2 hlt w f0 f1
  obtain ⟨wi, w1, e1, hwi1, hwi3⟩ := anyR_get w0 3 (by omega) (by omega)
  obtain ⟨de, w2, e2, hde1, hde3⟩ := anyR_get w1 3 (by omega) (by omega)
  obtain ⟨N, hN⟩ : ∃ N, N = wi * de := ⟨_, rfl⟩
  have hN9 : N ≤ 3 * 3 := by rw [hN]; exact Nat.mul_le_mul (by omega) (by omega)
  have hN0 : 0 < N := by rw [hN]; exact Nat.mul_pos hwi1 hde1
  have hNI : (wi : Int) * (de : Int) = (N : Int) := by rw [hN]; simp
  have hwN : IntKind.i64.wrap ((wi : Int) * (de : Int)) = (N : Int) := by rw [hNI]; exact w64 (by omega) (by omega)
  obtain ⟨cells, w3, e3⟩ : ∃ cells w3, orderV N w2 = (cells, w3) := ⟨_, _, rfl⟩
  have hpm : cells.Perm ((List.range N).map Int.ofNat) := by have := orderV_perm (n := N) w2 (by omega); rwa [e3] at this
  have hcl : cells.length = N := by simpa using hpm.length_eq
  have hcn : cells.Nodup := hpm.nodup_iff.2 (List.Pairwise.map Int.ofNat (fun a b h e => h (Int.ofNat.inj e)) List.nodup_range)
  have hcr : ∀ x ∈ cells, 0 ≤ x ∧ x < N := fun x hx => by
    have := hpm.mem_iff.1 hx
    simp only [List.mem_map, List.mem_range] at this
    obtain ⟨a, h1, h2⟩ := this
    subst h2; constructor
    · exact Int.natCast_nonneg a
    · exact Int.ofNat_lt.2 h1
  obtain ⟨mn, hmn⟩ : ∃ mn : Nat, mn = min 3 N := ⟨_, rfl⟩
  have hmI : (if (N : Int) < 3 then (N : Int) else 3) = (mn : Int) := by split <;> omega
  obtain ⟨np, w4, e4, hnp1, hnp2⟩ := anyR_get w3 mn (by omega) (by omega)
  obtain ⟨m, rfl⟩ : ∃ m, np = m + 1 := ⟨np - 1, by omega⟩
  obtain ⟨ro, w5, e5, hro1, hro3⟩ := anyR_get w4 3 (by omega) (by omega)
  have c0 : 0 < cells.length := by omega
  have hNm : N ≤ 1000000 := by omega
  have gc : cells[0]? = some cells[0] := List.getElem?_eq_getElem c0
  simp
  simp [Heap.length_set, any_ok, order_ok, hB', hW', hB1, hW1, hB2, hW2, hlt, hne, hne2, Heap.set_up, hle, e1, e2, hwN, hN0, hNm, e3, hcl, hmI, e4]
  have hes : ((m : Int) + 1) - 1 = m := by omega
  have hwm := w64 (x := (m : Int)) (by omega) (by omega)
  have hm0 : (0 : Int) < (m : Int) + 1 := by omega
  have hN1 : (0 : Int) < (N : Int) := by omega
  have L1 := fun Q => room_loop1 (H := H) hlt wi de cells (by omega) Q m [⟨ro, cells[0]⟩] w5 (by simp; omega) (by simp) (by simp [List.take_one, List.head?_eq_getElem?, c0]) (by simp; omega)
  simp [rm1, zbox, Person.row] at L1
  apply WPL_step
  conv => arg 4; whnf
  simp [hm0, hes, hwm, Heap.length_set, any_ok, hB2, hW2, hlt, hne, hne2, Heap.set_up, hle, e5, hN1, hcl, irow, gc]
  refine L1 _ fun p wd1 hp1 hp2 hp3 => ?_
  clear L1
  have hp0 : p ≠ [] := by intro h; subst h; simp at hp1; omega
  have hpl : p.length ≤ 3 := by omega
  have hpc : ∀ x ∈ p, 0 ≤ x.cell ∧ x.cell < (wi : Int) * de := fun x hx => by
    have h1 : x.cell ∈ p.map Person.cell := List.mem_map_of_mem hx
    rw [hp2] at h1
    have := hcr _ (List.mem_of_mem_take h1)
    rw [hNI]; exact this
  obtain ⟨nt, w6, e6, hnt1, hnt4⟩ := anyR_get wd1 4 (by omega) (by omega)
  have L2 := fun Q => room_loop2 (H := H) hlt wi de (by rw [hwN, hNI]) (by rw [hNI]; omega) (by rw [hNI]; omega) p hp0 (by omega) hpc Q nt [] w6 (by simp; omega) (by simp)
  simp [rm2, zbox, apS_nil, apF_nil] at L2
  simp [Heap.length_set, any_ok, hB1, hW1, hlt, hne, hne2, Heap.set_up, hle, e6]
  refine L2 _ fun ts wd2 ht1 ht2 => ?_
  clear L2
  have ht0 : ts ≠ [] := by intro h; subst h; simp at ht1; omega
  have L3 := fun Q => room_loop3 (H := H) hlt wi de p ts Q 3 1 [] wd2 (by omega) (by omega) (by simp) .nil (by simp)
  simp [rm3, zbox, apS_nil, apF_nil] at L3
  simp [apS, apF, ht0]
  refine L3 _ fun ls wd3 hl1 hl2 hl3 => ?_
  clear L3
  have hRB : RoomB ⟨wi, de, p, ts, [], ls, []⟩ :=
    { w1 := by show (1 : Int) ≤ wi; omega, w3 := by show (wi : Int) ≤ 3; omega, d1 := by show (1 : Int) ≤ de; omega, d3 := by show (de : Int) ≤ 3; omega, p0 := hp0, p3 := hpl, pn := by
        show (p.map Person.cell).Nodup
        rw [hp2]; exact hcn.sublist (List.take_sublist ..), pc := fun x hx => ⟨hp3 x hx, hpc x hx⟩, t0 := ht0, t4 := by show ts.length ≤ 4; omega, tc := ht2, seen := rfl, lp := hl2, lr := hl3, ll := hl1, acts := rfl }
  have n12 : newKey c 46 ≠ newKey c 83 := by unfold newKey; omega
  have n13 : newKey c 46 ≠ newKey c 96 := by unfold newKey; omega
  have n23 : newKey c 83 ≠ newKey c 96 := by unfold newKey; omega
  have k1 : (H.length - 1, newKey c 83) ≠ ((H.length - 1, newKey c 46) : Nm) := fun e => n12 (Prod.mk.inj e).2.symm
  have k2 : (H.length - 1, newKey c 96) ≠ ((H.length - 1, newKey c 46) : Nm) := fun e => n13 (Prod.mk.inj e).2.symm
  have k3 : (H.length - 1, newKey c 96) ≠ ((H.length - 1, newKey c 83) : Nm) := fun e => n23 (Prod.mk.inj e).2.symm
  have g1 : (H.set nm (wbox wd3)).get (H.length - 1, newKey c 46) = none := (Heap.get_set_other _ (hnk _).symm).trans hf1
  have g2 : ∀ b, ((H.set nm (wbox wd3)).set (H.length - 1, newKey c 46) b).get (H.length - 1, newKey c 83) = none := fun b => (Heap.get_set_other b k1).trans ((Heap.get_set_other _ (hnk _).symm).trans hf2)
  have g3 : ∀ b b', (((H.set nm (wbox wd3)).set (H.length - 1, newKey c 46) b).set (H.length - 1, newKey c 83) b').get (H.length - 1, newKey c 96) = none := fun b b' => (Heap.get_set_other b' k3).trans ((Heap.get_set_other b k2).trans ((Heap.get_set_other _ (hnk _).symm).trans hf3))
  simp
  suffices hs : ∀ x, gleave KC 47 c (GV.agg
        [GV.pure (PV.int IntKind.i64 ↑wi), GV.pure (PV.int IntKind.i64 ↑de),
          GV.hdr (List.length H, 46) 2 p.length 0 p.length, GV.hdr (List.length H, 83) 5 ts.length 0 ts.length, GV.nils,
          apS (List.length H, 96) 1 (List.map irow ls), GV.nils])
      (apF 96 1 (List.map irow ls)
          [(4, x), (5, x),
            (46, Blk.arr 2 (List.map Person.row p) 0 false), (83, Blk.arr 5 (List.map Thing.row ts) 0 false)] ::
        H.set nm (wbox wd3)) = some (roomG (List.length H - 1, newKey c 46) (List.length H - 1, newKey c 83) (List.length H - 1, newKey c 96) ⟨wi, de, p, ts, [], ls, []⟩,
              apSet
                (((H.set nm (wbox wd3)).set (List.length H - 1, newKey c 46)
                      (Blk.arr 2 (List.map Person.row p) 0 false)).set
                  (List.length H - 1, newKey c 83) (Blk.arr 5 (List.map Thing.row ts) 0 false))
                (List.length H - 1, newKey c 96) 1 (List.map irow ls)) by
    rw [hs]
    rw [WPv_some]
    exact ⟨_, hRB, _, rfl⟩
  intro x
  by_cases hls : ls = []
  · subst hls
    simp [apS_nil, apF_nil, gleave_keep, refs, refs2, refs1, dedup, moveOut, cleanBlk, g1, g2, g3, ren, ren2, ren1, roomG, apSet, Heap.length_set, Person.row, Thing.row]
  · simp [apS, apF, hls, gleave_keep, refs, refs2, refs1, dedup, moveOut, cleanBlk, g1, g2, g3, ren, ren2, ren1, roomG, apSet, Heap.length_set, Person.row, Thing.row]
end
section
variable {c : Nat} {H : Heap}
def rdC (H : Heap) : GV → PV → Prop
 | .pure p, q => p = q
 | .nils, q => q = .slice []
 | .hdr nm es top lo len, q => ∃ rows v ro, H.get nm = some (.arr es rows v ro) ∧ v ≤ top ∧ rows.length = top ∧ lo = 0 ∧ len = top ∧ q = .slice rows
 | _, _ => False
def rdL (H : Heap) : List GV → List PV → Prop
 | [], [] => True
 | g :: l, q :: m => rdC H g q ∧ rdL H l m
 | _, _ => False
def rdG (H : Heap) : GV → PV → Prop
 | .agg l, .agg m => rdL H l m
 | .pure p, q => p = q
 | _, _ => False
@[simp] theorem rdC_pure {p q : PV} : rdC H (.pure p) q = (p = q) := .trans rfl rfl
@[simp] theorem rdC_nils {q : PV} : rdC H .nils q = (q = .slice []) := .trans rfl rfl
@[simp] theorem rdL_nil : rdL H [] [] = True := .trans rfl rfl
@[simp] theorem rdL_cons {g : GV} {q : PV} {l : List GV} {m : List PV} : rdL H (g :: l) (q :: m) = (rdC H g q ∧ rdL H l m) := .trans rfl rfl
@[simp] theorem rdG_agg {l : List GV} {m : List PV} : rdG H (.agg l) (.agg m) = rdL H l m := .trans rfl rfl
def RoSim (H1 H2 : Heap) : Prop := ∀ nm es rows v ro, H1.get nm = some (.arr es rows v ro) → ∃ ro', H2.get nm = some (.arr es rows v ro')
theorem RoSim.refl (H : Heap) : RoSim H H := fun _ _ _ _ ro h => ⟨ro, h⟩
theorem RoSim.trans {A B C : Heap} (h1 : RoSim A B) (h2 : RoSim B C) : RoSim A C := fun nm es rows v ro h => by
 obtain ⟨r1, a⟩ := h1 nm es rows v ro h
 exact h2 nm es rows v r1 a
theorem rdC_sim {H1 H2 : Heap} (h : RoSim H1 H2) : ∀ {g : GV} {q : PV}, rdC H1 g q → rdC H2 g q := by
  intro g q hg
  cases g with
  | hdr nm es top lo len =>
    obtain ⟨rows, v, ro, a, b, d⟩ := hg
    obtain ⟨ro', e⟩ := h _ _ _ _ _ a
    exact ⟨rows, v, ro', e, b, d⟩
  | pure p => exact hg
  | nils => exact hg
  | _ => exact hg.elim
theorem rdL_sim {H1 H2 : Heap} (h : RoSim H1 H2) : ∀ {l : List GV} {m : List PV}, rdL H1 l m → rdL H2 l m
 | [], [], _ => trivial
 | g :: l, q :: m, hl => ⟨rdC_sim h hl.1, rdL_sim h hl.2⟩
 | [], _ :: _, hl => hl.elim
 | _ :: _, [], hl => hl.elim
theorem rdG_sim {H1 H2 : Heap} (h : RoSim H1 H2) {g : GV} {q : PV} (hg : rdG H1 g q) : rdG H2 g q := by
  cases g with
  | agg l =>
    cases q with
    | agg m => exact rdL_sim h hg
    | _ => exact hg.elim
  | pure p => exact hg
  | _ => cases q <;> exact hg.elim
theorem frzCell_rd {g : GV} {q : PV} (h : rdC H g q) : canon1 (frzCell H g).1 = .pure q ∧ RoSim H (frzCell H g).2 := by
  cases g with
  | hdr nm es top lo len =>
    obtain ⟨rows, v, ro, h1, h2, h3, rfl, rfl, rfl⟩ := h
    subst h3
    have e : pureCell H (.hdr nm es rows.length 0 rows.length) = (.slice rows, H.set nm (.arr es rows v true)) := by simp [h1, h2]
    simp only [frzCell, e]
    refine ⟨rfl, fun nm' es' rows' v' ro' hg => ?_⟩
    by_cases hn : nm' = nm
    · subst hn
      rw [h1] at hg
      cases hg
      exact ⟨true, Heap.get_set _ (Heap.get_lt h1)⟩
    · exact ⟨ro', (Heap.get_set_other _ hn).trans hg⟩
  | pure p => cases h; exact ⟨rfl, RoSim.refl _⟩
  | nils => cases h; exact ⟨rfl, RoSim.refl _⟩
  | _ => exact h.elim
theorem frzCells_rd : ∀ {l : List GV} {m : List PV} {H : Heap}, rdL H l m → (frzCells H l).1.map canon1 = m.map .pure ∧ RoSim H (frzCells H l).2
  | [], [], H, _ => ⟨rfl, RoSim.refl _⟩
  | g :: l, q :: m, H, h => by
    obtain ⟨a, b⟩ := frzCell_rd h.1
    obtain ⟨d, e⟩ := frzCells_rd (rdL_sim b h.2)
    simp only [frzCells, List.map_cons, a, d]
    exact ⟨trivial, b.trans e⟩
  | [], _ :: _, _, hl => hl.elim
  | _ :: _, [], _, hl => hl.elim
theorem allPure_map2 : ∀ {l : List GV} {ps : List PV}, allPure l = some ps → l = ps.map .pure
  | [], ps, h => by cases h; rfl
  | g :: l, ps, h => by
    cases g with
    | pure p =>
      rw [allPure_pure] at h
      cases hl : allPure l with
      | none => rw [hl] at h; cases h
      | some qs => rw [hl] at h; cases h; rw [allPure_map2 hl]; rfl
    | _ => simp [allPure] at h
theorem canon_mk {l : List GV} {m : List PV} (h : l.map canon1 = m.map .pure) : canon (mkAgg l) = .pure (.agg m) := by
  rw [mkAgg_def]
  cases hl : allPure l with
  | some ps =>
    have e := allPure_map2 hl
    subst e
    have : ps = m := by
      have h' : ps.map GV.pure = m.map .pure := by simpa [canon1, Function.comp_def] using h
      exact (List.map_inj_right (fun a b e => by cases e; rfl)).1 h'
    rw [this]; rfl
  | none =>
    show canon (.agg l) = _
    rw [canon_agg, h]
    simp
theorem frzG_rd {g : GV} {q : PV} (h : rdG H g q) : canon (frzVal H g).1 = .pure q ∧ RoSim H (frzVal H g).2 := by
  cases g with
  | agg l =>
    cases q with
    | agg m =>
      obtain ⟨a, b⟩ := frzCells_rd (H := H) (l := l) (m := m) h
      exact ⟨canon_mk a, b⟩
    | _ => exact h.elim
  | pure p => cases h; exact ⟨rfl, RoSim.refl _⟩
  | _ => cases q <;> exact h.elim
theorem frz1 {g : GV} {q : PV} (h : rdG H g q) : (frzVals H [g]).1.map canon = [.pure q] := by
 simp only [frzVals, List.map_cons, List.map_nil, (frzG_rd h).1]
theorem frzVals_cons {g : GV} {r : List GV} : (frzVals H (g :: r)).1.map canon = canon (frzVal H g).1 :: (frzVals (frzVal H g).2 r).1.map canon := rfl
theorem frz3 {a b d : GV} {p q r : PV} (h1 : rdG H a p) (h2 : rdG H b q) (h3 : rdG H d r) : (frzVals H [a, b, d]).1.map canon = [.pure p, .pure q, .pure r] := by
 obtain ⟨x1, y1⟩ := frzG_rd h1
 obtain ⟨x2, y2⟩ := frzG_rd (rdG_sim y1 h2)
 obtain ⟨x3, y3⟩ := frzG_rd (rdG_sim y2 (rdG_sim y1 h3))
 rw [frzVals_cons, x1, frzVals_cons, x2, frzVals_cons, x3]
 rfl
theorem frz4b {nm : Nm} {b d e : GV} {q r p : PV} (h2 : rdG H b q) (h3 : rdG H d r) (h4 : rdG H e p) : (frzVals H [.bptr nm 0, b, d, e]).1.map canon = [.bptr nm 0, .pure q, .pure r, .pure p] := by
 rw [frzVals_cons, frzVal_bptr, frz3 h2 h3 h4]
 rfl
theorem mightB_ok {rg sg : GV} (r : Rite) (s : Scene) (w n : Nat) (hR : rdG H rg (.agg r.row)) (hS : rdG H sg (.agg s.row)) (hs : ScB r s) (hw : w < r.people.length) (hpl : r.people.length ≤ 1000000) (htl : r.things.length ≤ 1000000) (hwide : r.wide ≠ 0) (hn : IntKind.i64.wrap (r.wide * r.deep) = n) (hn0 : 0 < n) (hnb : n ≤ 1000000) {nm : Nm} (hB : isBox H nm) :
  gcall KC (geval KC) 49 [.bptr nm 0, rg, sg, .pure (.int .i64 w)] c H =
   some (.pure (.tuple [.agg (mightR r s w (everyL n r.things.length r.people.length w) (wordAt H nm)).1.1.row, .bool (mightR r s w (everyL n r.things.length r.people.length w) (wordAt H nm)).1.2]), H.set nm (wbox (mightR r s w (everyL n r.things.length r.people.length w) (wordAt H nm)).2)) := by
 have hlt := isBox_lt hB
 rw [gcall_bor KC rfl rfl, frz4b hR hS (show rdG H (.pure (.int .i64 w)) (.int .i64 w) from rfl)]
 have hget := isBox_get hB
 have hE : isBox ((emptyH H).set nm (wbox (wordAt H nm))) nm := isBox_set' (by rw [emptyH_length]; exact hlt)
 have hWE : wordAt ((emptyH H).set nm (wbox (wordAt H nm))) nm = wordAt H nm := wordAt_set (by rw [emptyH_length]; exact hlt)
 have M := might_ok (c := c) (H := (emptyH H).set nm (wbox (wordAt H nm))) r s w n hs hw hpl htl hwide hn hn0 hnb hE
 rw [hWE] at M
 generalize mightR r s w (everyL n r.things.length r.people.length w) (wordAt H nm) = res at M ⊢
 have hgs : ((emptyH H).set nm (wbox res.2)).get nm = some (wbox res.2) := Heap.get_set' (by rw [emptyH_length]; exact hlt)
 have hfl : ∀ w, flatGL [.pure (.int .u64 w)] = true := fun w => rfl
 unfold gborrow
 simp only [borBox, hget, wbox]
 simp only [wbox] at M hgs
 simp [flatGL, flatG, flatP, M, hgs, lentEnd, lentV, lentLL, lent2, lent1, flatPL, refs, refs2, refs1, dedup, lentIns, Heap.length_set, RAct.row]
theorem hdrS_sc (L k1 k2 k3 : Nat) (s : Scene) : hdrS L k1 k2 k3 s = scH (L, k1) (L, k2) (L, k3) s := rfl
theorem firstB_ok {rg : GV} (r : Rite) (hR : rdG H rg (.agg r.row)) (hp0 : r.people ≠ []) (ht0 : r.things ≠ []) (hpl : r.people.length ≤ 1000000) (htl : r.things.length ≤ 1000000) (hH : 0 < H.length)
  (hf1 : H.get (H.length - 1, newKey c 22) = none) (hf2 : H.get (H.length - 1, newKey c 27) = none) (hf3 : H.get (H.length - 1, newKey c 53) = none) :
  gcall KC (geval KC) 48 [rg] c H = some (scH (H.length - 1, newKey c 22) (H.length - 1, newKey c 27) (H.length - 1, newKey c 53) (firstV r),
   scSet H (H.length - 1, newKey c 22) (H.length - 1, newKey c 27) (H.length - 1, newKey c 53) 0 0 0 (firstV r)) := by
 rw [gcall_bor KC rfl rfl, frz1 hR]
 have F := first_ok0 (c := c) (H := emptyH H) r hp0 ht0 hpl htl (by rw [emptyH_length]; exact hH) (emptyH_get _ _) (emptyH_get _ _) (emptyH_get _ _)
 simp only [emptyH_length] at F
 have hL : H.length - 1 < (emptyH H).length := by rw [emptyH_length]; omega
 have hL' : H.length - 1 < H.length := by omega
 have n12 : newKey c 22 ≠ newKey c 27 := by unfold newKey; omega
 have n13 : newKey c 22 ≠ newKey c 53 := by unfold newKey; omega
 have n23 : newKey c 27 ≠ newKey c 53 := by unfold newKey; omega
 have k1 : (H.length - 1, newKey c 27) ≠ ((H.length - 1, newKey c 22) : Nm) := fun e => n12 (Prod.mk.inj e).2.symm
 have k2 : (H.length - 1, newKey c 53) ≠ ((H.length - 1, newKey c 22) : Nm) := fun e => n13 (Prod.mk.inj e).2.symm
 have k3 : (H.length - 1, newKey c 53) ≠ ((H.length - 1, newKey c 27) : Nm) := fun e => n23 (Prod.mk.inj e).2.symm
 generalize hE : ((((emptyH H).set (H.length - 1, newKey c 22) (.arr 1 ((firstV r).people.map irow) 0 false)).set (H.length - 1, newKey c 27) (.arr 2 ((firstV r).hands.map Hands.row) 0 false)).set (H.length - 1, newKey c 53) (.arr 2 ((firstV r).things.map Spot.row) 0 false)) = E at F
 have q1 : E.get (H.length - 1, newKey c 22) = some (.arr 1 ((firstV r).people.map irow) 0 false) := by rw [← hE, Heap.get_set_other _ k2.symm, Heap.get_set_other _ k1.symm]; exact Heap.get_set' hL
 have q2 : E.get (H.length - 1, newKey c 27) = some (.arr 2 ((firstV r).hands.map Hands.row) 0 false) := by rw [← hE, Heap.get_set_other _ k3.symm]; exact Heap.get_set' (by rw [Heap.length_set]; exact hL)
 have q3 : E.get (H.length - 1, newKey c 53) = some (.arr 2 ((firstV r).things.map Spot.row) 0 false) := by rw [← hE]; exact Heap.get_set' (by rw [Heap.length_set, Heap.length_set]; exact hL)
 have g2 : ∀ b, (H.set (H.length - 1, newKey c 22) b).get (H.length - 1, newKey c 27) = none := fun b => (Heap.get_set_other b k1).trans hf2
 have g3 : ∀ b b', ((H.set (H.length - 1, newKey c 22) b).set (H.length - 1, newKey c 27) b').get (H.length - 1, newKey c 53) = none := fun b b' => (Heap.get_set_other b' k3).trans ((Heap.get_set_other b k2).trans hf3)
 have fr1 : ∀ l : List Int, flatRows (l.map irow) = true := fun l => by induction l with | nil => rfl | cons a l ih => simp [flatRows, flatPL, flatP, irow, ih]
 have fr2 : ∀ l : List Hands, flatRows (l.map Hands.row) = true := fun l => by induction l with | nil => rfl | cons a l ih => simp [flatRows, flatPL, flatP, Hands.row, ih]
 have fr3 : ∀ l : List Spot, flatRows (l.map Spot.row) = true := fun l => by induction l with | nil => rfl | cons a l ih => simp [flatRows, flatPL, flatP, Spot.row, ih]
 unfold gborrow
 simp [borBox, F, hdrS_sc, scH, lentEnd, lentV, lentLL, lentL, lent2, lent1, refs, refs2, refs1, dedup, lentIns, n12, n13, n23, n12.symm, n13.symm, n23.symm, q1, q2, q3, hf1, g2, g3, fr1, fr2, fr3, scSet]
theorem apartB_ok {sg ag bg : GV} {s : Scene} {w v : Nat} {a b : RAct} (hS : rdG H sg (.agg s.row)) (hA : rdG H ag (.agg a.row)) (hB : rdG H bg (.agg b.row)) (hp : w < s.people.length) (hh : w < s.hands.length) (hw : a.who = w) (ha : a.hand = 0 ∨ a.hand = 1)
  (hp2 : v < s.people.length) (hh2 : v < s.hands.length) (hw2 : b.who = v) (hb : b.hand = 0 ∨ b.hand = 1) (hH : 0 < H.length) :
  gcall KC (geval KC) 53 [sg, ag, bg] c H = some (.pure (.bool (apartV s w a v b)), H) :=
 bor_flat KC rfl rfl (frz3 hS hA hB) rfl hH (fun H hH => apart_ok (c := c) hp hh hw ha hp2 hh2 hw2 hb hH) rfl
end
section
variable {c : Nat} {H : Heap}
theorem eqI_loop (l : List Int) (hn : l.length ≤ 1000000) (Q : GX → GSt → Prop) (hH : 0 < H.length) : ∀ k i : Nat, i + k = l.length →
    Q (.exit 0) ⟨[(4, gdead)], H, 26⟩ →
    WPL KC needT 68 (lp Tryz.f68 0) [0, 1, 5] [4] Q [(0, .pure (.slice (l.map irow))), (1, .pure (.slice (l.map irow))), (5, .pure (.int .i64 i))] H 26 := by
  intro k
  induction k with
  | zero =>
    intro i hi h1
    apply WPL_step
    conv => arg 4; whnf
    have : ¬ i < l.length := by omega
    simp [this, hH]
    exact h1
  | succ k ih =>
    intro i hi h1
    have hia : i < l.length := by omega
    have hw := w64 (x := (i : Int) + 1) (by omega) (by omega)
    have ih' := ih (i + 1) (by omega) h1
    apply WPL_step
    conv => arg 4; whnf
    simp [hia, hH, irow, hw]
    simpa [irow] using ih'
theorem eqI_ok (l : List Int) (hn : l.length ≤ 1000000) (hH : 0 < H.length) :
  gcall KC (geval KC) 68 [.pure (.slice (l.map irow)), .pure (.slice (l.map irow))] c H = some (.pure (.bool true), H) := by
 refine bor_c rfl rfl rfl rfl rfl hH fun H hH => ?_
 refine WPv_eq (call_enter0 KC needT Tryz.func68 rfl rfl good68 (by simp) hH ?_)
 simp
 refine eqI_loop (H := [] :: H) l hn _ (by simp) l.length 0 (by omega) ?_
 simp [gleave_free]
theorem eqActs_loop (l : List RAct) (hn : l.length ≤ 1000000) (Q : GX → GSt → Prop) (hH : 0 < H.length) : ∀ k i : Nat, i + k = l.length →
    Q (.exit 0) ⟨[(4, gdead)], H, 26⟩ →
    WPL KC needT 31 (lp Tryz.f31 0) [0, 1, 5] [4] Q [(0, .pure (.slice (l.map RAct.row))), (1, .pure (.slice (l.map RAct.row))), (5, .pure (.int .i64 i))] H 26 := by
  intro k
  induction k with
  | zero =>
    intro i hi h1
    apply WPL_step
    conv => arg 4; whnf
    have : ¬ i < l.length := by omega
    simp [this, hH]
    exact h1
  | succ k ih =>
    intro i hi h1
    have hia : i < l.length := by omega
    have hw := w64 (x := (i : Int) + 1) (by omega) (by omega)
    have ih' := ih (i + 1) (by omega) h1
    apply WPL_step
    conv => arg 4; whnf
    simp [hia, hH, RAct.row, hw]
    simpa [RAct.row] using ih'
theorem eqActs_ok (l : List RAct) (hn : l.length ≤ 1000000) (hH : 0 < H.length) :
  gcall KC (geval KC) 31 [.pure (.slice (l.map RAct.row)), .pure (.slice (l.map RAct.row))] c H = some (.pure (.bool true), H) := by
 refine bor_c rfl rfl rfl rfl rfl hH fun H hH => ?_
 refine WPv_eq (call_enter0 KC needT Tryz.func31 rfl rfl good31 (by simp) hH ?_)
 simp
 refine eqActs_loop (H := [] :: H) l hn _ (by simp) l.length 0 (by omega) ?_
 simp [gleave_free]
theorem eqPeople_loop (r : Rite) (hn : r.people.length ≤ 1000000) (Q : GX → GSt → Prop) : ∀ k i : Nat, i + k = r.people.length →
    Q (.exit 0) ⟨[(2, .bptr (H.length, 2) 0), (3, .bptr (H.length, 3) 0), (4, gdead)], [(2, rbox r), (3, rbox r)] :: H, 97⟩ →
    WPL KC needT 23 (lp Tryz.f23 0) [2, 3, 5] [2, 3, 4] Q [(2, .bptr (H.length, 2) 0), (3, .bptr (H.length, 3) 0), (5, .pure (.int .i64 i))] ([(2, rbox r), (3, rbox r)] :: H) 97 := by
  intro k
  induction k with
  | zero =>
    intro i hi h1
    apply WPL_step
    conv => arg 4; whnf
    have : ¬ i < r.people.length := by omega
    simp [this, rbox]
    simpa [rbox] using h1
  | succ k ih =>
    intro i hi h1
    have hia : i < r.people.length := by omega
    have hw := w64 (x := (i : Int) + 1) (by omega) (by omega)
    have ih' := ih (i + 1) (by omega) h1
    apply WPL_step
    conv => arg 4; whnf
    simp [hia, Person.row, hw, rbox]
    simpa [Person.row, rbox] using ih'
theorem eqThings_loop (r : Rite) (hn : r.things.length ≤ 1000000) (Q : GX → GSt → Prop) : ∀ k i : Nat, i + k = r.things.length →
    Q (.exit 2) ⟨[(4, gdead)], [(2, rbox r), (3, rbox r)] :: H, 97⟩ →
    WPL KC needT 23 (lp Tryz.f23 1) [2, 3, 6] [4] Q [(2, .bptr (H.length, 2) 0), (3, .bptr (H.length, 3) 0), (6, .pure (.int .i64 i))] ([(2, rbox r), (3, rbox r)] :: H) 97 := by
  intro k
  induction k with
  | zero =>
    intro i hi h1
    apply WPL_step
    conv => arg 4; whnf
    have : ¬ i < r.things.length := by omega
    simp [this, rbox]
    simpa [rbox] using h1
  | succ k ih =>
    intro i hi h1
    have hia : i < r.things.length := by omega
    have hw := w64 (x := (i : Int) + 1) (by omega) (by omega)
    have ih' := ih (i + 1) (by omega) h1
    apply WPL_step
    conv => arg 4; whnf
    simp [hia, Thing.row, hw, rbox]
    simpa [Thing.row, rbox] using ih'
theorem eqHands_loop (r : Scene) (hn : r.hands.length ≤ 1000000) (Q : GX → GSt → Prop) : ∀ k i : Nat, i + k = r.hands.length →
    Q (.exit 0) ⟨[(2, .bptr (H.length, 2) 0), (3, .bptr (H.length, 3) 0), (4, gdead)], [(2, sbox r), (3, sbox r)] :: H, 67⟩ →
    WPL KC needT 21 (lp Tryz.f21 0) [2, 3, 5] [2, 3, 4] Q [(2, .bptr (H.length, 2) 0), (3, .bptr (H.length, 3) 0), (5, .pure (.int .i64 i))] ([(2, sbox r), (3, sbox r)] :: H) 67 := by
  intro k
  induction k with
  | zero =>
    intro i hi h1
    apply WPL_step
    conv => arg 4; whnf
    have : ¬ i < r.hands.length := by omega
    simp [this, sbox]
    simpa [sbox] using h1
  | succ k ih =>
    intro i hi h1
    have hia : i < r.hands.length := by omega
    have hw := w64 (x := (i : Int) + 1) (by omega) (by omega)
    have ih' := ih (i + 1) (by omega) h1
    apply WPL_step
    conv => arg 4; whnf
    simp [hia, Hands.row, hw, sbox]
    simpa [Hands.row, sbox] using ih'
theorem eqSpots_loop (r : Scene) (hn : r.things.length ≤ 1000000) (Q : GX → GSt → Prop) : ∀ k i : Nat, i + k = r.things.length →
    Q (.exit 2) ⟨[(4, gdead)], [(2, sbox r), (3, sbox r)] :: H, 67⟩ →
    WPL KC needT 21 (lp Tryz.f21 1) [2, 3, 6] [4] Q [(2, .bptr (H.length, 2) 0), (3, .bptr (H.length, 3) 0), (6, .pure (.int .i64 i))] ([(2, sbox r), (3, sbox r)] :: H) 67 := by
  intro k
  induction k with
  | zero =>
    intro i hi h1
    apply WPL_step
    conv => arg 4; whnf
    have : ¬ i < r.things.length := by omega
    simp [this, sbox]
    simpa [sbox] using h1
  | succ k ih =>
    intro i hi h1
    have hia : i < r.things.length := by omega
    have hw := w64 (x := (i : Int) + 1) (by omega) (by omega)
    have ih' := ih (i + 1) (by omega) h1
    apply WPL_step
    conv => arg 4; whnf
    simp [hia, Spot.row, hw, sbox]
    simpa [Spot.row, sbox] using ih'
structure Short (r : Rite) : Prop where
 p : r.people.length ≤ 1000000
 t : r.things.length ≤ 1000000
 s : r.seen.length ≤ 1000000
 l : r.lapses.length ≤ 1000000
 a : r.acts.length ≤ 1000000
theorem eqRites_ok0 (r : Rite) (h : Short r) (hH : 0 < H.length) :
  gcall0 KC (geval KC) 23 [.pure (.agg r.row), .pure (.agg r.row)] c H = some (.pure (.bool true), H) := by
 refine WPv_eq (call_enter0 KC needT Tryz.func23 rfl rfl good23 (by simp) hH ?_)
 rw [rowR]
 have E1 := fun c (H : Heap) (hH : 0 < H.length) => eqI_ok (c := c) (H := H) r.seen h.s hH
 have E2 := fun c (H : Heap) (hH : 0 < H.length) => eqI_ok (c := c) (H := H) r.lapses h.l hH
 have E3 := fun c (H : Heap) (hH : 0 < H.length) => eqActs_ok (c := c) (H := H) r.acts h.a hH
 simp [E1, E2, E3]
 have L1 := fun Q h1 => eqPeople_loop (H := H) r h.p Q r.people.length 0 (by omega) h1
 simp [rbox] at L1
 refine L1 _ ?_
 simp
 have L2 := fun Q h1 => eqThings_loop (H := H) r h.t Q r.things.length 0 (by omega) h1
 simp [rbox] at L2
 refine L2 _ ?_
 simp [gleave_free]
theorem frz2 {a b : GV} {p q : PV} (h1 : rdG H a p) (h2 : rdG H b q) : (frzVals H [a, b]).1.map canon = [.pure p, .pure q] := by
 obtain ⟨x1, y1⟩ := frzG_rd h1
 obtain ⟨x2, y2⟩ := frzG_rd (rdG_sim y1 h2)
 rw [frzVals_cons, x1, frzVals_cons, x2]
 rfl
theorem eqRites_ok {g1 g2 : GV} (r : Rite) (h : Short r) (r1 : rdG H g1 (.agg r.row)) (r2 : rdG H g2 (.agg r.row)) (hH : 0 < H.length) :
  gcall KC (geval KC) 23 [g1, g2] c H = some (.pure (.bool true), H) :=
 bor_flat KC rfl rfl (frz2 r1 r2) rfl hH (fun H hH => eqRites_ok0 (c := c) r h hH) rfl
structure ShortS (s : Scene) : Prop where
 p : s.people.length ≤ 1000000
 h : s.hands.length ≤ 1000000
 t : s.things.length ≤ 1000000
theorem eqScenes_ok0 (s : Scene) (h : ShortS s) (hH : 0 < H.length) :
  gcall0 KC (geval KC) 21 [.pure (.agg s.row), .pure (.agg s.row)] c H = some (.pure (.bool true), H) := by
 refine WPv_eq (call_enter0 KC needT Tryz.func21 rfl rfl good21 (by simp) hH ?_)
 unfold Scene.row
 have E1 := fun c (H : Heap) (hH : 0 < H.length) => eqI_ok (c := c) (H := H) s.people h.p hH
 simp [E1]
 have L1 := fun Q h1 => eqHands_loop (H := H) s h.h Q s.hands.length 0 (by omega) h1
 simp [sbox] at L1
 refine L1 _ ?_
 simp
 have L2 := fun Q h1 => eqSpots_loop (H := H) s h.t Q s.things.length 0 (by omega) h1
 simp [sbox] at L2
 refine L2 _ ?_
 simp [gleave_free]
theorem eqScenes_ok {g1 g2 : GV} (s : Scene) (h : ShortS s) (r1 : rdG H g1 (.agg s.row)) (r2 : rdG H g2 (.agg s.row)) (hH : 0 < H.length) :
  gcall KC (geval KC) 21 [g1, g2] c H = some (.pure (.bool true), H) :=
 bor_flat KC rfl rfl (frz2 r1 r2) rfl hH (fun H hH => eqScenes_ok0 (c := c) s h hH) rfl
theorem eqPlays_loop (l : List Scene) (hs : ∀ s ∈ l, ShortS s) (hn : l.length ≤ 1000000) (Q : GX → GSt → Prop) (hH : 0 < H.length) : ∀ k i : Nat, i + k = l.length →
    Q (.exit 0) ⟨[(4, gdead)], H, 27⟩ →
    WPL KC needT 22 (lp Tryz.f22 0) [0, 1, 5] [4] Q [(0, .pure (.slice (l.map Scene.row))), (1, .pure (.slice (l.map Scene.row))), (5, .pure (.int .i64 i))] H 27 := by
  intro k
  induction k with
  | zero =>
    intro i hi h1
    apply WPL_step
    conv => arg 4; whnf
    have : ¬ i < l.length := by omega
    simp [this, hH]
    exact h1
  | succ k ih =>
    intro i hi h1
    have hia : i < l.length := by omega
    have hw := w64 (x := (i : Int) + 1) (by omega) (by omega)
    have ih' := ih (i + 1) (by omega) h1
    have E := fun c (H : Heap) (hH : 0 < H.length) => eqScenes_ok (c := c) (H := H) (g1 := .pure (.agg l[i].row)) (g2 := .pure (.agg l[i].row)) l[i] (hs _ (List.getElem_mem hia)) rfl rfl hH
    simp only [Scene.row] at E
    apply WPL_step
    conv => arg 4; whnf
    simp [hia, hH, Scene.row, hw, E]
    simpa [Scene.row] using ih'
theorem eqPlays_ok0 (l : List Scene) (hs : ∀ s ∈ l, ShortS s) (hn : l.length ≤ 1000000) (hH : 0 < H.length) :
  gcall0 KC (geval KC) 22 [.pure (.slice (l.map Scene.row)), .pure (.slice (l.map Scene.row))] c H = some (.pure (.bool true), H) := by
 refine WPv_eq (call_enter0 KC needT Tryz.func22 rfl rfl good22 (by simp) hH ?_)
 simp
 refine eqPlays_loop (H := [] :: H) l hs hn _ (by simp) l.length 0 (by omega) ?_
 simp [gleave_free]
theorem eqPlays_ok (l : List Scene) (hs : ∀ s ∈ l, ShortS s) (hn : l.length ≤ 1000000) (hH : 0 < H.length) :
  gcall KC (geval KC) 22 [.pure (.slice (l.map Scene.row)), .pure (.slice (l.map Scene.row))] c H = some (.pure (.bool true), H) :=
 bor_c rfl rfl rfl rfl rfl hH fun H hH => eqPlays_ok0 l hs hn hH
theorem fit_ok (x : Int) {n : Nat} (h0 : 0 < n) (hn : n ≤ 1000000) (hH : 0 < H.length) : ∃ k : Nat, k < n ∧ ∀ (c : Nat) (H : Heap), 0 < H.length → gcall KC (geval KC) 14 [.pure (.int .i64 x), .pure (.int .i64 n)] c H = some (.pure (.int .i64 k), H) := by
 by_cases h2 : n < 2
 ·refine ⟨0, h0, fun c H hH => ?_⟩
  have h2' : (n : Int) < 2 := by omega
  refine bor_c rfl rfl rfl rfl rfl hH fun H hH => ?_
  refine WPv_eq (call_enter0 KC needT Tryz.func14 rfl rfl good14 (by simp) hH ?_)
  simp [h2, h2', gleave_free]
 ·have h2' : ¬ (n : Int) < 2 := by omega
  have hz : ¬ (n : Int) = 0 := by omega
  have hz' : ¬ n = 0 := by omega
  have b1 := Int.tmod_lt_of_pos x (show (0 : Int) < n by omega)
  have b2 : -(n : Int) < x.tmod n := Int.lt_tmod_of_pos x (by omega)
  obtain ⟨m, hm⟩ : ∃ m, x.tmod n = m := ⟨_, rfl⟩
  rw [hm] at b1 b2
  by_cases h3 : m < 0
  ·refine ⟨(m + n).toNat, by omega, fun c H hH => ?_⟩
   have e : ((m + n).toNat : Int) = m + n := by omega
   have hw := w64 (x := m + n) (by omega) (by omega)
   refine bor_c rfl rfl rfl rfl rfl hH fun H hH => ?_
   refine WPv_eq (call_enter0 KC needT Tryz.func14 rfl rfl good14 (by simp) hH ?_)
   simp [h2, h2', hz, hz', hm, h3, gleave_free, hw]
   omega
  ·refine ⟨m.toNat, by omega, fun c H hH => ?_⟩
   have e : (m.toNat : Int) = m := by omega
   refine bor_c rfl rfl rfl rfl rfl hH fun H hH => ?_
   refine WPv_eq (call_enter0 KC needT Tryz.func14 rfl rfl good14 (by simp) hH ?_)
   simp [h2, h2', hz, hz', hm, h3, gleave_free]
   omega
noncomputable def bigV : Rite → Bool := hid fun r => decide (9 < r.people.length) || (decide (12 < r.things.length) || (decide (40 < r.seen.length) || (decide (9 < r.lapses.length) || decide (50 < r.acts.length))))
theorem bigV_def (r : Rite) : bigV r = (decide (9 < r.people.length) || (decide (12 < r.things.length) || (decide (40 < r.seen.length) || (decide (9 < r.lapses.length) || decide (50 < r.acts.length))))) := by rw [bigV, hid_eq]
theorem bigV_false {r : Rite} (h : bigV r = false) : r.people.length ≤ 9 ∧ r.things.length ≤ 12 ∧ r.seen.length ≤ 40 ∧ r.lapses.length ≤ 9 ∧ r.acts.length ≤ 50 := by
 rw [bigV_def] at h
 simp at h
 omega
theorem big_ok (r : Rite) (hH : 0 < H.length) : gcall KC (geval KC) 9 [.pure (.agg r.row)] c H = some (.pure (.bool (bigV r)), H) := by
 refine bor_c rfl rfl rfl rfl rfl hH fun H hH => ?_
 refine WPv_eq (call_enter0 KC needT Tryz.func9 rfl rfl good9 (by simp) hH ?_)
 have hd := bigV_def r
 rw [rowR]
 by_cases h1 : 9 < r.people.length
 ·have h1' : (9 : Int) < r.people.length := by omega
  simp [h1] at hd
  simp [h1', gleave_free, hd]
 have h1' : ¬ (9 : Int) < r.people.length := by omega
 by_cases h2 : 12 < r.things.length
 ·have h2' : (12 : Int) < r.things.length := by omega
  simp [h1, h2] at hd
  simp [h1', h2', gleave_free, hd]
 have h2' : ¬ (12 : Int) < r.things.length := by omega
 by_cases h3 : 40 < r.seen.length
 ·have h3' : (40 : Int) < r.seen.length := by omega
  simp [h1, h2, h3] at hd
  simp [h1', h2', h3', gleave_free, hd]
 have h3' : ¬ (40 : Int) < r.seen.length := by omega
 by_cases h4 : 9 < r.lapses.length
 ·have h4' : (9 : Int) < r.lapses.length := by omega
  simp [h1, h2, h3, h4] at hd
  simp [h1', h2', h3', h4', gleave_free, hd]
 have h4' : ¬ (9 : Int) < r.lapses.length := by omega
 by_cases h5 : 50 < r.acts.length
 ·have h5' : (50 : Int) < r.acts.length := by omega
  simp [h1, h2, h3, h4, h5] at hd
  simp [h1', h2', h3', h4', h5', gleave_free, hd]
 ·have h5' : ¬ (50 : Int) < r.acts.length := by omega
  simp [h1, h2, h3, h4, h5] at hd
  simp [h1', h2', h3', h4', h5', gleave_free, hd]
end
section
def handAt (hs : List Hands) (w : Nat) (hand : Int) : Int := if hand = 0 then (hs.getD w hands0).l else (hs.getD w hands0).r
theorem heldV_eq (s : Scene) (w : Nat) (hand : Int) : heldV s w hand = handAt s.hands w hand := rfl
def oneH (h : Hands) (t : Int) : Nat := (if h.l = t then 1 else 0) + (if h.r = t then 1 else 0)
def cntH : List Hands → Int → Nat
 | [], _ => 0
 | h :: l, t => oneH h t + cntH l t
theorem cntH_set : ∀ (l : List Hands) (w : Nat) (h : Hands) (t : Int), w < l.length → cntH (l.set w h) t + oneH (l.getD w hands0) t = cntH l t + oneH h t
  | [], w, h, t, hw => by simp at hw
  | x :: l, 0, h, t, hw => by simp [cntH]; omega
  | x :: l, w + 1, h, t, hw => by
    have := cntH_set l w h t (by simpa using hw)
    simp only [List.set_cons_succ, cntH, List.getD_cons_succ] at this ⊢
    omega
theorem cntH_put (l : List Hands) (w : Nat) (hand v t : Int) (hw : w < l.length) : cntH (putHand l w hand v) t + (if handAt l w hand = t then 1 else 0) = cntH l t + (if v = t then 1 else 0) := by
 unfold putHand
 have := cntH_set l w (if hand = 0 then ⟨v, (l.getD w hands0).r⟩ else ⟨(l.getD w hands0).l, v⟩) t hw
 unfold handAt
 by_cases h : hand = 0
 ·simp only [h, if_true, oneH] at this ⊢
  omega
 ·simp only [h, if_false, oneH] at this ⊢
  omega
theorem cntH_get : ∀ (l : List Hands) (w : Nat) (t : Int), w < l.length → oneH (l.getD w hands0) t ≤ cntH l t
  | [], w, t, hw => by simp at hw
  | x :: l, 0, t, hw => by simp [cntH]
  | x :: l, w + 1, t, hw => by
    have := cntH_get l w t (by simpa using hw)
    simp only [cntH, List.getD_cons_succ] at this ⊢
    omega
theorem cntH_at (l : List Hands) (w : Nat) (hand t : Int) (hw : w < l.length) (h : handAt l w hand = t) : 1 ≤ cntH l t := by
 have := cntH_get l w t hw
 unfold handAt at h
 unfold oneH at this
 split at h
 ·rw [if_pos h] at this; omega
 ·rw [if_pos h] at this; omega
theorem put_len (l : List Hands) (w : Nat) (hand v : Int) : (putHand l w hand v).length = l.length := by simp [putHand]
theorem put_get {l : List Hands} {w : Nat} {hand v : Int} (p : Nat) (hw : w < l.length) : (putHand l w hand v).getD p hands0 = if p = w then (if hand = 0 then ⟨v, (l.getD w hands0).r⟩ else ⟨(l.getD w hands0).l, v⟩) else l.getD p hands0 := by
 unfold putHand
 by_cases h : p = w
 ·subst h
  simp [List.getD_eq_getElem?_getD, hw]
 ·have h' : ¬ w = p := fun e => h e.symm
  simp [List.getD_eq_getElem?_getD, List.getElem?_set, h, h']
theorem put_at {l : List Hands} {w : Nat} {hand v : Int} (p : Nat) (hd : Int) (hw : w < l.length) (h0 : hand = 0 ∨ hand = 1) (h1 : hd = 0 ∨ hd = 1) : handAt (putHand l w hand v) p hd = if p = w ∧ hd = hand then v else handAt l p hd := by
 unfold handAt
 rw [put_get p hw]
 by_cases h : p = w
 ·subst h
  rcases h0 with rfl | rfl <;> rcases h1 with rfl | rfl <;> simp
 ·simp [h]
theorem getD_lt {α : Type} {l : List α} {i : Nat} {d : α} (h : i < l.length) : l.getD i d = l[i] := by simp [List.getD_eq_getElem?_getD, h]
theorem set_self {α : Type} (l : List α) (i : Nat) (d : α) : l.set i (l.getD i d) = l := by
 by_cases h : i < l.length
 ·rw [getD_lt h]; simp
 ·exact List.set_eq_of_length_le (by omega)
theorem bits16 : ∀ q : Fin 16, ∀ b ∈ [(1 : Int), 2, 4], (if ((IntKind.i64.wrap (((q.1 : Nat) : Int).tdiv b)).tmod 2 == 1) then 0 ≤ IntKind.i64.wrap (((q.1 : Nat) : Int) - b) ∧ IntKind.i64.wrap (((q.1 : Nat) : Int) - b) < 16 else 0 ≤ IntKind.i64.wrap (((q.1 : Nat) : Int) + b) ∧ IntKind.i64.wrap (((q.1 : Nat) : Int) + b) < 16) := by decide
theorem setV_get {ts : List Spot} {t : Nat} {bit : Int} {on : Bool} (ht : t < ts.length) (hs : 0 ≤ (ts.getD t spot0).state ∧ (ts.getD t spot0).state < 16) (hb : bit = 1 ∨ bit = 2 ∨ bit = 4) :
  ∃ st, 0 ≤ st ∧ st < 16 ∧ setV ts t bit on = ts.set t ⟨(ts.getD t spot0).cell, st⟩ := by
 rw [setV_def]
 by_cases h : hasV ts t bit = on
 ·rw [if_pos h]
  refine ⟨_, hs.1, hs.2, ?_⟩
  exact (set_self ts t spot0).symm
 ·rw [if_neg h]
  have hm : bit ∈ [(1 : Int), 2, 4] := by simp; exact hb
  have h0 : decide ((0 : Int) ≤ t) = true := by simp
  rw [hasV_def, h0, Bool.true_and] at h
  simp only [Int.toNat_natCast] at h
  obtain ⟨q, hq⟩ := Int.eq_ofNat_of_zero_le hs.1
  have hq16 : q < 16 := by omega
  have B := bits16 ⟨q, hq16⟩ bit hm
  simp only [← hq] at B
  cases on
  ·have h' : ((IntKind.i64.wrap ((ts.getD t spot0).state.tdiv bit)).tmod 2 == 1) = true := by simpa using h
   rw [if_pos h'] at B
   exact ⟨_, B.1, B.2, by simp⟩
  ·have h' : ¬ ((IntKind.i64.wrap ((ts.getD t spot0).state.tdiv bit)).tmod 2 == 1) = true := by simpa using h
   rw [if_neg h'] at B
   exact ⟨_, B.1, B.2, by simp⟩
structure Snd (r : Rite) (s : Scene) : Prop extends ScB r s where
 pr : ∀ x ∈ s.people, 0 ≤ x ∧ x < r.wide * r.deep
 pn : s.people.Nodup
 th : ∀ t : Nat, t < s.things.length → (cntH s.hands t = 1 ∧ (s.things.getD t spot0).cell = -1) ∨ (cntH s.hands t = 0 ∧ 0 ≤ (s.things.getD t spot0).cell ∧ (s.things.getD t spot0).cell < r.wide * r.deep)
 st : ∀ t : Nat, t < s.things.length → 0 ≤ (s.things.getD t spot0).state ∧ (s.things.getD t spot0).state < 16
structure AB (r : Rite) (w : Nat) (a : RAct) : Prop where
 who : a.who = w
 wl : w < r.people.length
 hand : a.hand = 0 ∨ a.hand = 1
 kind : 1 ≤ a.kind ∧ a.kind ≤ 8
 take : a.kind = 2 → ∃ t : Nat, a.thing = t ∧ t < r.things.length
 give : a.kind = 4 → ∃ o : Nat, a.other = o ∧ o < r.people.length ∧ o ≠ w
 step : a.kind = 1 → 0 ≤ a.cell ∧ a.cell < r.wide * r.deep
 form : formB a = true
theorem handAt_rng {r : Rite} {s : Scene} (h : ScB r s) {w : Nat} {hand : Int} (hw : w < r.people.length) : handAt s.hands w hand < s.things.length ∧ -1 ≤ handAt s.hands w hand := by
 have hl : w < s.hands.length := by rw [h.hl]; exact hw
 have := h.hr w hl
 unfold handAt
 rw [getD_lt hl]
 split
 ·exact ⟨this.1, this.2.2.1⟩
 ·exact ⟨this.2.1, this.2.2.2⟩
theorem people_set {l : List Int} (hn : l.Nodup) {w : Nat} {c : Int} (hc : c ∉ l) : (l.set w c).Nodup := by
  induction l generalizing w with
  | nil => simp
  | cons x l ih =>
    simp only [List.mem_cons, not_or] at hc
    rw [List.nodup_cons] at hn
    cases w with
    | zero => simp [hc.2, hn.2]
    | succ w =>
      rw [List.set_cons_succ, List.nodup_cons]
      refine ⟨fun h => ?_, ih hn.2 hc.2⟩
      rcases List.mem_or_eq_of_mem_set h with h | h
      · exact hn.1 h
      · exact hc.1 h.symm
section
variable {r : Rite} {s : Scene} {w : Nat} {a : RAct}
theorem doV_1 (h : a.kind = 1) : doV s w a = { s with people := s.people.set w a.cell } := by rw [doV_def, if_pos h]
theorem doV_2 (h : a.kind = 2) : doV s w a = { s with hands := putHand s.hands w a.hand a.thing, things := s.things.set a.thing.toNat ⟨-1, (s.things.getD a.thing.toNat spot0).state⟩ } := by rw [doV_def, if_neg (by omega), if_pos h]
theorem doV_3 (h : a.kind = 3) : doV s w a = { s with hands := putHand s.hands w a.hand (-1), things := s.things.set (handAt s.hands w a.hand).toNat ⟨s.people.getD w 0, (s.things.getD (handAt s.hands w a.hand).toNat spot0).state⟩ } := by rw [doV_def, if_neg (by omega), if_neg (by omega), if_pos h]; rfl
theorem doV_4 (h : a.kind = 4) : doV s w a = { s with hands := putHand (putHand s.hands a.other.toNat (takerV s.hands a.other.toNat) (handAt s.hands w a.hand)) w a.hand (-1) } := by rw [doV_def, if_neg (by omega), if_neg (by omega), if_neg (by omega), if_pos h]; rfl
theorem doV_5 (h : a.kind = 5) : doV s w a = { s with things := setV s.things (handAt s.hands w (1 - a.hand)).toNat 1 true } := by rw [doV_def, if_neg (by omega), if_neg (by omega), if_neg (by omega), if_neg (by omega), if_pos h]; rfl
theorem doV_6 (h : a.kind = 6) : doV s w a = { s with things := setV (setV (setV s.things (handAt s.hands w a.hand).toNat 2 false) (handAt s.hands w a.hand).toNat 1 false) (handAt s.hands w (1 - a.hand)).toNat 2 true } := by rw [doV_def, if_neg (by omega), if_neg (by omega), if_neg (by omega), if_neg (by omega), if_neg (by omega), if_pos h]; rfl
theorem doV_7 (h : a.kind = 7) : doV s w a = { s with things := setV s.things (handAt s.hands w a.hand).toNat 4 true } := by rw [doV_def, if_neg (by omega), if_neg (by omega), if_neg (by omega), if_neg (by omega), if_neg (by omega), if_neg (by omega), if_pos h]; rfl
theorem doV_8 (h : a.kind = 8) : doV s w a = { s with things := setV s.things (handAt s.hands w a.hand).toNat 4 false } := by rw [doV_def, if_neg (by omega), if_neg (by omega), if_neg (by omega), if_neg (by omega), if_neg (by omega), if_neg (by omega), if_neg (by omega)]; rfl
theorem posV_1 (h : a.kind = 1) : posV r s w a = (!(s.people.contains a.cell) && nearV r.wide (s.people.getD w 0) a.cell) := by rw [posV_def, if_pos h]
theorem posV_2 (h : a.kind = 2) : posV r s w a = (handAt s.hands w a.hand == -1 && (s.things.getD a.thing.toNat spot0).cell == s.people.getD w 0) := by rw [posV_def, if_neg (by omega), if_pos h]; rfl
theorem posV_3 (h : a.kind = 3) : posV r s w a = decide (0 ≤ handAt s.hands w a.hand) := by rw [posV_def, if_neg (by omega), if_neg (by omega), if_pos h]; rfl
theorem posV_4 (h : a.kind = 4) : posV r s w a = (decide (0 ≤ handAt s.hands w a.hand) && nearV r.wide (s.people.getD w 0) (s.people.getD a.other.toNat 0) && decide (0 ≤ takerV s.hands a.other.toNat)) := by rw [posV_def, if_neg (by omega), if_neg (by omega), if_neg (by omega), if_pos h]; rfl
theorem posV_5 (h : a.kind = 5) : posV r s w a = (decide (0 ≤ handAt s.hands w a.hand) && (r.things.getD (handAt s.hands w a.hand).toNat thing0).cloth && decide (0 ≤ handAt s.hands w (1 - a.hand))) := by rw [posV_def, if_neg (by omega), if_neg (by omega), if_neg (by omega), if_neg (by omega), if_pos h]; rfl
theorem posV_6 (h : a.kind = 6) : posV r s w a = (hasV s.things (handAt s.hands w a.hand) 2 && !hasV s.things (handAt s.hands w a.hand) 4 && decide (0 ≤ handAt s.hands w (1 - a.hand)) && !hasV s.things (handAt s.hands w (1 - a.hand)) 2 && !hasV s.things (handAt s.hands w (1 - a.hand)) 4) := by rw [posV_def, if_neg (by omega), if_neg (by omega), if_neg (by omega), if_neg (by omega), if_neg (by omega), if_pos h]; rfl
theorem posV_7 (h : a.kind = 7) : posV r s w a = (decide (0 ≤ handAt s.hands w a.hand) && !hasV s.things (handAt s.hands w a.hand) 4) := by rw [posV_def, if_neg (by omega), if_neg (by omega), if_neg (by omega), if_neg (by omega), if_neg (by omega), if_neg (by omega), if_pos h]; rfl
theorem posV_8 (h : a.kind = 8) : posV r s w a = hasV s.things (handAt s.hands w a.hand) 4 := by rw [posV_def, if_neg (by omega), if_neg (by omega), if_neg (by omega), if_neg (by omega), if_neg (by omega), if_neg (by omega), if_neg (by omega)]; rfl
theorem kinds8 (h : 1 ≤ a.kind ∧ a.kind ≤ 8) : a.kind = 1 ∨ a.kind = 2 ∨ a.kind = 3 ∨ a.kind = 4 ∨ a.kind = 5 ∨ a.kind = 6 ∨ a.kind = 7 ∨ a.kind = 8 := by omega
theorem hasV_pos {ts : List Spot} {x b : Int} (h : hasV ts x b = true) : 0 ≤ x := by
 rw [hasV_def] at h; simp at h; exact h.1
end
theorem DoB_of {r : Rite} {s : Scene} {w : Nat} {a : RAct} (hS : Snd r s) (hA : AB r w a) (hp : posV r s w a = true) : DoB s w a := by
 have e1 := hS.pl
 have e2 := hS.hl
 have e3 := hS.tl
 have wl := hA.wl
 have R0 := fun (hd : Int) => handAt_rng hS.toScB (w := w) (hand := hd) wl
 have nat : ∀ x : Int, 0 ≤ x → x < s.things.length → ∃ t : Nat, x = t ∧ t < s.things.length := fun x h1 h2 => ⟨x.toNat, by omega, by omega⟩
 have held : 3 ≤ a.kind → 0 ≤ handAt s.hands w a.hand := fun h3 => by
  rcases kinds8 hA.kind with k | k | k | k | k | k | k | k
  ·omega
  ·omega
  ·rw [posV_3 k] at hp; simpa using hp
  ·rw [posV_4 k] at hp; simp at hp; exact hp.1.1
  ·rw [posV_5 k] at hp; simp at hp; exact hp.1.1
  ·rw [posV_6 k] at hp; simp at hp; exact hasV_pos hp.1.1.1.1
  ·rw [posV_7 k] at hp; simp at hp; exact hp.1
  ·rw [posV_8 k] at hp; exact hasV_pos hp
 refine ⟨by omega, by omega, hA.who, hA.hand, hA.kind, fun h => ?_, fun h => nat _ (held h) (R0 _).1, fun h => ?_, fun h => nat _ ?_ (R0 _).1⟩
 ·obtain ⟨t, h1, h2⟩ := hA.take h
  exact ⟨t, h1, by omega⟩
 ·obtain ⟨o, h1, h2, h3⟩ := hA.give h
  rw [posV_4 h, h1] at hp
  simp at hp
  refine ⟨o, h1, by omega, h3, ?_⟩
  have := hp.2
  unfold takerV at this ⊢
  split
  ·exact .inl rfl
  ·rename_i hh
   rw [if_neg hh] at this
   split
   ·exact .inr rfl
   ·rename_i hh2
    rw [if_neg hh2] at this
    omega
 ·show 0 ≤ handAt s.hands w (1 - a.hand)
  rcases h with h | h
  ·rw [posV_5 h] at hp; simp at hp; exact hp.2
  ·rw [posV_6 h] at hp; simp at hp; exact hp.1.1.2
theorem cell_of {r : Rite} {s : Scene} (hS : Snd r s) {w : Nat} (hw : w < r.people.length) : 0 ≤ s.people.getD w 0 ∧ s.people.getD w 0 < r.wide * r.deep := by
 have hl : w < s.people.length := by rw [hS.pl]; exact hw
 rw [getD_lt hl]
 exact hS.pr _ (List.getElem_mem hl)
theorem Snd.states {r : Rite} {s : Scene} (hS : Snd r s) (ts : List Spot) (hl : ts.length = s.things.length) (hc : ∀ t : Nat, t < s.things.length → (ts.getD t spot0).cell = (s.things.getD t spot0).cell ∧ 0 ≤ (ts.getD t spot0).state ∧ (ts.getD t spot0).state < 16) : Snd r { s with things := ts } where
 pl := hS.pl
 hl := hS.hl
 tl := hl.trans hS.tl
 hr := fun i h => by have := hS.hr i h; rw [← hl] at this; exact this
 pr := hS.pr
 pn := hS.pn
 th := fun t h => by
  have h' : t < s.things.length := by rw [← hl]; exact h
  rw [(hc t h').1]
  exact hS.th t h'
 st := fun t h => (hc t (by rw [← hl]; exact h)).2
theorem getDs {α : Type} {l : List α} {i j : Nat} {x d : α} (hj : j < l.length) : (l.set i x).getD j d = if i = j then x else l.getD j d := by
 simp only [List.getD_eq_getElem?_getD, List.getElem?_set]
 split
 ·rename_i h; subst h; simp [hj]
 ·rfl
theorem states_set {ts : List Spot} {t : Nat} {bit : Int} {on : Bool} (hst : ∀ t : Nat, t < ts.length → 0 ≤ (ts.getD t spot0).state ∧ (ts.getD t spot0).state < 16) (ht : t < ts.length) (hb : bit = 1 ∨ bit = 2 ∨ bit = 4) :
  (setV ts t bit on).length = ts.length ∧ ∀ u : Nat, u < ts.length → ((setV ts t bit on).getD u spot0).cell = (ts.getD u spot0).cell ∧ 0 ≤ ((setV ts t bit on).getD u spot0).state ∧ ((setV ts t bit on).getD u spot0).state < 16 := by
 obtain ⟨st, h1, h2, h3⟩ := setV_get (on := on) ht (hst t ht) hb
 rw [h3]
 refine ⟨by simp, fun u hu => ?_⟩
 rw [getDs hu]
 split
 ·rename_i e; subst e; exact ⟨rfl, h1, h2⟩
 ·exact ⟨rfl, hst u hu⟩
theorem Snd.set {r : Rite} {s : Scene} (hS : Snd r s) {t : Nat} {bit : Int} {on : Bool} (ht : t < s.things.length) (hb : bit = 1 ∨ bit = 2 ∨ bit = 4) : Snd r { s with things := setV s.things t bit on } := by
 obtain ⟨a, b⟩ := states_set (on := on) hS.st ht hb
 exact hS.states _ a b
theorem Snd.doA {r : Rite} {s : Scene} {w : Nat} {a : RAct} (hS : Snd r s) (hA : AB r w a) (hp : posV r s w a = true) : Snd r (doV s w a) := by
  have D := DoB_of hS hA hp
  have e1 := hS.pl
  have e2 := hS.hl
  have e3 := hS.tl
  have wl := hA.wl
  have hh := hA.hand
  have hk := hA.kind
  have hwh : w < s.hands.length := by omega
  have hrp : ∀ v : Int, -1 ≤ v → v < s.things.length → ∀ i (h : i < (putHand s.hands w a.hand v).length), (putHand s.hands w a.hand v)[i].l < s.things.length ∧ (putHand s.hands w a.hand v)[i].r < s.things.length ∧ -1 ≤ (putHand s.hands w a.hand v)[i].l ∧ -1 ≤ (putHand s.hands w a.hand v)[i].r := fun v h1 h2 i hi => by
    rw [← getD_lt (d := hands0) hi, put_get i hwh]
    have hi' : i < s.hands.length := by simpa [putHand] using hi
    have q := hS.hr i hi'
    split
    · rename_i e; subst e
      rw [getD_lt hi']
      split
      · exact ⟨h2, q.2.1, h1, q.2.2.2⟩
      · exact ⟨q.1, h2, q.2.2.1, h1⟩
    · rw [getD_lt hi']; exact q
  rcases kinds8 hA.kind with k1 | k2 | k3 | k4 | k5 | k6 | k7 | k8
  · rw [doV_1 k1]
    rw [posV_1 k1] at hp
    obtain ⟨c1, c2⟩ := hA.step k1
    simp only [Bool.and_eq_true, Bool.not_eq_true', List.contains_eq_mem] at hp
    have hnc : a.cell ∉ s.people := by simpa using hp.1
    exact { pl := by simpa using hS.pl, hl := hS.hl, tl := hS.tl, hr := hS.hr, pr := fun x hx => by
              rcases List.mem_or_eq_of_mem_set hx with h | h
              · exact hS.pr x h
              · subst h; exact ⟨c1, c2⟩
            pn := people_set hS.pn hnc, th := hS.th, st := hS.st }
  · obtain ⟨t, ht1, ht2⟩ := D.take k2
    have C := cell_of hS wl
    rw [posV_2 k2] at hp
    rw [doV_2 k2]
    simp only [ht1, Int.toNat_natCast, Bool.and_eq_true, beq_iff_eq] at hp ⊢
    obtain ⟨p1, p2⟩ := hp
    have cnt := fun u => cntH_put s.hands w a.hand t u hwh
    have tt := hS.th t ht2
    have hrt := hrp t (by omega) (by omega)
    refine { pl := hS.pl, hl := by simpa [put_len] using hS.hl, tl := by simpa using hS.tl, hr := fun i h => by rw [List.length_set]; exact hrt i h, pr := hS.pr, pn := hS.pn, th := fun u hu => ?_, st := fun u hu => ?_ }
    · have hu' : u < s.things.length := by simpa using hu
      have q := hS.th u hu'
      have := cnt u
      rw [p1] at this
      rw [getDs hu']
      by_cases e : t = u
      · subst e
        have e1 : ¬ ((-1 : Int) = (t : Int)) := by omega
        simp only [e1, if_true, if_false, eq_self] at this ⊢
        exact .inl ⟨by omega, trivial⟩
      · have e1 : ¬ ((-1 : Int) = (u : Int)) := by omega
        have e2 : ¬ ((t : Int) = (u : Int)) := by omega
        simp only [e, e1, e2, if_false] at this ⊢
        rw [show cntH (putHand s.hands w a.hand t) u = cntH s.hands u by omega]
        exact q
    · have hu' : u < s.things.length := by simpa using hu
      rw [getDs hu']
      split
      · exact hS.st t ht2
      · exact hS.st u hu'
  · obtain ⟨t, ht1', ht2⟩ := D.held (by omega)
    rw [heldV_eq] at ht1'
    have C := cell_of hS wl
    rw [doV_3 k3]
    simp only [ht1', Int.toNat_natCast]
    have cnt := fun u => cntH_put s.hands w a.hand (-1) u hwh
    have tt := hS.th t ht2
    have hrt := hrp (-1) (by omega) (by omega)
    have ca := cntH_at s.hands w a.hand t hwh ht1'
    refine { pl := hS.pl, hl := by simpa [put_len] using hS.hl, tl := by simpa using hS.tl, hr := fun i h => by rw [List.length_set]; exact hrt i h, pr := hS.pr, pn := hS.pn, th := fun u hu => ?_, st := fun u hu => ?_ }
    · have hu' : u < s.things.length := by simpa using hu
      have q := hS.th u hu'
      have := cnt u
      rw [ht1'] at this
      have e1 : ¬ ((-1 : Int) = (u : Int)) := by omega
      rw [getDs hu']
      by_cases e : t = u
      · subst e
        simp only [e1, if_true, if_false] at this ⊢
        omega
      · have e2 : ¬ ((t : Int) = (u : Int)) := by omega
        simp only [e, e1, e2, if_false] at this ⊢
        rw [show cntH (putHand s.hands w a.hand (-1)) u = cntH s.hands u by omega]
        exact q
    · have hu' : u < s.things.length := by simpa using hu
      rw [getDs hu']
      split
      · exact hS.st t ht2
      · exact hS.st u hu'
  · obtain ⟨t, ht1', ht2⟩ := D.held (by omega)
    rw [heldV_eq] at ht1'
    obtain ⟨o, o1, o2, o3, o4⟩ := D.give k4
    rw [doV_4 k4]
    simp only [ht1', o1, Int.toNat_natCast]
    obtain ⟨tk, etk⟩ : ∃ tk, takerV s.hands o = tk := ⟨_, rfl⟩
    rw [etk] at o4 ⊢
    have tkf : handAt s.hands o tk = -1 := by
      unfold takerV at etk
      unfold handAt
      split at etk
      · subst etk; simpa using ‹_›
      · split at etk
        · subst etk; simpa using ‹_›
        · omega
    have hl1 : w < (putHand s.hands o tk t).length := by rw [put_len]; exact hwh
    have c1 := fun u => cntH_put s.hands o tk t u o2
    have c2 := fun u => cntH_put (putHand s.hands o tk t) w a.hand (-1) u hl1
    have hw2 : handAt (putHand s.hands o tk t) w a.hand = t := by
      rw [put_at w a.hand o2 o4 hh, if_neg (fun e => o3 e.1.symm)]; exact ht1'
    refine { pl := hS.pl, hl := by simpa [put_len] using hS.hl, tl := hS.tl, hr := fun i h => ?_, pr := hS.pr, pn := hS.pn, th := fun u hu => ?_, st := hS.st }
    · rw [← getD_lt (d := hands0) h, put_get i hl1]
      have hi' : i < s.hands.length := by simpa [putHand] using h
      have q := hS.hr i hi'
      have qw := hS.hr w hwh
      have ne : ¬ w = o := fun e => o3 e.symm
      have two : ((putHand s.hands o tk t).getD i hands0).l < s.things.length ∧ ((putHand s.hands o tk t).getD i hands0).r < s.things.length ∧ -1 ≤ ((putHand s.hands o tk t).getD i hands0).l ∧ -1 ≤ ((putHand s.hands o tk t).getD i hands0).r := by
        rw [put_get i o2]
        split
        · rename_i e; subst e
          rw [getD_lt hi']
          split
          · exact ⟨by show (t : Int) < _; omega, q.2.1, by show (-1 : Int) ≤ t; omega, q.2.2.2⟩
          · exact ⟨q.1, by show (t : Int) < _; omega, q.2.2.1, by show (-1 : Int) ≤ t; omega⟩
        · rw [getD_lt hi']; exact q
      split
      · rename_i e; subst e
        split
        · exact ⟨by show (-1 : Int) < _; omega, two.2.1, by show (-1 : Int) ≤ -1; omega, two.2.2.2⟩
        · exact ⟨two.1, by show (-1 : Int) < _; omega, two.2.2.1, by show (-1 : Int) ≤ -1; omega⟩
      · exact two
    · have q := hS.th u hu
      have d1 := c1 u
      have d2 := c2 u
      rw [hw2] at d2
      rw [tkf] at d1
      have e1 : ¬ ((-1 : Int) = (u : Int)) := by omega
      simp only [e1, if_false] at d1 d2
      show (cntH (putHand (putHand s.hands o tk t) w a.hand (-1)) u = 1 ∧ _) ∨ (cntH (putHand (putHand s.hands o tk t) w a.hand (-1)) u = 0 ∧ _)
      rw [show cntH (putHand (putHand s.hands o tk t) w a.hand (-1)) u = cntH s.hands u by omega]
      exact q
  · obtain ⟨q, q1, q2⟩ := D.oth (.inl k5)
    rw [heldV_eq] at q1
    rw [doV_5 k5]
    simp only [q1, Int.toNat_natCast]
    exact hS.set q2 (.inl rfl)
  · obtain ⟨t, ht1', ht2⟩ := D.held (by omega)
    rw [heldV_eq] at ht1'
    obtain ⟨q, q1, q2⟩ := D.oth (.inr k6)
    rw [heldV_eq] at q1
    rw [doV_6 k6]
    simp only [q1, ht1', Int.toNat_natCast]
    have S1 := hS.set (on := false) ht2 (.inr (.inl rfl) : (2 : Int) = 1 ∨ (2 : Int) = 2 ∨ (2 : Int) = 4)
    have S2 := S1.set (t := t) (on := false) (by simpa [setV_len] using ht2) (.inl rfl : (1 : Int) = 1 ∨ (1 : Int) = 2 ∨ (1 : Int) = 4)
    exact S2.set (t := q) (on := true) (by simpa [setV_len] using q2) (.inr (.inl rfl))
  · obtain ⟨t, ht1', ht2⟩ := D.held (by omega)
    rw [heldV_eq] at ht1'
    rw [doV_7 k7]
    simp only [ht1', Int.toNat_natCast]
    exact hS.set ht2 (.inr (.inr rfl))
  · obtain ⟨t, ht1', ht2⟩ := D.held (by omega)
    rw [heldV_eq] at ht1'
    rw [doV_8 k8]
    simp only [ht1', Int.toNat_natCast]
    exact hS.set ht2 (.inr (.inr rfl))
end
section
variable {c : Nat} {H : Heap}
def bandn (a b : Int) : Int := IntKind.i64.wrap (BitVec.ofInt 64 a &&& ~~~(BitVec.ofInt 64 b)).toNat
@[simp] theorem gbin_andNot {K : Ctx} {t : TypeId} {a b : Int} : gbin K .andNot t (.pure (.int .i64 a)) (.pure (.int .i64 b)) = some (.int .i64 (bandn a b)) := by
 simp only [gbin, gint, bandn]
 rfl
theorem bits_has : ∀ q : Fin 16, ∀ b ∈ [(2 : Int), 4], (band .i64 ((q.1 : Nat) : Int) b == b) = ((IntKind.i64.wrap (((q.1 : Nat) : Int).tdiv b)).tmod 2 == 1) := by decide +kernel
def stRow (r : Rite) (s : Scene) : List PV := [.int .i64 r.wide, .int .i64 r.deep, .slice (r.people.map Person.row), .slice (r.things.map Thing.row), .slice (r.seen.map irow), .slice (r.lapses.map irow), .slice (r.acts.map RAct.row), .slice (s.people.map irow), .slice (s.hands.map Hands.row), .slice (s.things.map Spot.row)]
theorem actRow (a : RAct) : a.row = [.int .i64 a.at', .int .i64 a.who, .int .i64 a.kind, .int .i64 a.hand, .int .i64 a.thing, .int .i64 a.cell, .int .i64 a.other, .int .i64 a.seasons, .int .i64 a.rank] := rfl
theorem held_ok0 {r : Rite} {s : Scene} {w : Nat} {a : RAct} (hw : w < s.hands.length) (h1 : a.who = w) (h2 : a.hand = 0 ∨ a.hand = 1) (hH : 0 < H.length) :
  gcall0 KC (geval KC) 154 [.pure (.agg (stRow r s)), .pure (.agg a.row)] c H = some (.pure (.int .i64 (handAt s.hands w a.hand)), H) := by
 refine WPv_eq (call_enter0 KC needT Tryz.func154 rfl rfl good154 (by simp) hH ?_)
 rw [actRow]
 unfold stRow handAt
 rw [getD_lt hw]
 rcases h2 with h2 | h2
 ·simp [h1, h2, hw, Hands.row, gleave_free]
 ·simp [h1, h2, hw, Hands.row, gleave_free]
theorem beside_ok0 {r : Rite} {s : Scene} {w : Nat} {a : RAct} (hw : w < s.hands.length) (h1 : a.who = w) (h2 : a.hand = 0 ∨ a.hand = 1) (hH : 0 < H.length) :
  gcall0 KC (geval KC) 153 [.pure (.agg (stRow r s)), .pure (.agg a.row)] c H = some (.pure (.int .i64 (handAt s.hands w (1 - a.hand))), H) := by
 refine WPv_eq (call_enter0 KC needT Tryz.func153 rfl rfl good153 (by simp) hH ?_)
 rw [actRow]
 unfold stRow handAt
 rw [getD_lt hw]
 have w0 : IntKind.i64.wrap (1 - 0) = 1 := rfl
 have w1 : IntKind.i64.wrap (1 - 1) = 0 := rfl
 rcases h2 with h2 | h2
 ·simp [h1, h2, hw, Hands.row, gleave_free, w0]
 ·simp [h1, h2, hw, Hands.row, gleave_free, w1]
theorem hasS_ok0 {r : Rite} {s : Scene} {t : Nat} {b : Int} (ht : t < s.things.length) (hs : 0 ≤ (s.things.getD t spot0).state ∧ (s.things.getD t spot0).state < 16) (hb : b = 2 ∨ b = 4) (hH : 0 < H.length) :
  gcall0 KC (geval KC) 157 [.pure (.agg (stRow r s)), .pure (.int .i64 t), .pure (.int .i64 b)] c H = some (.pure (.bool (hasV s.things t b)), H) := by
 refine WPv_eq (call_enter0 KC needT Tryz.func157 rfl rfl good157 (by simp) hH ?_)
 have hd := hasV_def s.things t b
 simp only [Int.toNat_natCast, getD_lt ht] at hd hs
 obtain ⟨q, hq⟩ := Int.eq_ofNat_of_zero_le hs.1
 have e := bits_has ⟨q, by omega⟩ b (by simp; exact hb)
 simp only [← hq] at e
 have h0 : decide ((0 : Int) ≤ t) = true := by simp
 rw [h0, Bool.true_and, ← e] at hd
 unfold stRow
 simp [ht, Spot.row, gleave_free, hd]
theorem sq_cases (x : Int) : (x = 0 ∧ x * x = 0) ∨ (x = 1 ∧ x * x = 1) ∨ (x = -1 ∧ x * x = 1) ∨ ((x ≠ 0 ∧ x ≠ 1 ∧ x ≠ -1) ∧ 4 ≤ x * x) := by
 by_cases h0 : x = 0
 ·subst h0; exact .inl ⟨rfl, rfl⟩
 by_cases h1 : x = 1
 ·subst h1; exact .inr (.inl ⟨rfl, rfl⟩)
 by_cases h2 : x = -1
 ·subst h2; exact .inr (.inr (.inl ⟨rfl, rfl⟩))
 refine .inr (.inr (.inr ⟨⟨h0, h1, h2⟩, ?_⟩))
 rw [← Int.natAbs_mul_self]
 have : 2 ≤ x.natAbs := by omega
 have := Nat.mul_le_mul this this
 omega
theorem sq_le {x : Int} {n : Nat} (h1 : -(n : Int) ≤ x) (h2 : x ≤ n) : 0 ≤ x * x ∧ x * x ≤ ((n * n : Nat) : Int) := by
 rw [← Int.natAbs_mul_self]
 have : x.natAbs ≤ n := by omega
 have := Nat.mul_le_mul this this
 omega
theorem near_eq {w a b : Int} (hw : 1 ≤ w) (hw6 : w ≤ 1000) (ha : 0 ≤ a) (ha2 : a < 1000000) (hb : 0 ≤ b) (hb2 : b < 1000000) :
  (IntKind.i64.wrap (IntKind.i64.wrap (IntKind.i64.wrap (a.tmod w - b.tmod w) * IntKind.i64.wrap (a.tmod w - b.tmod w)) + IntKind.i64.wrap (IntKind.i64.wrap (IntKind.i64.wrap (a.tdiv w) - IntKind.i64.wrap (b.tdiv w)) * IntKind.i64.wrap (IntKind.i64.wrap (a.tdiv w) - IntKind.i64.wrap (b.tdiv w)))) == 1) = nearV w a b := by
 rw [nearV_def]
 have h1 : 0 ≤ a.tmod w := Int.tmod_nonneg _ ha
 have h2 : a.tmod w < w := Int.tmod_lt_of_pos _ (by omega)
 have h3 : 0 ≤ b.tmod w := Int.tmod_nonneg _ hb
 have h4 : b.tmod w < w := Int.tmod_lt_of_pos _ (by omega)
 have h5 : 0 ≤ a.tdiv w := Int.tdiv_nonneg ha (by omega)
 have h6 : a.tdiv w ≤ a := Int.tdiv_le_self _ ha
 have h7 : 0 ≤ b.tdiv w := Int.tdiv_nonneg hb (by omega)
 have h8 : b.tdiv w ≤ b := Int.tdiv_le_self _ hb
 rw [w64 (x := a.tmod w - b.tmod w) (by omega) (by omega), w64 (x := a.tdiv w) (by omega) (by omega), w64 (x := b.tdiv w) (by omega) (by omega), w64 (x := a.tdiv w - b.tdiv w) (by omega) (by omega)]
 have hx1 : -(1000 : Int) ≤ a.tmod w - b.tmod w := by omega
 have hx2 : a.tmod w - b.tmod w ≤ 1000 := by omega
 have hy1 : -(1000000 : Int) ≤ a.tdiv w - b.tdiv w := by omega
 have hy2 : a.tdiv w - b.tdiv w ≤ 1000000 := by omega
 generalize a.tmod w - b.tmod w = x at hx1 hx2 ⊢
 generalize a.tdiv w - b.tdiv w = y at hy1 hy2 ⊢
 have qx := sq_le (n := 1000) hx1 hx2
 have qy := sq_le (n := 1000000) hy1 hy2
 rw [w64 (x := x * x) (by omega) (by omega), w64 (x := y * y) (by omega) (by omega), w64 (x := x * x + y * y) (by omega) (by omega)]
 have cx := sq_cases x
 have cy := sq_cases y
 rw [Bool.eq_iff_iff]
 simp only [Bool.or_eq_true, Bool.and_eq_true, beq_iff_eq]
 omega
theorem nearP_ok0 {w d a b : Int} {x1 x2 x3 x4 x5 : PV} (hw : 1 ≤ w) (hw6 : w ≤ 1000) (ha : 0 ≤ a) (ha2 : a < 1000000) (hb : 0 ≤ b) (hb2 : b < 1000000) (hH : 0 < H.length) :
  gcall0 KC (geval KC) 155 [.pure (.agg [.int .i64 w, .int .i64 d, x1, x2, x3, x4, x5]), .pure (.int .i64 a), .pure (.int .i64 b)] c H = some (.pure (.bool (nearV w a b)), H) := by
 refine WPv_eq (call_enter0 KC needT Tryz.func155 rfl rfl good155 (by simp) hH ?_)
 have e := near_eq hw hw6 ha ha2 hb hb2
 have w0 : ¬ w = 0 := by omega
 simp [w0, gleave_free]
 exact e
theorem nearP_ok {w d a b : Int} {x1 x2 x3 x4 x5 : PV} (hw : 1 ≤ w) (hw6 : w ≤ 1000) (ha : 0 ≤ a) (ha2 : a < 1000000) (hb : 0 ≤ b) (hb2 : b < 1000000) (hH : 0 < H.length) :
  gcall KC (geval KC) 155 [.pure (.agg [.int .i64 w, .int .i64 d, x1, x2, x3, x4, x5]), .pure (.int .i64 a), .pure (.int .i64 b)] c H = some (.pure (.bool (nearV w a b)), H) :=
 bor_c rfl rfl rfl rfl rfl hH fun H hH => nearP_ok0 hw hw6 ha ha2 hb hb2 hH
noncomputable def idxV : List Int → Int → Int := hid fun l x => idxI (fun j => l.getD j 0 == x) l.length 0
theorem idxV_def (l : List Int) (x : Int) : idxV l x = idxI (fun j => l.getD j 0 == x) l.length 0 := by rw [idxV, hid_eq]
theorem idxI0_loop (l : List Int) (x : Int) (hn : l.length ≤ 1000000) (Q : GX → GSt → Prop) (hH : 0 < H.length) : ∀ k i : Nat, i + k = l.length →
    (idxI (fun j => l.getD j 0 == x) k i = -1 → Q (.exit 0) ⟨[(4, gdead)], H, 19⟩) → (0 ≤ idxI (fun j => l.getD j 0 == x) k i → Q .ret ⟨[(4, .pure (.int .i64 (idxI (fun j => l.getD j 0 == x) k i)))], H, 19⟩) →
    WPL KC needT 131 (lp Tryz.f131 0) [0, 1, 7, 8] [4] Q [(0, .pure (.slice (l.map irow))), (1, .pure (.int .i64 x)), (7, .pure (.int .i64 l.length)), (8, .pure (.int .i64 i))] H 19 := by
  intro k
  induction k with
  | zero =>
    intro i hi h1 h2
    apply WPL_step
    conv => arg 4; whnf
    have : ¬ i < l.length := by omega
    simp [this, hH]
    exact h1 rfl
  | succ k ih =>
    intro i hi h1 h2
    have hia : i < l.length := by omega
    have hw := w64 (x := (i : Int) + 1) (by omega) (by omega)
    have ih' := ih (i + 1) (by omega)
    have hg : l.getD i 0 = l[i] := getD_lt hia
    unfold idxI at h1 h2
    simp only [hg] at h1 h2
    apply WPL_step
    conv => arg 4; whnf
    by_cases he : x = l[i]
    · have he2 : (l[i] == x) = true := by simp [he]
      simp only [he2, if_true] at h1 h2
      simp [hia, hH, irow, he]
      exact h2 (by omega)
    · have he' : (x == l[i]) = false := by simpa using he
      have he2 : ¬ (l[i] == x) = true := by simp; exact fun e => he e.symm
      rw [if_neg he2] at h1 h2
      simp [hia, hH, irow, he', hw]
      simpa [irow] using ih' h1 h2
theorem index_int_ok (l : List Int) (x : Int) (hn : l.length ≤ 1000000) (hH : 0 < H.length) : gcall KC (geval KC) 131 [.pure (.slice (l.map irow)), .pure (.int .i64 x)] c H = some (.pure (.int .i64 (idxV l x)), H) := by
 refine bor_c rfl rfl rfl rfl rfl hH fun H hH => ?_
 refine WPv_eq (call_enter0 KC needT Tryz.func131 rfl rfl good131 (by simp) hH ?_)
 have hd := idxV_def l x
 simp
 refine idxI0_loop (H := [] :: H) l x hn _ (by simp) l.length 0 (by omega) (fun h => ?_) (fun h => ?_)
 ·rw [← hd] at h
  simp [h, gleave_free]
 ·rw [← hd]
  simp [gleave_free]
theorem contains_int_ok (l : List Int) (x : Int) (hn : l.length ≤ 1000000) (hH : 0 < H.length) : gcall KC (geval KC) 115 [.pure (.slice (l.map irow)), .pure (.int .i64 x)] c H = some (.pure (.bool (l.contains x)), H) := by
 refine bor_c rfl rfl rfl rfl rfl hH fun H hH => ?_
 refine WPv_eq (call_enter0 KC needT Tryz.func115 rfl rfl good115 (by simp) hH ?_)
 have I := fun c (H : Heap) (hH : 0 < H.length) => index_int_ok (c := c) (H := H) l x hn hH
 have e : decide (0 ≤ idxV l x) = l.contains x := by
  rw [idxV_def, Bool.eq_iff_iff, decide_eq_true_eq, idxI_nonneg, List.contains_iff_mem]
  constructor
  ·rintro ⟨j, _, h2, h3⟩
   have hj : j < l.length := by omega
   rw [getD_lt hj] at h3
   have : l[j] = x := by simpa using h3
   exact this ▸ List.getElem_mem hj
  ·intro h
   obtain ⟨j, hj, rfl⟩ := List.getElem_of_mem h
   exact ⟨j, by omega, by omega, by rw [getD_lt hj]; simp⟩
 simp only [List.contains_eq_mem] at e
 simp [I, gleave_free]
 simpa using e
theorem free_ok0 {r : Rite} {s : Scene} {w : Nat} (hw : w < s.hands.length) (hH : 0 < H.length) :
  gcall0 KC (geval KC) 156 [.pure (.agg (stRow r s)), .pure (.int .i64 w)] c H = some (.pure (.int .i64 (takerV s.hands w)), H) := by
 refine WPv_eq (call_enter0 KC needT Tryz.func156 rfl rfl good156 (by simp) hH ?_)
 have I := fun c (H : Heap) (hH : 0 < H.length) => index_int_ok (c := c) (H := H) [s.hands[w].l, s.hands[w].r] (-1) (by simp) hH
 have e : idxV [s.hands[w].l, s.hands[w].r] (-1) = takerV s.hands w := by
  rw [idxV_def]
  unfold takerV
  rw [getD_lt hw]
  simp [idxI]
 rw [e] at I
 simp [irow] at I
 have gs : ∀ a b : PV, gslice KC 84 (.pptr [a, b]) none none none = some (.pure (.slice [[a], [b]])) := fun a b => by
  have t53 : tarr Tryz.prog 84 = some (2, 3) := by kernel_rfl
  unfold gslice
  simp [chunks, t53]
 unfold stRow
 simp [hw, Hands.row, gs, I, gleave_free]
end
section
variable {c : Nat} {H : Heap}
structure WB (r : Rite) : Prop where
 w1 : 1 ≤ r.wide
 w6 : r.wide ≤ 1000
 n6 : r.wide * r.deep < 1000000
 pl : r.people.length ≤ 1000000
 tl : r.things.length ≤ 1000000
section
variable {r : Rite} {s : Scene} {w : Nat} {a : RAct}
theorem held_ok (hS : ScB r s) (hA : AB r w a) (hH : 0 < H.length) : gcall KC (geval KC) 154 [.pure (.agg (stRow r s)), .pure (.agg a.row)] c H = some (.pure (.int .i64 (handAt s.hands w a.hand)), H) :=
 bor_c rfl rfl rfl rfl rfl hH fun H hH => held_ok0 (by rw [hS.hl]; exact hA.wl) hA.who hA.hand hH
theorem beside_ok (hS : ScB r s) (hA : AB r w a) (hH : 0 < H.length) : gcall KC (geval KC) 153 [.pure (.agg (stRow r s)), .pure (.agg a.row)] c H = some (.pure (.int .i64 (handAt s.hands w (1 - a.hand))), H) :=
 bor_c rfl rfl rfl rfl rfl hH fun H hH => beside_ok0 (by rw [hS.hl]; exact hA.wl) hA.who hA.hand hH
theorem hasS_ok' (hS : Snd r s) {t : Nat} {b : Int} (ht : t < s.things.length) (hb : b = 2 ∨ b = 4) (hH : 0 < H.length) : gcall KC (geval KC) 157 [.pure (.agg (stRow r s)), .pure (.int .i64 t), .pure (.int .i64 b)] c H = some (.pure (.bool (hasV s.things t b)), H) :=
 bor_c rfl rfl rfl rfl rfl hH fun H hH => hasS_ok0 ht (hS.st t ht) hb hH
theorem free_ok {o : Nat} (ho : o < s.hands.length) (hH : 0 < H.length) : gcall KC (geval KC) 156 [.pure (.agg (stRow r s)), .pure (.int .i64 o)] c H = some (.pure (.int .i64 (takerV s.hands o)), H) :=
 bor_c rfl rfl rfl rfl rfl hH fun H hH => free_ok0 ho hH
theorem mayStep_ok (hS : Snd r s) (hW : WB r) (hA : AB r w a) (hk : a.kind = 1) (hH : 0 < H.length) :
    gcall KC (geval KC) 135 [.pure (.agg (stRow r s)), .pure (.agg a.row)] c H = some (.pure (.bool (posV r s w a)), H) := by
  refine bor_c rfl rfl rfl rfl rfl hH fun H hH => ?_
  refine WPv_eq (call_enter0 KC needT Tryz.func135 rfl rfl good135 (by simp) hH ?_)
  have hwp : w < s.people.length := by rw [hS.pl]; exact hA.wl
  have C1 := cell_of hS hA.wl
  have C2 := hA.step hk
  have n6 := hW.n6
  have hd := posV_1 (r := r) (s := s) (w := w) hk
  rw [getD_lt hwp] at hd C1
  have N := fun c (H : Heap) (hH : 0 < H.length) => nearP_ok (c := c) (H := H) (w := r.wide) (d := r.deep) (a := s.people[w]) (b := a.cell) (x1 := .slice (r.people.map Person.row)) (x2 := .slice (r.things.map Thing.row)) (x3 := .slice (r.seen.map irow)) (x4 := .slice (r.lapses.map irow)) (x5 := .slice (r.acts.map RAct.row)) hW.w1 hW.w6 C1.1 (by omega) C2.1 (by omega) hH
  have CT := fun c (H : Heap) (hH : 0 < H.length) => contains_int_ok (c := c) (H := H) s.people a.cell (by rw [hS.pl]; exact hW.pl) hH
  rw [actRow]
  unfold stRow
  cases hn : nearV r.wide s.people[w] a.cell with
  | false =>
    simp [hn] at hd
    simp [hA.who, hwp, irow, N, hn, gleave_free, hd]
  | true =>
    rw [hn, Bool.and_true] at hd
    cases hc : s.people.contains a.cell with
    | false =>
      rw [hc] at hd CT
      simp [hA.who, hwp, irow, N, hn, CT, gleave_free, hd]
    | true =>
      rw [hc] at hd CT
      simp [hA.who, hwp, irow, N, hn, CT, gleave_free, hd]
theorem mayTake_ok (hS : Snd r s) (hA : AB r w a) (hk : a.kind = 2) (hH : 0 < H.length) :
  gcall KC (geval KC) 137 [.pure (.agg (stRow r s)), .pure (.agg a.row)] c H = some (.pure (.bool (posV r s w a)), H) := by
 refine bor_c rfl rfl rfl rfl rfl hH fun H hH => ?_
 refine WPv_eq (call_enter0 KC needT Tryz.func137 rfl rfl good137 (by simp) hH ?_)
 have hwp : w < s.people.length := by rw [hS.pl]; exact hA.wl
 obtain ⟨t, ht, htl⟩ := hA.take hk
 have htl' : t < s.things.length := by rw [hS.tl]; exact htl
 have R := handAt_rng hS.toScB (w := w) (hand := a.hand) hA.wl
 have hd := posV_2 (r := r) (s := s) (w := w) hk
 rw [getD_lt hwp, ht, Int.toNat_natCast, getD_lt htl'] at hd
 have E := fun c (H : Heap) (hH : 0 < H.length) => held_ok (c := c) (H := H) hS.toScB hA hH
 rw [actRow] at E ⊢
 unfold stRow at E ⊢
 by_cases h0 : handAt s.hands w a.hand < 0
 ·have h1 : handAt s.hands w a.hand = -1 := by omega
  rw [h1] at hd E
  simp at hd
  simp [hA.who, ht] at E
  simp [hA.who, hwp, irow, E, Spot.row, ht, htl', gleave_free, hd]
 ·have h1 : ¬ handAt s.hands w a.hand = -1 := by omega
  have h1' : (handAt s.hands w a.hand == -1) = false := by simpa using h1
  rw [h1', Bool.false_and] at hd
  simp [hA.who, ht] at E
  simp [hA.who, ht, E, h0, gleave_free, hd]
theorem mayLay_ok (hS : Snd r s) (hA : AB r w a) (hk : a.kind = 3) (hH : 0 < H.length) :
  gcall KC (geval KC) 139 [.pure (.agg (stRow r s)), .pure (.agg a.row)] c H = some (.pure (.bool (posV r s w a)), H) := by
 refine bor_c rfl rfl rfl rfl rfl hH fun H hH => ?_
 refine WPv_eq (call_enter0 KC needT Tryz.func139 rfl rfl good139 (by simp) hH ?_)
 have hd := posV_3 (r := r) (s := s) (w := w) hk
 have E := fun c (H : Heap) (hH : 0 < H.length) => held_ok (c := c) (H := H) hS.toScB hA hH
 rw [actRow] at E ⊢
 unfold stRow at E ⊢
 simp [E, gleave_free, hd]
theorem mayGive_ok (hS : Snd r s) (hW : WB r) (hA : AB r w a) (hk : a.kind = 4) (hH : 0 < H.length) :
    gcall KC (geval KC) 141 [.pure (.agg (stRow r s)), .pure (.agg a.row)] c H = some (.pure (.bool (posV r s w a)), H) := by
  refine bor_c rfl rfl rfl rfl rfl hH fun H hH => ?_
  refine WPv_eq (call_enter0 KC needT Tryz.func141 rfl rfl good141 (by simp) hH ?_)
  have hwp : w < s.people.length := by rw [hS.pl]; exact hA.wl
  obtain ⟨o, ho, hol, _⟩ := hA.give hk
  have hop : o < s.people.length := by rw [hS.pl]; exact hol
  have hoh : o < s.hands.length := by rw [hS.hl]; exact hol
  have C1 := cell_of hS hA.wl
  have C2 := cell_of hS hol
  have n6 := hW.n6
  have hd := posV_4 (r := r) (s := s) (w := w) hk
  rw [getD_lt hwp, ho, Int.toNat_natCast, getD_lt hop] at hd
  rw [getD_lt hwp] at C1
  rw [getD_lt hop] at C2
  have N := fun c (H : Heap) (hH : 0 < H.length) => nearP_ok (c := c) (H := H) (w := r.wide) (d := r.deep) (a := s.people[w]) (b := s.people[o]) (x1 := .slice (r.people.map Person.row)) (x2 := .slice (r.things.map Thing.row)) (x3 := .slice (r.seen.map irow)) (x4 := .slice (r.lapses.map irow)) (x5 := .slice (r.acts.map RAct.row)) hW.w1 hW.w6 C1.1 (by omega) C2.1 (by omega) hH
  have E := fun c (H : Heap) (hH : 0 < H.length) => held_ok (c := c) (H := H) hS.toScB hA hH
  have G := fun c (H : Heap) (hH : 0 < H.length) => free_ok (c := c) (H := H) (r := r) hoh hH
  rw [actRow] at E ⊢
  unfold stRow at E G ⊢
  by_cases h0 : 0 ≤ handAt s.hands w a.hand
  · cases hn : nearV r.wide s.people[w] s.people[o] with
    | false =>
      simp [hn] at hd
      simp [hA.who, ho] at E
      simp [hA.who, hwp, irow, E, h0, N, hn, ho, hop, gleave_free, hd]
    | true =>
      simp [hn, h0] at hd
      simp [hA.who, ho] at E
      simp [hA.who, hwp, irow, E, h0, N, hn, ho, hop, G, gleave_free, hd]
  · simp [h0] at hd
    simp [hA.who, ho] at E
    simp [hA.who, ho, E, h0, gleave_free, hd]
theorem mayWipe_ok (hS : Snd r s) (hA : AB r w a) (hk : a.kind = 5) (hH : 0 < H.length) :
    gcall KC (geval KC) 143 [.pure (.agg (stRow r s)), .pure (.agg a.row)] c H = some (.pure (.bool (posV r s w a)), H) := by
  refine bor_c rfl rfl rfl rfl rfl hH fun H hH => ?_
  refine WPv_eq (call_enter0 KC needT Tryz.func143 rfl rfl good143 (by simp) hH ?_)
  have R := handAt_rng hS.toScB (w := w) (hand := a.hand) hA.wl
  have hd := posV_5 (r := r) (s := s) (w := w) hk
  have E := fun c (H : Heap) (hH : 0 < H.length) => held_ok (c := c) (H := H) hS.toScB hA hH
  have G := fun c (H : Heap) (hH : 0 < H.length) => beside_ok (c := c) (H := H) hS.toScB hA hH
  rw [actRow] at E G ⊢
  unfold stRow at E G ⊢
  by_cases h0 : 0 ≤ handAt s.hands w a.hand
  · obtain ⟨t, ht⟩ := Int.eq_ofNat_of_zero_le h0
    have htl : t < r.things.length := by have := hS.tl; omega
    rw [ht, Int.toNat_natCast, getD_lt htl] at hd
    rw [ht] at E
    have ht0 : (0 : Int) ≤ t := by omega
    cases hc : r.things[t].cloth with
    | false =>
      simp [hc] at hd
      simp [E, ht0, htl, Thing.row, hc, gleave_free, hd]
    | true =>
      simp [hc] at hd
      simp [E, G, ht0, htl, Thing.row, hc, gleave_free, hd]
  · simp [h0] at hd
    simp [E, h0, gleave_free, hd]
theorem mayPour_ok (hS : Snd r s) (hA : AB r w a) (hk : a.kind = 6) (hH : 0 < H.length) :
    gcall KC (geval KC) 145 [.pure (.agg (stRow r s)), .pure (.agg a.row)] c H = some (.pure (.bool (posV r s w a)), H) := by
  refine bor_c rfl rfl rfl rfl rfl hH fun H hH => ?_
  refine WPv_eq (call_enter0 KC needT Tryz.func145 rfl rfl good145 (by simp) hH ?_)
  have R := handAt_rng hS.toScB (w := w) (hand := a.hand) hA.wl
  have R2 := handAt_rng hS.toScB (w := w) (hand := 1 - a.hand) hA.wl
  have hd := posV_6 (r := r) (s := s) (w := w) hk
  have E := fun c (H : Heap) (hH : 0 < H.length) => held_ok (c := c) (H := H) hS.toScB hA hH
  have G := fun c (H : Heap) (hH : 0 < H.length) => beside_ok (c := c) (H := H) hS.toScB hA hH
  have V := fun (t : Nat) (ht : t < s.things.length) (b : Int) (hb : b = 2 ∨ b = 4) c (H : Heap) (hH : 0 < H.length) => hasS_ok' (c := c) (H := H) hS ht hb hH
  rw [actRow] at E G ⊢
  unfold stRow at E G V ⊢
  have neg : ∀ x b : Int, ¬ 0 ≤ x → hasV s.things x b = false := fun x b h => by rw [hasV_def, decide_eq_false h]; rfl
  by_cases h0 : 0 ≤ handAt s.hands w a.hand
  · obtain ⟨t, ht⟩ := Int.eq_ofNat_of_zero_le h0
    have htl : t < s.things.length := by omega
    rw [ht] at hd E
    have ht0 : (0 : Int) ≤ t := by omega
    have V1 := V t htl 2 (.inl rfl)
    have V2 := V t htl 4 (.inr rfl)
    by_cases k0 : 0 ≤ handAt s.hands w (1 - a.hand)
    · obtain ⟨u, hu⟩ := Int.eq_ofNat_of_zero_le k0
      have hul : u < s.things.length := by omega
      rw [hu] at hd G
      have hu0 : (0 : Int) ≤ u := by omega
      have V3 := V u hul 2 (.inl rfl)
      have V4 := V u hul 4 (.inr rfl)
      cases x1 : hasV s.things t 2 with
      | false =>
        rw [x1] at hd V1
        simp at hd
        simp [E, G, ht0, hu0, V1, gleave_free, hd]
      | true =>
        cases x2 : hasV s.things t 4 with
        | true =>
          rw [x1, x2] at hd
          rw [x1] at V1
          rw [x2] at V2
          simp at hd
          simp [E, G, ht0, hu0, V1, V2, gleave_free, hd]
        | false =>
          cases x3 : hasV s.things u 2 with
          | true =>
            rw [x1, x2, x3] at hd
            rw [x1] at V1
            rw [x2] at V2
            rw [x3] at V3
            simp at hd
            simp [E, G, ht0, hu0, V1, V2, V3, gleave_free, hd]
          | false =>
            rw [x1, x2, x3] at hd
            rw [x1] at V1
            rw [x2] at V2
            rw [x3] at V3
            simp at hd
            simp [E, G, ht0, hu0, V1, V2, V3, V4, gleave_free, hd]
    · simp [k0] at hd
      simp [E, G, ht0, k0, gleave_free, hd]
  · rw [neg _ _ h0] at hd
    simp at hd
    simp [E, h0, gleave_free, hd]
theorem mayCover_ok (hS : Snd r s) (hA : AB r w a) (hk : a.kind = 7) (hH : 0 < H.length) :
  gcall KC (geval KC) 147 [.pure (.agg (stRow r s)), .pure (.agg a.row)] c H = some (.pure (.bool (posV r s w a)), H) := by
 refine bor_c rfl rfl rfl rfl rfl hH fun H hH => ?_
 refine WPv_eq (call_enter0 KC needT Tryz.func147 rfl rfl good147 (by simp) hH ?_)
 have R := handAt_rng hS.toScB (w := w) (hand := a.hand) hA.wl
 have hd := posV_7 (r := r) (s := s) (w := w) hk
 have E := fun c (H : Heap) (hH : 0 < H.length) => held_ok (c := c) (H := H) hS.toScB hA hH
 have V := fun (t : Nat) (ht : t < s.things.length) c (H : Heap) (hH : 0 < H.length) => hasS_ok' (c := c) (H := H) hS ht (b := 4) (.inr rfl) hH
 rw [actRow] at E ⊢
 unfold stRow at E V ⊢
 by_cases h0 : 0 ≤ handAt s.hands w a.hand
 ·obtain ⟨t, ht⟩ := Int.eq_ofNat_of_zero_le h0
  have htl : t < s.things.length := by omega
  rw [ht] at hd E
  have ht0 : (0 : Int) ≤ t := by omega
  have V1 := V t htl
  simp at hd
  simp [E, ht0, V1, gleave_free, hd]
 ·simp [h0] at hd
  simp [E, h0, gleave_free, hd]
theorem mayOpen_ok (hS : Snd r s) (hA : AB r w a) (hk : a.kind = 8) (hH : 0 < H.length) :
  gcall KC (geval KC) 149 [.pure (.agg (stRow r s)), .pure (.agg a.row)] c H = some (.pure (.bool (posV r s w a)), H) := by
 refine bor_c rfl rfl rfl rfl rfl hH fun H hH => ?_
 refine WPv_eq (call_enter0 KC needT Tryz.func149 rfl rfl good149 (by simp) hH ?_)
 have R := handAt_rng hS.toScB (w := w) (hand := a.hand) hA.wl
 have hd := posV_8 (r := r) (s := s) (w := w) hk
 have E := fun c (H : Heap) (hH : 0 < H.length) => held_ok (c := c) (H := H) hS.toScB hA hH
 have V := fun (t : Nat) (ht : t < s.things.length) c (H : Heap) (hH : 0 < H.length) => hasS_ok' (c := c) (H := H) hS ht (b := 4) (.inr rfl) hH
 rw [actRow] at E ⊢
 unfold stRow at E V ⊢
 by_cases h0 : 0 ≤ handAt s.hands w a.hand
 ·obtain ⟨t, ht⟩ := Int.eq_ofNat_of_zero_le h0
  have htl : t < s.things.length := by omega
  rw [ht] at hd E
  have ht0 : (0 : Int) ≤ t := by omega
  have V1 := V t htl
  simp [E, ht0, V1, gleave_free, hd]
 ·rw [hasV_def, decide_eq_false h0] at hd
  simp at hd
  simp [E, h0, gleave_free, hd]
theorem way_ok {k : Nat} (hk : 1 ≤ k ∧ k ≤ 8) (hH : 0 < H.length) : gcall KC (geval KC) 127 [.pure (.int .i64 k)] c H = some (.pure (.agg [.fn (135 + 2 * (k - 1)), .fn (136 + 2 * (k - 1))]), H) := by
 refine WPv_eq (call_enter KC needT Tryz.func127 rfl rfl good127 rfl rfl rfl (by simp) hH ?_)
 obtain ⟨k1, k8⟩ := hk
 match k, k1, k8 with
 | 1, _, _ => simp [gleave_free]
 | 2, _, _ => simp [gleave_free]
 | 3, _, _ => simp [gleave_free]
 | 4, _, _ => simp [gleave_free]
 | 5, _, _ => simp [gleave_free]
 | 6, _, _ => simp [gleave_free]
 | 7, _, _ => simp [gleave_free]
 | 8, _, _ => simp [gleave_free]
end
end
end Go.Gh

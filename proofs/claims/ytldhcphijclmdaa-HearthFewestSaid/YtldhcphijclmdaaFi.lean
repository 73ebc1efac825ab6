/- OwnFire and OwnPours that keep their blocks. -/
import Derived.Test.YtldhcphijclmdaaFh
import Derived.Test.YtldhcphijclmdaaGl
namespace Go.Gh
open Go.Proofs
set_option linter.unusedSimpArgs false
set_option linter.unusedVariables false
set_option maxRecDepth 100000
set_option maxHeartbeats 4000000

variable {keep : Nat → Bool} (hk : ∀ f, kept f = false → keep f = false) {c : Nat} {H : Heap}
theorem ownPours_ok (h22 : keep 22 = true) {l : List Pour} (hl : l.length ≤ 1000) (hH : 0 < H.length) (hfree : H.get (H.length - 1, newKey c 5) = none) :
    gcall (KC keep) (geval (KC keep)) 22 [.pure (.slice (l.map Pour.row))] c H =
      some (apS (H.length - 1, newKey c 5) 3 (l.map Pour.row), if l = [] then H else H.set (H.length - 1, newKey c 5) (.arr 3 (l.map Pour.row) 0 false)) := by
  refine WPv_eq (call_enter (KC keep) needT Try.func22 rfl rfl good22 rfl (by simp) hH ?_)
  have hll : ¬ H.length + 1 ≤ H.length := by omega
  have r3 : ∀ x : Pour, x.row.length = 3 := fun _ => rfl
  by_cases hz : l = []
  · subst hz
    simp [gleave_keep, h22, refs, refs2, refs1, dedup, moveOut, ren, ren2, ren1, apS_nil]
  · have hb : l.length * 24 ≤ 1099511627776 := by omega
    simp [hz, hb, hll, r3, apS, gleave_keep, h22, refs, refs2, refs1, dedup, moveOut, cleanBlk, hfree, ren, ren2, ren1]
theorem ownFire_ok (h21 : keep 21 = true) {cs : List Coal} {ts : List Touch} (h1 : cs.length ≤ 1000) (h2 : ts.length ≤ 1000) (hH : 0 < H.length) (hf1 : H.get (H.length - 1, newKey c 6) = none) (hf2 : H.get (H.length - 1, newKey c 10) = none) :
    gcall (KC keep) (geval (KC keep)) 21 [.pure (.agg [.slice (cs.map Coal.row), .slice (ts.map Touch.row)])] c H =
      some (.agg [apS (H.length - 1, newKey c 6) 7 (cs.map Coal.row), apS (H.length - 1, newKey c 10) 2 (ts.map Touch.row)],
        (if ts = [] then id else fun H : Heap => H.set (H.length - 1, newKey c 10) (.arr 2 (ts.map Touch.row) 0 false)) (if cs = [] then H else H.set (H.length - 1, newKey c 6) (.arr 7 (cs.map Coal.row) 0 false))) := by
  refine WPv_eq (call_enter (KC keep) needT Try.func21 rfl rfl good21 rfl (by simp) hH ?_)
  have hn : newKey c 6 ≠ newKey c 10 := by unfold newKey; omega
  have hb : cs.length * 56 ≤ 1099511627776 := by omega
  have hb2 : ts.length * 16 ≤ 1099511627776 := by omega
  have hll : ¬ H.length + 1 ≤ H.length := by omega
  have r7 : ∀ x : Coal, x.row.length = 7 := fun _ => rfl
  have r2 : ∀ x : Touch, x.row.length = 2 := fun _ => rfl
  by_cases hz : cs = []
  · by_cases hz2 : ts = []
    · subst hz; subst hz2
      simp [gleave_keep, h21, refs, refs2, refs1, dedup, moveOut, ren, ren2, ren1, apS_nil]
    · subst hz
      simp [hz2, hb2, hll, r7, r2, apS, gleave_keep, h21, refs, refs2, refs1, dedup, moveOut, cleanBlk, hf1, hf2, ren, ren2, ren1]
  · by_cases hz2 : ts = []
    · subst hz2
      simp [hz, hb, hll, r7, r2, apS, gleave_keep, h21, refs, refs2, refs1, dedup, moveOut, cleanBlk, hf1, hf2, ren, ren2, ren1]
    · have hg := (Heap.get_set_other (H := H) (nm := (H.length - 1, newKey c 6)) (nm' := (H.length - 1, newKey c 10)) (.arr 7 (cs.map Coal.row) 0 false) (by intro e; exact hn (Prod.mk.inj e).2.symm)).trans hf2
      simp [hz, hz2, hb, hb2, hll, r7, r2, apS, gleave_keep, h21, refs, refs2, refs1, dedup, moveOut, cleanBlk, hf1, hf2, ren, ren2, ren1, hg]
end Go.Gh


/- Calls with a fire that lies in blocks, or with such pours. -/
namespace Go.Gh
open Go.Proofs
set_option linter.unusedSimpArgs false
set_option linter.unusedVariables false
set_option maxRecDepth 100000
set_option maxHeartbeats 4000000

def frzS (rows : List (List PV)) : GV := if rows = [] then .nils else .pure (.slice rows)
def frzH (H : Heap) (nm : Nm) (es vf : Nat) (rows : List (List PV)) : Heap := if rows = [] then H else H.set nm (.arr es rows vf true)
theorem frzCell_apS {H : Heap} {nm : Nm} {es vf : Nat} {ro : Bool} {rows : List (List PV)} (h : rows ≠ [] → H.get nm = some (.arr es rows vf ro)) (hv : vf ≤ rows.length) : frzCell H (apS nm es rows) = (frzS rows, frzH H nm es vf rows) := by
  unfold apS frzS frzH
  by_cases hr : rows = []
  · subst hr; simp [frzVal, frzCell]
  · simp [hr, h hr, hv, frzVal, frzCell, pureCell]
theorem frzVal_apS' {H : Heap} {nm : Nm} {es vf : Nat} {ro : Bool} {rows : List (List PV)} (h : rows ≠ [] → H.get nm = some (.arr es rows vf ro)) (hv : vf ≤ rows.length) : frzVal H (apS nm es rows) = (frzS rows, frzH H nm es vf rows) := by
  unfold apS frzS frzH
  by_cases hr : rows = []
  · subst hr; simp [frzVal, frzCell]
  · simp [hr, h hr, hv, frzVal, frzCell, pureCell]
theorem canon_frzS (rows : List (List PV)) : canon (frzS rows) = canon (.pure (.slice rows)) := by
  unfold frzS
  split
  · rename_i h; subst h; rfl
  · rfl
theorem frzVal_fire {H : Heap} {n1 n2 : Nm} {v1 v2 : Nat} {o1 o2 : Bool} {r1 r2 : List (List PV)} (h1 : r1 ≠ [] → H.get n1 = some (.arr 7 r1 v1 o1)) (h2 : r2 ≠ [] → (frzH H n1 7 v1 r1).get n2 = some (.arr 2 r2 v2 o2)) (hv1 : v1 ≤ r1.length) (hv2 : v2 ≤ r2.length) :
    frzVal H (.agg [apS n1 7 r1, apS n2 2 r2]) = (mkAgg [frzS r1, frzS r2], frzH (frzH H n1 7 v1 r1) n2 2 v2 r2) := by
  have a := frzCell_apS h1 hv1
  have b := frzCell_apS h2 hv2
  generalize apS n1 7 r1 = z1 at *
  generalize apS n2 2 r2 = z2 at *
  simp only [frzVal, frzCells, a, b]
theorem canon_fire (r1 r2 : List (List PV)) : canon (mkAgg [frzS r1, frzS r2]) = canon (.pure (.agg [.slice r1, .slice r2])) := by
  unfold frzS
  by_cases h1 : r1 = [] <;> by_cases h2 : r2 = [] <;> simp only [h1, h2, if_true, if_false] <;> rfl

variable {keep : Nat → Bool} (hk : ∀ f, kept f = false → keep f = false) {c : Nat} {H : Heap}
include hk in
theorem run_fire (h79 : keep 79 = true) (h90 : keep 90 = true) (k : Kettle) (f : Fire) (l : List Pour) (mi : Int) {g : GV} {c1 : GV} {H' : Heap} (hz : frzVal H g = (c1, H')) (hc : canon c1 = canon (.pure (.agg f.row))) (hH : 0 < H'.length) :
    gcall (KC keep) (geval (KC keep)) 44 [.pure (.agg k.row), g, .pure (.slice (l.map Pour.row)), .pure (.int .i64 mi)] c H =
      some (.pure (.tuple [.slice ((runA k f l mi).1.map Span.row), .int .i64 (runA k f l mi).2]), H') := by
  have R := Run_ok (keep := keep) (H := H') (c := c) hk h79 h90 k f l mi hH
  have e0 : frzVals H [.pure (.agg k.row), g, .pure (.slice (l.map Pour.row)), .pure (.int .i64 mi)] = ([.pure (.agg k.row), c1, .pure (.slice (l.map Pour.row)), .pure (.int .i64 mi)], H') := by
    unfold frzVals
    rw [frzVal_pure]
    simp only
    unfold frzVals
    rw [hz]
    simp only
    unfold frzVals
    rw [frzVal_pure]
    simp only
    unfold frzVals
    rw [frzVal_pure]
    simp only
    unfold frzVals
    rfl
  rw [gcall_canon (args' := [.pure (.agg k.row), .pure (.agg f.row), .pure (.slice (l.map Pour.row)), .pure (.int .i64 mi)]) (H' := H') rfl ?_ ?_ rfl]
  · exact R
  · rw [e0]
    simp only [List.map_cons, List.map_nil, hc]
  · rw [e0]
include hk in
theorem run_pours (h79 : keep 79 = true) (h90 : keep 90 = true) (k : Kettle) (f : Fire) (l : List Pour) (mi : Int) {g : GV} {c1 : GV} {H' : Heap} (hz : frzVal H g = (c1, H')) (hc : canon c1 = canon (.pure (.slice (l.map Pour.row)))) (hH : 0 < H'.length) :
    gcall (KC keep) (geval (KC keep)) 44 [.pure (.agg k.row), .pure (.agg f.row), g, .pure (.int .i64 mi)] c H =
      some (.pure (.tuple [.slice ((runA k f l mi).1.map Span.row), .int .i64 (runA k f l mi).2]), H') := by
  have R := Run_ok (keep := keep) (H := H') (c := c) hk h79 h90 k f l mi hH
  have e0 : frzVals H [.pure (.agg k.row), .pure (.agg f.row), g, .pure (.int .i64 mi)] = ([.pure (.agg k.row), .pure (.agg f.row), c1, .pure (.int .i64 mi)], H') := by
    unfold frzVals
    rw [frzVal_pure]
    simp only
    unfold frzVals
    rw [frzVal_pure]
    simp only
    unfold frzVals
    rw [hz]
    simp only
    unfold frzVals
    rw [frzVal_pure]
    simp only
    unfold frzVals
    rfl
  rw [gcall_canon (args' := [.pure (.agg k.row), .pure (.agg f.row), .pure (.slice (l.map Pour.row)), .pure (.int .i64 mi)]) (H' := H') rfl ?_ ?_ rfl]
  · exact R
  · rw [e0]
    simp only [List.map_cons, List.map_nil, hc]
  · rw [e0]
include hk in
theorem heat_fire (h90 : keep 90 = true) (f : Fire) (m : Int) {g : GV} {c1 : GV} {H' : Heap} (hz : frzVal H g = (c1, H')) (hc : canon c1 = canon (.pure (.agg f.row))) (hH : 0 < H'.length) :
    gcall (KC keep) (geval (KC keep)) 25 [g, .pure (.int .i64 m)] c H = some (.pure (.tuple [.agg (heatA f.coals f.touches m).1.row, .int .i64 (heatA f.coals f.touches m).2]), H') := by
  have R := Heat_ok (keep := keep) (H := H') (c := c) hk h90 f.coals f.touches m hH
  have e0 : frzVals H [g, .pure (.int .i64 m)] = ([c1, .pure (.int .i64 m)], H') := by
    unfold frzVals
    rw [hz]
    simp only
    unfold frzVals
    rw [frzVal_pure]
    simp only
    unfold frzVals
    rfl
  rw [gcall_canon (args' := [.pure (.agg f.row), .pure (.int .i64 m)]) (H' := H') rfl ?_ ?_ rfl]
  · exact R
  · rw [e0]
    simp only [List.map_cons, List.map_nil, hc]
  · rw [e0]
end Go.Gh


/- HearthMore. -/
namespace Go.Gh
open Go.Proofs
set_option linter.unusedSimpArgs false
set_option linter.unusedVariables false
set_option maxRecDepth 100000
set_option maxHeartbeats 4000000

noncomputable def kp1 : Nat → Bool := fun f => ([15, 21, 22, 79, 90] : List Nat).contains f
theorem kp1_ok : ∀ f, kept f = false → kp1 f = false := by
  intro f h
  unfold kept at h
  unfold kp1
  simp at h ⊢
  omega
theorem awake1_run (fr : Fr) (c : Nat) : gcall (KC kp1) (gexec (KC kp1) 3000) 14 [] c [fr, []] = some (.pure (.bool true), [fr, []]) := by
  kernel_rfl
theorem awake1_ok (fr : Fr) (c : Nat) : gcall (KC kp1) (geval (KC kp1)) 14 [] c [fr, []] = some (.pure (.bool true), [fr, []]) := gcall_geval (awake1_run fr c)

theorem PsLe.set : ∀ {l z : List Pour} {i : Nat} {p : Pour} (h : PsLe l z) (hi : i < l.length), PLe l[i] p → PsLe l (z.set i p)
  | [], _, i, p, _, hi, _ => absurd hi (Nat.not_lt_zero _)
  | _ :: _, [], i, p, h, _, _ => h.elim
  | a :: l, b :: z, 0, p, h, hi, hp => ⟨hp, h.2⟩
  | a :: l, b :: z, i + 1, p, h, hi, hp => ⟨h.1, PsLe.set h.2 (by simpa using hi) (by simpa using hp)⟩
theorem PsLe.len : ∀ {l z : List Pour} (h : PsLe l z), z.length = l.length
  | [], [], _ => rfl
  | [], _ :: _, h => h.elim
  | _ :: _, [], h => h.elim
  | a :: l, b :: z, h => by simp [PsLe.len h.2]

/-- The frame of the law once the fires are laid: F word ro tail. -/
structure MF (k : Kettle) (cs : List Coal) (ts : List Touch) (x : Coal) (F : Int → Bool → Fr → Fr) (g1 g2 c1 : GV) : Prop where
  g4 : ∀ w r Y, (F w r Y).get 4 = some (.box [.pure (.slice (cs.map Coal.row)), .pure (.slice (ts.map Touch.row))])
  g5 : ∀ w r Y, (F w r Y).get 5 = some (.box (k.row.map .pure))
  g8 : ∀ w r Y, (F w r Y).get 8 = some (.box [g1, g2])
  gw : ∀ w r Y, (F w r Y).get 98310 = some (wbox w)
  sw : ∀ w r Y w', (F w r Y).ins 98310 (wbox w') = F w' r Y
  gp : ∀ w r b, (F w r [(208901, b)]).get 208901 = some b
  sp : ∀ w r b b', (F w r [(208901, b)]).ins 208901 b' = F w r [(208901, b')]
  gn : ∀ w r, (F w r []).get 208901 = none
  ap : ∀ w r b, (F w r []).ins 208901 b = F w r [(208901, b)]
  fz : ∀ w r Y, frzVal [F w r Y, []] (.agg [g1, g2]) = (c1, [F w true Y, []])
  fz2 : ∀ fr w Y, frzVal [fr, F w true Y, []] (.agg [g1, g2]) = (c1, [fr, F w true Y, []])
  cn : canon c1 = canon (.pure (.agg (Fire.row ⟨cs ++ [x], ts⟩)))

theorem more_loop0 {k : Kettle} {cs : List Coal} {ts : List Touch} {x : Coal} {F : Int → Bool → Fr → Fr} {g1 g2 c1 : GV} (M : MF k cs ts x F g1 g2 c1) (mi : Int) (l : List Pour) (hn : l.length ≤ 1000) (hw0 : ∀ p ∈ l, p.warm ≤ 1000 ∧ 0 ≤ p.warm) (Q : GX → GSt → Prop)
    (hq : ∀ (l' : List Pour) (w' : Int) (vf : Nat), PsLe l l' → (∀ p ∈ l', p.warm ≤ 1000) → vf ≤ l.length →
      Q (.exit 0) ⟨[(4, .bptr (1, 4) 0), (5, .bptr (1, 5) 0), (6, .pure (.slice (l.map Pour.row))), (7, .pure (.int .i64 mi)), (8, .bptr (1, 8) 0), (9, .hdr (1, 208901) 3 l.length 0 l.length)], [F w' false [(208901, .arr 3 (l'.map Pour.row) vf false)], []], 213⟩) :
    ∀ (j i vf : Nat) (w : Int) (z : List Pour), i + j = l.length → vf ≤ l.length → PsLe l z → (∀ p ∈ z, p.warm ≤ 1000) → (∀ n, i ≤ n → z[n]? = l[n]?) →
    WPL (KC kp1) needT 6 (lp Try.f6 0) [3, 4, 5, 6, 7, 8, 9, 10] [4, 5, 6, 7, 8, 9] Q [(3, .bptr (1, 98310) 0), (4, .bptr (1, 4) 0), (5, .bptr (1, 5) 0), (6, .pure (.slice (l.map Pour.row))), (7, .pure (.int .i64 mi)), (8, .bptr (1, 8) 0), (9, .hdr (1, 208901) 3 l.length 0 l.length), (10, .pure (.int .i64 i))]
      [F w false [(208901, .arr 3 (z.map Pour.row) vf false)], []] 213 := by
  intro j
  induction j with
  | zero =>
    intro i vf w z hi hv hz hzw hzl
    have e : i = l.length := by omega
    subst e
    have h2 := hq z w vf hz hzw hv
    apply WPL_step
    conv => arg 4; whnf
    simp
    exact h2
  | succ j ih =>
    intro i vf w z hi hv hz hzw hzl
    have hia : i < l.length := by omega
    have hlen := hz.len
    have hib : i < z.length := by omega
    have hw := w64 (x := (i : Int) + 1) (by omega) (by omega)
    have e1 : z[i] = l[i] := by have := hzl i (Nat.le_refl _); rw [List.getElem?_eq_getElem hib, List.getElem?_eq_getElem hia] at this; exact Option.some.inj this
    have hp := hw0 l[i] (List.getElem_mem hia)
    have hB : ∀ fr, isBox [fr, F w false [(208901, .arr 3 (z.map Pour.row) vf false)], []] (1, 98310) := fun fr => ⟨w, by simp [M.gw], by simp [M.sw]⟩
    have hwd : ∀ fr, wordAt [fr, F w false [(208901, .arr 3 (z.map Pour.row) vf false)], []] (1, 98310) = w := fun fr => by simp [wordAt, M.gw, wbox]
    have hA := fun fr (c : Nat) => any_ok (keep := kp1) (c := c) (lo := l[i].warm) (hi := 1000) kp1_ok (hB fr)
    simp only [hwd] at hA
    have har := anyR_rng w l[i].warm 1000 (by omega) (by omega) (by omega)
    generalize anyR w l[i].warm 1000 = aw at *
    obtain ⟨t, w'⟩ := aw
    simp only at har
    have hps : PLe l[i] ⟨l[i].minute, l[i].ladles, t⟩ := ⟨rfl, rfl, by simp only; omega⟩
    have ih' := ih (i + 1) l.length w' (z.set i ⟨l[i].minute, l[i].ladles, t⟩) (by omega) (Nat.le_refl _) (hz.set hia hps) (fun p hp => by
      rcases List.mem_or_eq_of_mem_set hp with h | h
      · exact hzw p h
      · subst h; simp only; omega) (fun n hn => by rw [List.getElem?_set]; rw [if_neg (by omega)]; exact hzl n (by omega))
    apply WPL_step
    conv => arg 4; whnf
    simp [M.sw] at hA
    simp [hia, hib, e1, hlen, hw, M.gp, M.sp, M.gw, M.sw, Pour.row, hv, hA]
    simp [Pour.row] at ih'
    exact ih'

theorem more_loop {k : Kettle} {cs : List Coal} {ts : List Touch} {x : Coal} {F : Int → Bool → Fr → Fr} {g1 g2 c1 : GV} (M : MF k cs ts x F g1 g2 c1) (mi : Int) (l : List Pour) (hn : l.length ≤ 1000) (hw0 : ∀ p ∈ l, p.warm ≤ 1000 ∧ 0 ≤ p.warm) (Q : GX → GSt → Prop)
    (w : Int) (H : Heap) (hH : H = [F w false (if l = [] then [] else [(208901, .arr 3 (l.map Pour.row) 0 false)]), []])
    (hq : ∀ (l' : List Pour) (w' : Int) (Y Y2 : Fr) (g c2 : GV), PsLe l l' → (∀ p ∈ l', p.warm ≤ 1000) → frzVal [F w' true Y, []] g = (c2, [F w' true Y2, []]) → canon c2 = canon (.pure (.slice (l'.map Pour.row))) →
      Q (.exit 0) ⟨[(4, .bptr (1, 4) 0), (5, .bptr (1, 5) 0), (6, .pure (.slice (l.map Pour.row))), (7, .pure (.int .i64 mi)), (8, .bptr (1, 8) 0), (9, g)], [F w' false Y, []], 213⟩) :
    WPL (KC kp1) needT 6 (lp Try.f6 0) [3, 4, 5, 6, 7, 8, 9, 10] [4, 5, 6, 7, 8, 9] Q [(3, .bptr (1, 98310) 0), (4, .bptr (1, 4) 0), (5, .bptr (1, 5) 0), (6, .pure (.slice (l.map Pour.row))), (7, .pure (.int .i64 mi)), (8, .bptr (1, 8) 0), (9, apS (1, 208901) 3 (l.map Pour.row)), (10, .pure (.int .i64 0))]
      H 213 := by
  subst hH
  by_cases hl : l = []
  · subst hl
    have hq' := hq [] w [] [] .nils .nils trivial (by simp) (by simp [frzVal, frzCell]) rfl
    simp only [List.map_nil, apS_nil, if_true] at hq' ⊢
    apply WPL_step
    conv => arg 4; whnf
    simp
    exact hq'
  · simp only [if_neg hl]
    have hr : l.map Pour.row ≠ [] := by simpa using hl
    have L := more_loop0 M mi l hn hw0 Q (fun l' w' vf h1 h2 h3 => by
      have hlen := h1.len
      have hr2 : l'.map Pour.row ≠ [] := by
        intro e
        have : l' = [] := by simpa using e
        rw [this] at hlen
        exact hl (List.length_eq_zero_iff.1 hlen.symm)
      have fz := frzVal_apS' (H := [F w' true [(208901, .arr 3 (l'.map Pour.row) vf false)], []]) (nm := (1, 208901)) (es := 3) (vf := vf) (ro := false) (rows := l'.map Pour.row) (fun _ => by simp [M.gp]) (by simp; omega)
      have a := hq l' w' [(208901, .arr 3 (l'.map Pour.row) vf false)] [(208901, .arr 3 (l'.map Pour.row) vf true)] (apS (1, 208901) 3 (l'.map Pour.row)) (frzS (l'.map Pour.row)) h1 h2 (by rw [fz, frzH, if_neg hr2]; simp [M.sp]) (canon_frzS _)
      rw [apS, if_neg hr2] at a
      simp only [List.length_map, hlen] at a
      exact a) l.length 0 0 w l (by omega) (by omega) (PsLe.refl l) (fun p hp => (hw0 p hp).1) (fun n _ => rfl)
    rw [apS, if_neg hr]
    simpa using L

end Go.Gh

/- HearthCalm. -/
import Derived.Test.YtldhcphijclmdaaFh
import Derived.Test.YtldhcphijclmdaaGl
import Derived.Test.YtldhcphijclmdaaGm
namespace Go.Gh
open Go.Proofs
set_option linter.unusedSimpArgs false
set_option linter.unusedVariables false
set_option maxRecDepth 100000
set_option maxHeartbeats 4000000

noncomputable def kp2 : Nat → Bool := fun f => ([15, 20, 79, 90] : List Nat).contains f
theorem kp2_ok : ∀ f, kept f = false → kp2 f = false := by
  intro f h
  unfold kept at h
  unfold kp2
  simp at h ⊢
  omega
theorem awake2_run (fr : Fr) (c : Nat) : gcall (KC kp2) (gexec (KC kp2) 3000) 14 [] c [fr, []] = some (.pure (.bool true), [fr, []]) := by
  kernel_rfl
theorem awake2_ok (fr : Fr) (c : Nat) : gcall (KC kp2) (geval (KC kp2)) 14 [] c [fr, []] = some (.pure (.bool true), [fr, []]) := gcall_geval (awake2_run fr c)

def setP (r : Int) (p : Pour) : Pour := ⟨p.minute, p.ladles, r⟩
def setW (r : Int) (i : Nat) (l : List Pour) : List Pour := (l.take i).map (setP r) ++ l.drop i
theorem setW_len (r : Int) (i : Nat) (l : List Pour) : (setW r i l).length = l.length := by simp [setW]; omega
theorem setW_step (r : Int) (i : Nat) (l : List Pour) (h : i < l.length) : (setW r i l).set i (setP r l[i]) = setW r (i + 1) l := by
  unfold setW
  have hl : ((l.take i).map (setP r)).length = i := by simp; omega
  rw [List.set_append_right _ _ (by omega), hl, Nat.sub_self, List.drop_eq_getElem_cons h, List.set_cons_zero, List.take_succ_eq_append_getElem h, List.map_append, List.map_cons, List.map_nil, List.append_assoc]
  rfl
theorem setW_get (r : Int) (i : Nat) (l : List Pour) (h : i < l.length) : (setW r i l)[i]? = some l[i] := by
  unfold setW
  have hl : ((l.take i).map (setP r)).length = i := by simp; omega
  rw [List.getElem?_append_right (by omega), hl, Nat.sub_self, List.getElem?_drop, Nat.add_zero, List.getElem?_eq_getElem h]
def f7r (k : Kettle) (cs : List Coal) (ts : List Touch) (w : Int) (X : Fr) : Fr := (4, .box [.pure (.slice (cs.map Coal.row)), .pure (.slice (ts.map Touch.row))]) :: (5, .box (k.row.map .pure)) :: (69638, wbox w) :: X

theorem calm_loop0 (k : Kettle) (cs : List Coal) (ts : List Touch) (w : Int) (mi : Int) (l : List Pour) (hn : l.length ≤ 1000) (Q : GX → GSt → Prop) : ∀ (j i vf : Nat), i + j = l.length → vf ≤ l.length →
    (∀ vf', vf' ≤ l.length → Q (.exit 0) ⟨[(3, .bptr (1, 69638) 0), (4, .bptr (1, 4) 0), (5, .bptr (1, 5) 0), (6, .hdr (1, 98358) 3 l.length 0 l.length), (7, .pure (.int .i64 mi))], [f7r k cs ts w [(98358, .arr 3 ((l.map (setP k.room)).map Pour.row) vf' false)], []], 127⟩) →
    WPL (KC kp2) needT 7 (lp Try.f7 0) [3, 4, 5, 6, 7, 8] [3, 4, 5, 6, 7] Q [(3, .bptr (1, 69638) 0), (4, .bptr (1, 4) 0), (5, .bptr (1, 5) 0), (6, .hdr (1, 98358) 3 l.length 0 l.length), (7, .pure (.int .i64 mi)), (8, .pure (.int .i64 i))]
      [f7r k cs ts w [(98358, .arr 3 ((setW k.room i l).map Pour.row) vf false)], []] 127 := by
  intro j
  induction j with
  | zero =>
    intro i vf hi hv h1
    have e : i = l.length := by omega
    subst e
    have e2 : setW k.room l.length l = l.map (setP k.room) := by simp [setW]
    rw [e2]
    have h2 := h1 vf hv
    apply WPL_step
    conv => arg 4; whnf
    simp [f7r, Kettle.row]
    simpa [f7r, Kettle.row] using h2
  | succ j ih =>
    intro i vf hi hv h1
    have hia : i < l.length := by omega
    have hw := w64 (x := (i : Int) + 1) (by omega) (by omega)
    have hlen := setW_len k.room i l
    have hset := setW_step k.room i l hia
    have hget := setW_get k.room i l hia
    have ih' := ih (i + 1) l.length (by omega) (Nat.le_refl _) h1
    rw [← hset] at ih'
    generalize setW k.room i l = z at *
    have hzi : i < z.length := by omega
    have hze : z[i] = l[i] := by rw [List.getElem?_eq_getElem hzi] at hget; exact Option.some.inj hget
    apply WPL_step
    conv => arg 4; whnf
    simp [hia, hzi, hze, hlen, hw, f7r, Kettle.row, Pour.row, hv]
    simp [f7r, Kettle.row, setP, Pour.row] at ih'
    exact ih'

theorem calm_loop1 (k : Kettle) (cs : List Coal) (ts : List Touch) (w : Int) (X : Fr) (mi : Int) (x : List Span) (hn : x.length ≤ 1000) (hx : ∀ s ∈ x, s = ⟨k.room, k.room⟩) (Q : GX → GSt → Prop) : ∀ (j i : Nat), i + j = x.length →
    Q (.exit 2) ⟨[(2, gdead), (3, .bptr (1, 69638) 0), (4, .bptr (1, 4) 0), (5, .bptr (1, 5) 0), (7, .pure (.int .i64 mi))], [f7r k cs ts w X, []], 127⟩ →
    WPL (KC kp2) needT 7 (lp Try.f7 1) [3, 4, 5, 7, 9, 11] [2, 3, 4, 5, 7] Q [(3, .bptr (1, 69638) 0), (4, .bptr (1, 4) 0), (5, .bptr (1, 5) 0), (7, .pure (.int .i64 mi)), (9, .pure (.slice (x.map Span.row))), (11, .pure (.int .i64 i))]
      [f7r k cs ts w X, []] 127 := by
  intro j
  induction j with
  | zero =>
    intro i hi h1
    have hni : ¬ i < x.length := by omega
    apply WPL_step
    conv => arg 4; whnf
    simp [hni, f7r, Kettle.row]
    simpa [f7r, Kettle.row] using h1
  | succ j ih =>
    intro i hi h1
    have hia : i < x.length := by omega
    have hw := w64 (x := (i : Int) + 1) (by omega) (by omega)
    have e := hx x[i] (List.getElem_mem hia)
    have ih' := ih (i + 1) (by omega) h1
    apply WPL_step
    conv => arg 4; whnf
    simp [hia, e, hw, f7r, Kettle.row, Span.row, onec_ok kp2_ok]
    simp [f7r, Kettle.row] at ih'
    exact ih'
theorem calm_loop2 (y : List Span) (hn : y.length ≤ 1000) (hy : ∀ i (h1 : i + 1 < y.length) (h2 : i < y.length), y[i].lo ≤ y[i + 1].lo ∧ y[i].hi ≤ y[i + 1].hi) (F : Fr) (Q : GX → GSt → Prop) : ∀ (j n : Nat), n + j = y.length → 1 ≤ n →
    Q (.exit 4) ⟨[(2, gdead)], [F, []], 127⟩ →
    WPL (KC kp2) needT 7 (lp Try.f7 2) [12, 14] [2] Q [(12, .pure (.slice (y.map Span.row))), (14, .pure (.int .i64 n))] [F, []] 127 := by
  intro j
  induction j with
  | zero =>
    intro n hi h0 h1
    have hni : ¬ n < y.length := by omega
    apply WPL_step
    conv => arg 4; whnf
    simp [hni]
    exact h1
  | succ j ih =>
    intro n hi h0 h1
    obtain ⟨p, hp⟩ : ∃ p, p = n - 1 := ⟨_, rfl⟩
    have hia : n < y.length := by omega
    have hib : p < y.length := by omega
    have hw := w64 (x := (n : Int) + 1) (by omega) (by omega)
    have e1 : (n : Int) - 1 = p := by omega
    have hw1 := w64 (x := (p : Int)) (by omega) (by omega)
    obtain ⟨a1, a2⟩ := hy p (by omega) hib
    have e3 : p + 1 = n := by omega
    simp only [e3] at a1 a2
    have b1 : ¬ y[n].lo < y[p].lo := by omega
    have b2 : ¬ y[n].hi < y[p].hi := by omega
    have ih' := ih (n + 1) (by omega) (by omega) h1
    apply WPL_step
    conv => arg 4; whnf
    simp [hia, hib, e1, hw1, hw, Span.row, b1, b2]
    exact ih'

section
variable {H : Heap} {c : Nat}
/-- Run with no coals, and pours that lie in a block. -/
theorem run_calm (k : Kettle) (l : List Pour) (mi : Int) {nm : Nm} {vf : Nat} {ro : Bool} (h : l.map Pour.row ≠ [] → H.get nm = some (.arr 3 (l.map Pour.row) vf ro)) (hv : vf ≤ l.length) (hH : 0 < H.length) :
    gcall (KC kp2) (geval (KC kp2)) 44 [.pure (.agg k.row), .agg [.nils, .nils], apS nm 3 (l.map Pour.row), .pure (.int .i64 mi)] c H =
      some (.pure (.tuple [.slice ((runA k ⟨[], []⟩ l mi).1.map Span.row), .int .i64 (runA k ⟨[], []⟩ l mi).2]), if l.map Pour.row = [] then H else H.set nm (.arr 3 (l.map Pour.row) vf true)) := by
  have hz := frzVal_apS h (by simpa using hv)
  have hlen : 0 < (if l.map Pour.row = [] then H else H.set nm (.arr 3 (l.map Pour.row) vf true)).length := by split <;> simpa using hH
  have R := Run_ok (keep := kp2) (H := if l.map Pour.row = [] then H else H.set nm (.arr 3 (l.map Pour.row) vf true)) (c := c) kp2_ok rfl rfl k ⟨[], []⟩ l mi hlen
  have e0 : frzVals H [.pure (.agg k.row), .agg [.nils, .nils], apS nm 3 (l.map Pour.row), .pure (.int .i64 mi)] = ([.pure (.agg k.row), .agg [.nils, .nils], if l.map Pour.row = [] then .nils else .pure (.slice (l.map Pour.row)), .pure (.int .i64 mi)], if l.map Pour.row = [] then H else H.set nm (.arr 3 (l.map Pour.row) vf true)) := by
    have e1 : frzVal H (.agg [.nils, .nils]) = (.agg [.nils, .nils], H) := by simp [frzVal, frzCells, frzCell]
    have e2 : ∀ (H' : Heap) (p : PV), frzVal H' (.pure p) = (.pure p, H') := fun H' p => by simp [frzVal, frzCell]
    generalize apS nm 3 (l.map Pour.row) = z at *
    generalize GV.agg [.nils, .nils] = y at *
    unfold frzVals
    rw [e2]
    simp only
    unfold frzVals
    rw [e1]
    simp only
    unfold frzVals
    rw [hz]
    simp only
    unfold frzVals
    rw [e2]
    simp only
    unfold frzVals
    rfl
  rw [gcall_canon (args' := [.pure (.agg k.row), .pure (.agg (Fire.row ⟨[], []⟩)), .pure (.slice (l.map Pour.row)), .pure (.int .i64 mi)]) (H' := if l.map Pour.row = [] then H else H.set nm (.arr 3 (l.map Pour.row) vf true)) rfl ?_ ?_ rfl]
  · exact R
  · rw [e0]
    by_cases hr : l.map Pour.row = []
    · rw [hr]; rfl
    · rw [if_neg hr]; rfl
  · rw [e0]
theorem run_nil (k : Kettle) (f : Fire) (mi : Int) (hH : 0 < H.length) :
    gcall (KC kp2) (geval (KC kp2)) 44 [.pure (.agg k.row), .pure (.agg f.row), .nils, .pure (.int .i64 mi)] c H =
      some (.pure (.tuple [.slice ((runA k f [] mi).1.map Span.row), .int .i64 (runA k f [] mi).2]), H) := by
  have R := Run_ok (keep := kp2) (H := H) (c := c) kp2_ok rfl rfl k f [] mi hH
  rw [gcall_canon (args' := [.pure (.agg k.row), .pure (.agg f.row), .pure (.slice (List.map Pour.row [])), .pure (.int .i64 mi)]) (H' := H) rfl ?_ ?_ rfl]
  · exact R
  · simp [frzVals, frzVal, frzCell]
  · simp [frzVals, frzVal, frzCell]
end

theorem psOk_setP {r : Int} (hr : 0 ≤ r ∧ r ≤ 1000) : ∀ {l : List Pour} {w m : Int}, psOk w m l → psOk w m (l.map (setP r))
  | [], _, _, _ => trivial
  | p :: l, w, m, ⟨h1, h2, h3, h4, h5⟩ => ⟨⟨h1.m, h1.l, hr⟩, h2, h3, h4, psOk_setP hr h5⟩

/-- The first loop, whether there are pours or none. -/
theorem calm_loop (k : Kettle) (cs : List Coal) (ts : List Touch) (w : Int) (mi : Int) (l : List Pour) (hn : l.length ≤ 1000) (Q : GX → GSt → Prop) (X : Fr) (hX : X = if l = [] then [] else [(98358, .arr 3 (l.map Pour.row) 0 false)])
    (hq : ∀ X' vf, vf ≤ l.length → ((l.map (setP k.room)).map Pour.row ≠ [] → Heap.get [f7r k cs ts w X', []] (1, 98358) = some (.arr 3 ((l.map (setP k.room)).map Pour.row) vf false)) →
      (∃ X2, (if (l.map (setP k.room)).map Pour.row = [] then [f7r k cs ts w X', []] else Heap.set [f7r k cs ts w X', []] (1, 98358) (.arr 3 ((l.map (setP k.room)).map Pour.row) vf true)) = [f7r k cs ts w X2, []]) →
      Q (.exit 0) ⟨[(3, .bptr (1, 69638) 0), (4, .bptr (1, 4) 0), (5, .bptr (1, 5) 0), (6, apS (1, 98358) 3 ((l.map (setP k.room)).map Pour.row)), (7, .pure (.int .i64 mi))], [f7r k cs ts w X', []], 127⟩) :
    WPL (KC kp2) needT 7 (lp Try.f7 0) [3, 4, 5, 6, 7, 8] [3, 4, 5, 6, 7] Q [(3, .bptr (1, 69638) 0), (4, .bptr (1, 4) 0), (5, .bptr (1, 5) 0), (6, apS (1, 98358) 3 (l.map Pour.row)), (7, .pure (.int .i64 mi)), (8, .pure (.int .i64 0))]
      [f7r k cs ts w X, []] 127 := by
  by_cases hl : l = []
  · subst hl
    have hq' := hq [] 0 (by simp) (by simp) ⟨[], by simp⟩
    subst hX
    simp only [List.map_nil, apS_nil, if_true] at hq' ⊢
    apply WPL_step
    conv => arg 4; whnf
    simp [f7r, Kettle.row]
    simpa [f7r, Kettle.row] using hq'
  · rw [if_neg hl] at hX
    subst hX
    have hr : l.map Pour.row ≠ [] := by simpa using hl
    have hr2 : (l.map (setP k.room)).map Pour.row ≠ [] := by simpa using hl
    have L := calm_loop0 k cs ts w mi l hn Q l.length 0 0 (by omega) (by omega) (fun vf' hv => by
      have a := hq [(98358, .arr 3 ((l.map (setP k.room)).map Pour.row) vf' false)] vf' hv (fun _ => by simp [f7r]) ⟨[(98358, .arr 3 ((l.map (setP k.room)).map Pour.row) vf' true)], by rw [if_neg hr2]; simp [f7r]⟩
      rw [apS, if_neg hr2] at a
      simpa using a)
    rw [apS, if_neg hr]
    simpa [setW] using L

theorem law7 (nums : List Int) (hn : nums.length ≤ 9223372036854775807) : ∃ H', gcall (KC kp2) (geval (KC kp2)) 7 [.pure (.slice (nums.map irow))] 0 [[]] = some (.pure (.bool true), H') := by
  have key : WPv (gcall (KC kp2) (geval (KC kp2)) 7 [.pure (.slice (nums.map irow))] 0 [[]]) (fun x => x.1 = .pure (.bool true)) := by
    refine call_enter (KC kp2) needT Try.func7 rfl rfl good7 rfl (by simp) (by simp) ?_
    have A := fun (fr : Fr) (c : Nat) => awake2_ok fr c
    have nk : newKey 16 6 = 69638 := rfl
    have nk2 : newKey 23 54 = 98358 := rfl
    obtain ⟨w, hw⟩ := BoxOf_ok (keep := kp2) kp2_ok rfl (c := 16) (H := [[], []]) nums hn (by simp) (by simp)
    simp [nk] at hw
    have hB : isBox [[(69638, wbox w)], []] (1, 69638) := ⟨w, by simp, by simp⟩
    have hwd : wordAt [[(69638, wbox w)], []] (1, 69638) = w := by simp [wordAt, wbox]
    have hF := fun (c : Nat) => fireOf_ok (keep := kp2) (c := c) kp2_ok (m := 5) (by omega) hB rfl
    rw [hwd] at hF
    have hm := fireR_made 5 w (by omega)
    generalize fireR 5 w = fw at *
    obtain ⟨⟨cs, ts⟩, w1⟩ := fw
    simp only at hm
    have hB1 : isBox [[(69638, wbox w1)], []] (1, 69638) := ⟨w1, by simp, by simp⟩
    have hwd1 : wordAt [[(69638, wbox w1)], []] (1, 69638) = w1 := by simp [wordAt, wbox]
    have hK := fun (c : Nat) => kettleOf_ok (keep := kp2) (c := c) kp2_ok hB1
    rw [hwd1] at hK
    have hko := kettleR_kok w1
    generalize kettleR w1 = kw at *
    obtain ⟨k, w2⟩ := kw
    simp only at hko
    have hB2 : isBox [f7r k cs ts w2 [], []] (1, 69638) := ⟨w2, by simp [f7r], by simp [f7r]⟩
    have hwd2 : wordAt [f7r k cs ts w2 [], []] (1, 69638) = w2 := by simp [f7r, wordAt, wbox]
    have hP := poursOfK_ok (keep := kp2) (c := 23) (most := 5) (mins := 15) kp2_ok rfl (by omega) (by omega) hko.water hB2 (by simp [nk2, f7r])
    rw [hwd2] at hP
    obtain ⟨hps, hpl⟩ := poursOfR_ok k hko 5 15 w2 (by omega) (by omega)
    generalize poursOfR k 5 15 w2 = pw at *
    obtain ⟨l, w3⟩ := pw
    simp only at hps hpl
    obtain ⟨X, hX⟩ : ∃ X : Fr, X = if l = [] then [] else [(98358, .arr 3 (l.map Pour.row) 0 false)] := ⟨_, rfl⟩
    have eX : (if l = [] then Heap.set [f7r k cs ts w2 [], []] (1, 69638) (wbox w3) else (Heap.set [f7r k cs ts w2 [], []] (1, 69638) (wbox w3)).set (1, 98358) (.arr 3 (l.map Pour.row) 0 false)) = [f7r k cs ts w3 X, []] := by
      rw [hX]
      by_cases hl : l = []
      · simp [hl, f7r]
      · simp [hl, f7r]
    simp only [List.length_cons, List.length_nil, Nat.add_sub_cancel, Nat.zero_add, nk2] at hP
    simp only [eX] at hP
    have hB3 : isBox [f7r k cs ts w3 X, []] (1, 69638) := ⟨w3, by simp [f7r], by simp [f7r]⟩
    have hwd3 : wordAt [f7r k cs ts w3 X, []] (1, 69638) = w3 := by simp [f7r, wordAt, wbox]
    have hU := fun (c : Nat) => up_ok (keep := kp2) (c := c) (n := 20) kp2_ok hB3 (by omega)
    rw [hwd3] at hU
    have hur := upR_rng w3 20 (by omega)
    generalize upR w3 20 = uw at *
    obtain ⟨mi, w4⟩ := uw
    simp only at hur
    clear eX
    obtain ⟨kr, hkr⟩ : ∃ kr : Kettle, kr = ⟨k.water, ⟨k.room, k.room⟩, k.room, k.gain, k.lose, k.sing, k.boil⟩ := ⟨_, rfl⟩
    have hkor : KOk kr := by
      have := hko.room
      rw [hkr]
      exact ⟨hko.water, by simp only; omega, hko.room, hko.gain, hko.lose, hko.sing⟩
    have hch := made_check hm (by omega)
    simp only at hch
    have hf := fireOk_of hch
    have hll : l.length ≤ 1000 := by omega
    have h0 := fun Q hq => calm_loop kr cs ts w4 mi l hll Q X hX hq
    have hk0 : kr.room = k.room := by rw [hkr]
    rw [hk0] at h0
    obtain ⟨ls, hls⟩ : ∃ ls, ls = l.map (setP k.room) := ⟨_, rfl⟩
    have hpr : psOk kr.water 0 ls := by
      rw [hls, hkr]
      exact psOk_setP hko.room hps
    have hlw : ∀ p ∈ ls, p.warm = kr.room := by
      intro p hp
      rw [hls] at hp
      obtain ⟨p', _, rfl⟩ := List.mem_map.1 hp
      rw [hkr]; rfl
    have hlsl : ls.length = l.length := by rw [hls]; simp
    rw [← hls] at h0
    have ha := asked_ok0 (k := kr) (f := ⟨[], []⟩) (l := ls) (n := mi) hkor (by rw [checkF_def]; simp [firstErr]) (by omega) hpr (by omega)
    have eR : runA kr ⟨[], []⟩ ls mi = (runL kr (fun m => heatL [] (beginsL [] []) m) (mi.toNat + 1) 0 ⟨kr.water, kr.warm.lo, kr.warm.hi⟩ ls, 0) := by rw [runA_def, if_pos ha]
    have eh : (fun m => heatL [] (beginsL [] []) m) = fun _ => (⟨0, 0⟩ : Span) := by
      funext m
      simp [heatL, sumsF]
      done
    rw [eh] at eR
    have hca := runL_calm hkor (mi.toNat + 1) 0 ⟨kr.water, kr.warm.lo, kr.warm.hi⟩ ls (kwok hkor) ⟨0, hpr⟩ hlw (by rw [hkr]) (by rw [hkr])
    have hlx := runL_len kr (fun _ => (⟨0, 0⟩ : Span)) (mi.toNat + 1) 0 ⟨kr.water, kr.warm.lo, kr.warm.hi⟩ ls
    have hR := fun X vf (h1 : ls.map Pour.row ≠ [] → Heap.get [f7r kr cs ts w4 X, []] (1, 98358) = some (.arr 3 (ls.map Pour.row) vf false)) (h2 : vf ≤ ls.length) (c : Nat) => run_calm (c := c) (H := [f7r kr cs ts w4 X, []]) kr ls mi h1 h2 (by simp)
    rw [eR] at hR
    simp only at hR
    generalize runL kr (fun _ => (⟨0, 0⟩ : Span)) (mi.toNat + 1) 0 ⟨kr.water, kr.warm.lo, kr.warm.hi⟩ ls = x at *
    have h1 := fun X Q hq => calm_loop1 kr cs ts w4 X mi x (by omega) (by exact fun s hs => hca s hs) Q x.length 0 (by omega) hq
    have h0' : ∀ Q : GX → GSt → Prop, (∀ X' X2, (∀ c, gcall (KC kp2) (geval (KC kp2)) 44 [.pure (.agg kr.row), .agg [.nils, .nils], apS (1, 98358) 3 (ls.map Pour.row), .pure (.int .i64 mi)] c [f7r kr cs ts w4 X', []] = some (.pure (.tuple [.slice (x.map Span.row), .int .i64 0]), [f7r kr cs ts w4 X2, []])) →
        Q (.exit 0) ⟨[(3, .bptr (1, 69638) 0), (4, .bptr (1, 4) 0), (5, .bptr (1, 5) 0), (6, apS (1, 98358) 3 (ls.map Pour.row)), (7, .pure (.int .i64 mi))], [f7r kr cs ts w4 X', []], 127⟩) → _ :=
      fun Q hq => h0 Q (fun X' vf hv hg ⟨X2, e2⟩ => hq X' X2 (fun c => by have a := hR X' vf hg (by omega) c; rw [e2] at a; exact a))
    have hany := fun X (c : Nat) => any_ok (keep := kp2) (c := c) (lo := 0) (hi := 1000) kp2_ok (H := [f7r kr cs ts w4 X, []]) (nm := (1, 69638)) ⟨w4, by simp [f7r], by simp [f7r]⟩
    have hwd4 : ∀ X, wordAt [f7r kr cs ts w4 X, []] (1, 69638) = w4 := fun X => by simp [f7r, wordAt, wbox]
    simp only [hwd4] at hany
    have har := anyR_rng w4 0 1000 (by omega) (by omega) (by omega)
    generalize anyR w4 0 1000 = aw at *
    obtain ⟨t, w5⟩ := aw
    simp only at har
    obtain ⟨kz, hkz⟩ : ∃ kz : Kettle, kz = ⟨k.water, ⟨t, t⟩, k.room, k.gain, 0, k.sing, k.boil⟩ := ⟨_, rfl⟩
    have hkoz : KOk kz := by
      rw [hkz]
      exact ⟨hko.water, by simp only; omega, hko.room, hko.gain, by simp only; omega, hko.sing⟩
    have haz := asked_ok0 (k := kz) (f := ⟨cs, ts⟩) (l := []) (n := mi) hkoz hch (by simp) trivial (by omega)
    have eZ : runA kz ⟨cs, ts⟩ [] mi = (runL kz (fun m => heatL cs (beginsL cs ts) m) (mi.toNat + 1) 0 ⟨kz.water, kz.warm.lo, kz.warm.hi⟩ [], 0) := by rw [runA_def, if_pos haz]
    have hlo := runL_lose hkoz (by rw [hkz]) (hsok hf) (mi.toNat + 1) 0 ⟨kz.water, kz.warm.lo, kz.warm.hi⟩ (kwok hkoz)
    have hly := runL_len kz (fun m => heatL cs (beginsL cs ts) m) (mi.toNat + 1) 0 ⟨kz.water, kz.warm.lo, kz.warm.hi⟩ []
    have hZ := fun X (c : Nat) => run_nil (c := c) (H := [f7r kz cs ts w5 X, []]) kz ⟨cs, ts⟩ mi (by simp)
    rw [eZ] at hZ
    simp only at hZ
    generalize runL kz (fun m => heatL cs (beginsL cs ts) m) (mi.toNat + 1) 0 ⟨kz.water, kz.warm.lo, kz.warm.hi⟩ [] = y at *
    have h2 := fun F Q hq => calm_loop2 y (by omega) hlo F Q mi.toNat 1 (by omega) (by omega) hq
    have ekr : kr.row = [.int .i64 k.water, .int .i64 k.room, .int .i64 k.room, .int .i64 k.room, .int .i64 k.gain, .int .i64 k.lose, .int .i64 k.sing, .int .i64 k.boil] := by rw [hkr]; rfl
    have ekz : kz.row = [.int .i64 k.water, .int .i64 t, .int .i64 t, .int .i64 k.room, .int .i64 k.gain, .int .i64 0, .int .i64 k.sing, .int .i64 k.boil] := by rw [hkz]; rfl
    have hmi := w64 (x := mi + 1) (by omega) (by omega)
    have hlx' : (x.length : Int) = mi + 1 := by omega
    have hly' : (y.length : Int) = mi + 1 := by omega
    clear h0
    simp [Kettle.row, Fire.row, Span.row] at hF hK
    simp [f7r, Kettle.row] at hP hU
    simp [f7r, ekr] at h0' h1 hany
    simp [f7r, ekz, Fire.row] at hZ h2
    simp [hw, hF, hK, hP, hU, Kettle.row, Fire.row, Span.row, onec_ok kp2_ok]
    refine h0' _ ?_
    intro X' X2 hR'
    simp [hR', hmi, hlx']
    refine h1 _ _ ?_
    simp [hany, Kettle.row, Fire.row, Span.row, onec_ok kp2_ok, hZ, hmi, hly']
    refine h2 _ _ ?_
    simp [A, gleave_free, kp2_ok, kept]
  obtain ⟨⟨r, H'⟩, e1, e2⟩ := key
  simp only at e2
  exact ⟨H', by rw [e1, e2]⟩
end Go.Gh


/-
  Proved here: for every list of numbers HearthCalm returns true and leaves its argument as it was. No condition.
-/
namespace Go.Proofs.Ytldhcphijclmdaa
open Go.Gh Go.RowKit
set_option maxRecDepth 100000

theorem hearthCalm_lifted (os : Os) (started : os.Started) (H : Type) (enc : TypeId × Value → H) :
    ReturnsInHanded {} Try.checked os 7 .any (Rows.hearthCalmSpec.pre6 enc Try.prog Try.f7 Rows.hearthCalmRow.domain false) (Rows.hearthCalmSpec.post enc Try.prog Try.f7 false true false false) := by
  refine law_lifted (C := Try.checked) (ctxOk kp2) rfl 4 own started (by kernel_rfl) laidOut Try.func7 rfl (fun ds hds => ?_) (tb := 4) rfl Try.underlying4 (by kernel_rfl)
    (ChangeSpec.witness6 (enc := enc) (C := Try.checked) false ⟨#[], #[.slice none 0 0], []⟩ 8 (by kernel_rfl) (by kernel_rfl) (by kernel_rfl) (by kernel_rfl)) ?_
  · match ds, hds with
    | [d], _ => rfl
  · intro pvs h
    match pvs, h with
    | [p], h =>
      obtain ⟨l, hl, rfl⟩ := shp_ints h.1
      exact law7 l hl

theorem hearthCalm_holds : Rows.HearthCalmSaid :=
  OpenClaim.holds_of_wide 7 Try.f7 rfl rfl rfl rfl rfl rfl rfl ⟨rfl, rfl, rfl, rfl, rfl⟩ rfl rfl rfl rfl rfl (by kernel_rfl) Try.func7 (by kernel_rfl)
    (of_decide_eq_true (by kernel_rfl)) (by unfold Func.isWrapper; first | (rw [if_pos (by decide +kernel)]; kernel_rfl) | (rw [if_neg (by decide +kernel)]; exact ⟨rfl, rfl⟩))
    (fun os started H enc _ => hearthCalm_lifted os started H enc)
#print axioms hearthCalm_holds
end Go.Proofs.Ytldhcphijclmdaa

/- HearthEnds. -/
import Derived.Test.YtldhcphijclmdaaFc
import Derived.Test.YtldhcphijclmdaaGl
import Derived.Test.YtldhcphijclmdaaRows
namespace Go.Gh
open Go.Proofs
set_option linter.unusedSimpArgs false
set_option linter.unusedVariables false
set_option maxRecDepth 100000
set_option maxHeartbeats 4000000

theorem kp0_ok : ∀ f, kept f = false → kp0 f = false := by
  intro f h
  unfold kept at h
  unfold kp0
  simp at h ⊢
  omega

section
variable {keep : Nat → Bool} (hk : ∀ f, kept f = false → keep f = false) {c : Nat} {H : Heap}
include hk in
theorem truly_hdr (cs : List Coal) (ts : List Touch) {ca bu : List Int} {n1 n2 : Nm} {n : Nat} (h12 : n1 ≠ n2) (hn : cs.length ≤ 1000) (hla : ca.length = cs.length) (hlb : bu.length = cs.length) (hca : ∀ i, i < cs.length → 0 ≤ ca.getD i 0 ∧ ca.getD i 0 ≤ 300)
    (hts : ∀ x ∈ ts, 0 ≤ x.a ∧ x.a < cs.length ∧ 0 ≤ x.b ∧ x.b < cs.length) (htl : ts.length ≤ 1000) (hnn : n = cs.length) {r1 r2 : Bool} (h1 : H.get n1 = some (.arr 1 (ca.map irow) 0 r1)) (h2 : H.get n2 = some (.arr 1 (bu.map irow) 0 r2)) :
    gcall (KC keep) (geval (KC keep)) 38 [.pure (.agg [.slice (cs.map Coal.row), .slice (ts.map Touch.row)]), .agg [.hdr n1 1 n 0 n, .hdr n2 1 n 0 n]] c H =
      some (.pure (.slice ((trulyL ca bu ts cs).map irow)), (H.set n1 (.arr 1 (ca.map irow) 0 true)).set n2 (.arr 1 (bu.map irow) 0 true)) := by
  have hl1 := Heap.get_lt h1
  have hl2 := Heap.get_lt h2
  subst hnn
  have g2 : (H.set n1 (.arr 1 (ca.map irow) 0 true)).get n2 = some (.arr 1 (bu.map irow) 0 r2) := by rw [Heap.get_set_other _ h12.symm]; exact h2
  have t1 : List.take cs.length (ca.map irow) = ca.map irow := List.take_of_length_le (by simp [hla])
  have t2 : List.take cs.length (bu.map irow) = bu.map irow := List.take_of_length_le (by simp [hlb])
  rw [gcall_frz (f := 38) (args' := [.pure (.agg [.slice (cs.map Coal.row), .slice (ts.map Touch.row)]), .pure (.agg [.slice (ca.map irow), .slice (bu.map irow)])]) (H' := (H.set n1 (.arr 1 (ca.map irow) 0 true)).set n2 (.arr 1 (bu.map irow) 0 true)) rfl ?_ rfl]
  · exact truly_ok hk cs ts ca bu hn hla hlb hca hts htl (by simp; omega)
  · simp [frzVals, frzVal, frzCells, frzCell, h1, g2, hla, hlb, t1, t2]
include hk in
theorem truly_nils (hH : 0 < H.length) : gcall (KC keep) (geval (KC keep)) 38 [.pure (.agg [.slice [], .slice []]), .agg [.nils, .nils]] c H = some (.pure (.slice []), H) := by
  have T := truly_ok (c := c) (H := H) hk [] [] [] [] (by simp) rfl rfl (by simp) (by simp) (by simp) hH
  have e : trulyL [] [] [] [] = [] := rfl
  rw [e] at T
  simp only [List.map_nil] at T
  rw [← T]
  unfold gcall
  have hz : (KC keep).frz 38 = true := rfl
  rw [if_pos hz, if_pos hz]
  unfold gcall0
  rfl
end

def e5 (cs : List Coal) (ts : List Touch) (w : Int) (i : Nat) (a b d e : List Int) (r1 r2 : Bool) : Fr :=
  [(3, .box [.pure (.slice (cs.map Coal.row)), .pure (.slice (ts.map Touch.row))]), (4, .box [.hdr (1, 34) 1 i 0 i, .hdr (1, 41) 1 i 0 i]), (5, .box [.hdr (1, 50) 1 i 0 i, .hdr (1, 57) 1 i 0 i]),
   (34, .arr 1 (a.map irow) 0 r1), (41, .arr 1 (b.map irow) 0 r1), (50, .arr 1 (d.map irow) 0 r2), (57, .arr 1 (e.map irow) 0 r2), (61446, wbox w)]

theorem ends_loop0 (cs : List Coal) (ts : List Touch) (w : Int) (hn : cs.length ≤ 1000) (Q : GX → GSt → Prop) : ∀ k i : Nat, i + k = cs.length → 0 < i →
    Q (.exit 0) ⟨[(3, .bptr (1, 3) 0), (4, .bptr (1, 4) 0), (5, .bptr (1, 5) 0)], [e5 cs ts w cs.length (soonC cs) (soonB cs) (lateC cs) (lateB cs) false false, []], 101⟩ →
    WPL (KC kp0) needT 5 (lp Try.f5 0) [3, 4, 5, 6] [3, 4, 5] Q [(3, .bptr (1, 3) 0), (4, .bptr (1, 4) 0), (5, .bptr (1, 5) 0), (6, .pure (.int .i64 i))]
      [e5 cs ts w i (soonC (cs.take i)) (soonB (cs.take i)) (lateC (cs.take i)) (lateB (cs.take i)) false false, []] 101 := by
  intro k
  induction k with
  | zero =>
    intro i hi h0 h1
    apply WPL_step
    conv => arg 4; whnf
    have e : i = cs.length := by omega
    subst e
    simp [e5]
    simpa [e5] using h1
  | succ k ih =>
    intro i hi h0 h1
    have hia : i < cs.length := by omega
    have hw := w64 (x := (i : Int) + 1) (by omega) (by omega)
    have ih' := ih (i + 1) (by omega) (by omega) h1
    have hb : (i + 1) * 8 ≤ 1099511627776 := by omega
    have ht : cs.take (i + 1) = cs.take i ++ [cs[i]] := by rw [List.take_succ_eq_append_getElem hia]
    have hmin : min i cs.length = i := by omega
    rw [ht] at ih'
    apply WPL_step
    conv => arg 4; whnf
    simp [hia, Coal.row, hw, e5, hb, soonC, soonB, lateC, lateB, hmin]
    simp [e5, soonC, soonB, lateC, lateB] at ih'
    have e1 : List.take i (List.map (irow ∘ fun x => x.katch.lo) cs) ++ [[.int .i64 cs[i].katch.lo]] = List.take (i + 1) (List.map (irow ∘ fun x => x.katch.lo) cs) := tk (irow ∘ fun x => x.katch.lo) cs i hia
    have e2 : List.take i (List.map (irow ∘ fun x => x.burn.hi) cs) ++ [[.int .i64 cs[i].burn.hi]] = List.take (i + 1) (List.map (irow ∘ fun x => x.burn.hi) cs) := tk (irow ∘ fun x => x.burn.hi) cs i hia
    have e3 : List.take i (List.map (irow ∘ fun x => x.katch.hi) cs) ++ [[.int .i64 cs[i].katch.hi]] = List.take (i + 1) (List.map (irow ∘ fun x => x.katch.hi) cs) := tk (irow ∘ fun x => x.katch.hi) cs i hia
    have e4 : List.take i (List.map (irow ∘ fun x => x.burn.lo) cs) ++ [[.int .i64 cs[i].burn.lo]] = List.take (i + 1) (List.map (irow ∘ fun x => x.burn.lo) cs) := tk (irow ∘ fun x => x.burn.lo) cs i hia
    rw [e1, e2, e3, e4]
    exact ih'

theorem ends_loop1 (lo hi : List Int) (hlen : lo.length = hi.length) (hn : lo.length ≤ 1000) (F : Fr) (Q : GX → GSt → Prop) : ∀ k i : Nat, i + k = lo.length →
    Q (.exit 2) ⟨[(2, gdead)], [F, []], 101⟩ →
    WPL (KC kp0) needT 5 (lp Try.f5 1) [8, 9, 10, 12] [2] Q [(8, .pure (.slice (lo.map irow))), (9, .pure (.slice (hi.map irow))), (10, .pure (.slice ((List.zipWith mkSpan lo hi).map Span.row))), (12, .pure (.int .i64 i))] [F, []] 101 := by
  intro k
  have hzl : (List.zipWith mkSpan lo hi).length = lo.length := by simp [hlen]
  induction k with
  | zero =>
    intro i hi' h1
    have hnn : ¬ i < lo.length := by omega
    generalize List.zipWith mkSpan lo hi = z at *
    apply WPL_step
    conv => arg 4; whnf
    simp [hzl, hnn]
    exact h1
  | succ k ih =>
    intro i hi' h1
    have hia : i < lo.length := by omega
    have hib : i < hi.length := by omega
    have hiz : i < (List.zipWith mkSpan lo hi).length := by omega
    have hw := w64 (x := (i : Int) + 1) (by omega) (by omega)
    have e2 : (List.zipWith mkSpan lo hi)[i] = ⟨lo[i], hi[i]⟩ := by simp [mkSpan]
    have ih' := ih (i + 1) (by omega) h1
    generalize List.zipWith mkSpan lo hi = z at *
    apply WPL_step
    conv => arg 4; whnf
    simp [hzl, hia, hib, hiz, hw, e2, irow, Span.row, spanc_ok kp0_ok]
    exact ih'

theorem law5 (l : List Int) (hn : l.length ≤ 9223372036854775807) : ∃ H', gcall (KC kp0) (geval (KC kp0)) 5 [.pure (.slice (l.map irow))] 0 [[]] = some (.pure (.bool true), H') := by
  have key : WPv (gcall (KC kp0) (geval (KC kp0)) 5 [.pure (.slice (l.map irow))] 0 [[]]) (fun x => x.1 = .pure (.bool true)) := by
    refine call_enter (KC kp0) needT Try.func5 rfl rfl good5 rfl (by simp) (by simp) ?_
    obtain ⟨w, hw⟩ := BoxOf_ok (keep := kp0) kp0_ok rfl (c := 14) (H := [[], []]) l hn (by simp) (by simp)
    have hB : isBox [[(61446, wbox w)], []] (1, 61446) := ⟨w, by simp, by simp⟩
    have hF := fun (c : Nat) => fireOf_ok (keep := kp0) (c := c) kp0_ok (m := 8) (by omega) hB rfl
    have hwd : wordAt [[(61446, wbox w)], []] (1, 61446) = w := by simp [wordAt, wbox]
    rw [hwd] at hF
    have hm := fireR_made 8 w (by omega)
    have hch := made_check hm (by omega)
    generalize fireR 8 w = fw at *
    obtain ⟨⟨cs, ts⟩, w'⟩ := fw
    have hn8 := hm.n
    have hfo := fireOk_of hch
    have htn := hm.tn
    have hcm := hm.coal
    simp only at hn8 htn hcm hch hfo
    clear hm
    have hc1 : ∀ i, i < cs.length → 1 ≤ (soonC cs).getD i 0 ∧ (soonC cs).getD i 0 ≤ 8 := fun i hi => by
      have := (hcm cs[i] (List.getElem_mem hi)).k
      rw [soonC, getD_map_of hi]; omega
    have hc2 : ∀ i, i < cs.length → 1 ≤ (lateC cs).getD i 0 ∧ (lateC cs).getD i 0 ≤ 8 := fun i hi => by
      have := (hcm cs[i] (List.getElem_mem hi)).k
      rw [lateC, getD_map_of hi]; omega
    have T := fun (c : Nat) (fr : Fr) => Begins_ok (keep := kp0) (c := c) (H := [fr, []]) kp0_ok rfl cs ts (by simp)
    rw [hch] at T
    simp at T
    have hz : beginsL cs ts = List.zipWith mkSpan (trulyL (soonC cs) (soonB cs) ts cs) (trulyL (lateC cs) (lateB cs) ts cs) := by
      rw [beginsL_def, truly_times cs (by omega) hc1 hfo.touch, truly_times cs (by omega) hc2 hfo.touch]
    rw [hz] at T
    have g1 := (truly_g2 (ca := soonC cs) (bu := soonB cs) (ts := ts) cs).len
    have g2 := (truly_g2 (ca := lateC cs) (bu := lateB cs) (ts := ts) cs).len
    have h1 := fun F Q hq => ends_loop1 (trulyL (soonC cs) (soonB cs) ts cs) (trulyL (lateC cs) (lateB cs) ts cs) (by omega) (by omega) F Q cs.length 0 (by omega) hq
    have A := fun (fr : Fr) (c : Nat) => awake_ok fr c
    have U1 := fun (H' : Heap) (c : Nat) h1 h2 => truly_hdr (H := H') (keep := kp0) (c := c) kp0_ok cs ts (ca := soonC cs) (bu := soonB cs) (n1 := (1, 34)) (n2 := (1, 41)) (by simp) (by omega) (by simp [soonC]) (by simp [soonB]) (fun i hi => by have := hc1 i hi; omega) hfo.touch (by omega) rfl (r1 := false) (r2 := false) h1 h2
    have U2 := fun (H' : Heap) (c : Nat) h1 h2 => truly_hdr (H := H') (keep := kp0) (c := c) kp0_ok cs ts (ca := lateC cs) (bu := lateB cs) (n1 := (1, 50)) (n2 := (1, 57)) (by simp) (by omega) (by simp [lateC]) (by simp [lateB]) (fun i hi => by have := hc2 i hi; omega) hfo.touch (by omega) rfl (r1 := false) (r2 := false) h1 h2
    have h0 := fun Q => ends_loop0 cs ts w' (by omega) Q (cs.length - 1) 1
    generalize trulyL (soonC cs) (soonB cs) ts cs = low at *
    generalize trulyL (lateC cs) (lateB cs) ts cs = high at *
    have nk : newKey 14 6 = 61446 := rfl
    simp [nk] at hw
    simp at hF
    simp [hw, hF, Fire.row]
    by_cases hcs : cs = []
    · subst hcs
      have hts0 : ts = [] := List.length_eq_zero_iff.1 (by simpa using htn)
      subst hts0
      have l0 : low = [] := List.length_eq_zero_iff.1 g1
      have l1 : high = [] := List.length_eq_zero_iff.1 g2
      subst l0 l1
      have V := fun (H : Heap) (c : Nat) hH => truly_nils (c := c) (H := H) kp0_ok hH
      apply WPL_step
      conv => arg 4; whnf
      simp at T
      simp [V, T]
      simp at h1
      refine h1 _ _ ?_
      simp [A, gleave_free, kp0_ok, kept]
    · have hcs0 : 0 < cs.length := List.length_pos_iff.2 hcs
      have ht1 : cs.take 1 = [cs[0]] := by rw [List.take_succ_eq_append_getElem hcs0]; simp
      have e5' : soonC (cs.take 1) = [cs[0].katch.lo] := by rw [ht1]; rfl
      have e6 : soonB (cs.take 1) = [cs[0].burn.hi] := by rw [ht1]; rfl
      have e7 : lateC (cs.take 1) = [cs[0].katch.hi] := by rw [ht1]; rfl
      have e8 : lateB (cs.take 1) = [cs[0].burn.lo] := by rw [ht1]; rfl
      have h0' := fun Q hq => h0 Q (by omega) (by omega) hq
      simp [e5, e5', e6, e7, e8, irow] at h0'
      apply WPL_step
      conv => arg 4; whnf
      simp [Coal.row, hcs0, hcs]
      refine h0' _ ?_
      clear h0 h0'
      simp [U1, U2, T, g1, g2]
      simp at h1
      refine h1 _ _ ?_
      simp [A, gleave_free, kp0_ok, kept]
  obtain ⟨⟨r, H'⟩, e1, e2⟩ := key
  simp only at e2
  exact ⟨H', by rw [e1, e2]⟩
end Go.Gh


/-
  Proved here: for every list of numbers HearthEnds returns true and leaves its argument as it was. No condition.
-/
namespace Go.Proofs.Ytldhcphijclmdaa
open Go.Gh Go.RowKit
set_option maxRecDepth 100000

theorem own : ownKnob Try.prog.godebug = none := by kernel_rfl
theorem laidOut : laidOutB Try.prog = true := by kernel_rfl

theorem shp_ints {n : Nat} {p : PV} (h : ArgP Try.prog (n + 2) 33 p) : ∃ l : List Int, l.length ≤ maxLen ∧ p = .slice (l.map irow) := by
  have h33 : Try.prog.underlying 33 = some (.slice 3) := Try.underlying33
  have h3 : Try.prog.underlying 3 = some (.int .i64) := Try.underlying3
  unfold ArgP at h
  rw [h33] at h
  simp only [Shp, h33, h3] at h
  obtain ⟨rows, h1, h2, h4⟩ := h
  have key : ∀ rows : List (List PV), (∀ r ∈ rows, ∃ m, (Lit.int .i64 m).wf = true ∧ r = [.int .i64 m]) → ∃ l : List Int, rows = l.map irow := by
    intro rows
    induction rows with
    | nil => intro _; exact ⟨[], rfl⟩
    | cons r rs ih =>
      intro h
      obtain ⟨m, _, rfl⟩ := h _ (List.mem_cons_self ..)
      obtain ⟨l, rfl⟩ := ih (fun r hr => h r (List.mem_cons_of_mem _ hr))
      exact ⟨m :: l, rfl⟩
  obtain ⟨l, rfl⟩ := key rows (fun r hr => (h2 r hr).2)
  simp only [List.cons.injEq, and_true] at h4
  exact ⟨l, by simpa using h1, h4⟩

theorem ends_lifted (os : Os) (started : os.Started) (H : Type) (enc : TypeId × Value → H) :
    ReturnsInHanded {} Try.checked os 5 .any (Rows.hearthEndsSpec.pre6 enc Try.prog Try.f5 Rows.hearthEndsRow.domain false) (Rows.hearthEndsSpec.post enc Try.prog Try.f5 false true false false) := by
  refine law_lifted (C := Try.checked) (ctxOk kp0) rfl 4 own started (by kernel_rfl) laidOut Try.func5 rfl (fun ds hds => ?_) (tb := 4) rfl Try.underlying4 (by kernel_rfl)
    (ChangeSpec.witness6 (enc := enc) (C := Try.checked) false ⟨#[], #[.slice none 0 0], []⟩ 8 (by kernel_rfl) (by kernel_rfl) (by kernel_rfl) (by kernel_rfl)) ?_
  · match ds, hds with
    | [d], _ => rfl
  · intro pvs h
    match pvs, h with
    | [p], h =>
      obtain ⟨l, hl, rfl⟩ := shp_ints h.1
      exact law5 l hl

theorem ends_holds : Rows.HearthEndsSaid :=
  OpenClaim.holds_of_wide 5 Try.f5 rfl rfl rfl rfl rfl rfl rfl ⟨rfl, rfl, rfl, rfl, rfl⟩ rfl rfl rfl rfl rfl (by kernel_rfl) Try.func5 (by kernel_rfl)
    (of_decide_eq_true (by kernel_rfl)) (by unfold Func.isWrapper; first | (rw [if_pos (by decide +kernel)]; kernel_rfl) | (rw [if_neg (by decide +kernel)]; exact ⟨rfl, rfl⟩))
    (fun os started H enc _ => ends_lifted os started H enc)
#print axioms ends_holds
end Go.Proofs.Ytldhcphijclmdaa

/- HearthFire. -/
import Derived.Test.YtldhcphijclmdaaFd
import Derived.Test.YtldhcphijclmdaaGl
import Derived.Test.YtldhcphijclmdaaFc
import Derived.Test.YtldhcphijclmdaaGm
namespace Go.Gh
open Go.Proofs
set_option linter.unusedSimpArgs false
set_option linter.unusedVariables false
set_option maxRecDepth 100000
set_option maxHeartbeats 4000000

def f4r (cs : List Coal) (ts : List Touch) (ca bu : List Int) (w : Int) : Fr :=
  [(4, .box [.pure (.slice (cs.map Coal.row)), .pure (.slice (ts.map Touch.row))]), (5, .box [.pure (.slice (ca.map irow)), .pure (.slice (bu.map irow))]), (65542, wbox w)]

theorem fire_law_loop0 (cs : List Coal) (ts : List Touch) (ca bu he at_ : List Int) (bs : List Span) (w : Int) (hn : bs.length ≤ 1000) (hl : at_.length = bs.length)
    (hh : ∀ i (h : i < bs.length), bs[i].lo ≤ at_.getD i 0 ∧ at_.getD i 0 ≤ bs[i].hi) (Q : GX → GSt → Prop) : ∀ k i : Nat, i + k = bs.length →
    Q (.exit 0) ⟨[(2, gdead), (4, .bptr (1, 4) 0), (5, .bptr (1, 5) 0), (6, .pure (.slice (he.map irow))), (7, .pure (.slice (at_.map irow)))], [f4r cs ts ca bu w, []], 80⟩ →
    WPL (KC kp0) needT 4 (lp Try.f4 0) [4, 5, 6, 7, 8, 10] [2, 4, 5, 6, 7] Q [(4, .bptr (1, 4) 0), (5, .bptr (1, 5) 0), (6, .pure (.slice (he.map irow))), (7, .pure (.slice (at_.map irow))), (8, .pure (.slice (bs.map Span.row))), (10, .pure (.int .i64 i))] [f4r cs ts ca bu w, []] 80 := by
  intro k
  induction k with
  | zero =>
    intro i hi h1
    have hnn : ¬ i < at_.length := by omega
    apply WPL_step
    conv => arg 4; whnf
    simp [hnn, f4r]
    simpa [f4r] using h1
  | succ k ih =>
    intro i hi h1
    have hia : i < bs.length := by omega
    have hib : i < at_.length := by omega
    have hw := w64 (x := (i : Int) + 1) (by omega) (by omega)
    have h0 := hh i hia
    rw [getD_eq hib] at h0
    have ih' := ih (i + 1) (by omega) h1
    apply WPL_step
    conv => arg 4; whnf
    simp [hia, hib, hw, irow, Span.row, f4r, holds_ok kp0_ok, inB, h0]
    simpa [f4r, irow] using ih'

theorem fire_law_loop1 (cs : List Coal) (ts : List Touch) (ca bu he at_ : List Int) (w : Int) (hch : checkF cs ts = 0) (hn : cs.length ≤ 1000) (l1 : bu.length = cs.length) (l2 : at_.length = cs.length) (l3 : he.length = cs.length)
    (hb : ∀ x ∈ bu, 0 ≤ x ∧ x ≤ 1000) (ha : ∀ x ∈ at_, 0 ≤ x ∧ x ≤ 1000000) (hhe : ∀ x ∈ he, 0 ≤ x ∧ x ≤ 1000)
    (hh : ∀ m : Int, (heatL cs (beginsL cs ts) m).lo ≤ hotF m 0 at_ bu he ∧ hotF m 0 at_ bu he ≤ (heatL cs (beginsL cs ts) m).hi) (Q : GX → GSt → Prop) : ∀ k i : Nat, i + k = 60 →
    Q (.exit 2) ⟨[(2, gdead)], [f4r cs ts ca bu w, []], 80⟩ →
    WPL (KC kp0) needT 4 (lp Try.f4 1) [4, 5, 6, 7, 11] [2] Q [(4, .bptr (1, 4) 0), (5, .bptr (1, 5) 0), (6, .pure (.slice (he.map irow))), (7, .pure (.slice (at_.map irow))), (11, .pure (.int .i64 i))] [f4r cs ts ca bu w, []] 80 := by
  intro k
  induction k with
  | zero =>
    intro i hi h1
    obtain rfl : i = 60 := by omega
    apply WPL_step
    conv => arg 4; whnf
    simp [f4r]
    simpa [f4r] using h1
  | succ k ih =>
    intro i hi h1
    have hia : (i : Int) < 60 := by omega
    have hw := w64 (x := (i : Int) + 1) (by omega) (by omega)
    have h0 := hh i
    have ih' := ih (i + 1) (by omega) h1
    have hA : heatA cs ts i = (heatL cs (beginsL cs ts) i, 0) := by rw [heatA_def, if_pos hch, if_pos (by omega)]
    have T := fun (H : Heap) (c : Nat) hH => Heat_ok (H := H) (c := c) (keep := kp0) kp0_ok rfl cs ts i hH
    have U := fun (H : Heap) (c : Nat) hH => hot_ok (H := H) (c := c) (keep := kp0) kp0_ok ca bu at_ he i hn l1 l2 l3 hb ha hhe hH
    rw [hA] at T
    simp only at T
    generalize hotF i 0 at_ bu he = r at *
    generalize heatL cs (beginsL cs ts) i = z at *
    apply WPL_step
    conv => arg 4; whnf
    simp (config := { maxSteps := 1000000 }) [hia, hw, Span.row, f4r, T, U, holds_ok kp0_ok, inB, h0]
    simpa [f4r] using ih'

theorem law4 (l : List Int) (hn : l.length ≤ 9223372036854775807) : ∃ H', gcall (KC kp0) (geval (KC kp0)) 4 [.pure (.slice (l.map irow))] 0 [[]] = some (.pure (.bool true), H') := by
  have key : WPv (gcall (KC kp0) (geval (KC kp0)) 4 [.pure (.slice (l.map irow))] 0 [[]]) (fun x => x.1 = .pure (.bool true)) := by
    refine call_enter (KC kp0) needT Try.func4 rfl rfl good4 rfl (by simp) (by simp) ?_
    obtain ⟨w, hw⟩ := BoxOf_ok (keep := kp0) kp0_ok rfl (c := 15) (H := [[], []]) l hn (by simp) (by simp)
    have nk : newKey 15 6 = 65542 := rfl
    simp [nk] at hw
    have hB : isBox [[(65542, wbox w)], []] (1, 65542) := ⟨w, by simp, by simp⟩
    have hF := fun (c : Nat) => fireOf_ok (keep := kp0) (c := c) kp0_ok (m := 8) (by omega) hB rfl
    have hwd : wordAt [[(65542, wbox w)], []] (1, 65542) = w := by simp [wordAt, wbox]
    rw [hwd] at hF
    have hm := fireR_made 8 w (by omega)
    have hch := made_check hm (by omega)
    generalize fireR 8 w = fw at *
    obtain ⟨⟨cs, ts⟩, w1⟩ := fw
    have hn8 := hm.n
    have hfo := fireOk_of hch
    have htn := hm.tn
    have hcm := hm.coal
    simp only at hn8 htn hcm hch hfo
    clear hm
    have hB1 : isBox [[(4, .box [.pure (.slice (cs.map Coal.row)), .pure (.slice (ts.map Touch.row))]), (65542, wbox w1)], []] (1, 65542) := ⟨w1, by simp, by simp⟩
    have hwd1 : wordAt [[(4, .box [.pure (.slice (cs.map Coal.row)), .pure (.slice (ts.map Touch.row))]), (65542, wbox w1)], []] (1, 65542) = w1 := by simp [wordAt, wbox]
    have hBu := fun (c : Nat) => burning_ok (keep := kp0) (c := c) kp0_ok cs ts (by omega) hB1
    rw [hwd1] at hBu
    have hd := burningR_drawn w1 hcm
    generalize burningR w1 cs = bw at *
    obtain ⟨ca, bu, w2⟩ := bw
    simp only at hd hBu
    have hB2 : isBox [[(4, .box [.pure (.slice (cs.map Coal.row)), .pure (.slice (ts.map Touch.row))]), (65542, wbox w2)], []] (1, 65542) := ⟨w2, by simp, by simp⟩
    have hwd2 : wordAt [[(4, .box [.pure (.slice (cs.map Coal.row)), .pure (.slice (ts.map Touch.row))]), (65542, wbox w2)], []] (1, 65542) = w2 := by simp [wordAt, wbox]
    have hHe := fun (c : Nat) => heats_ok (keep := kp0) (c := c) kp0_ok cs ts (by omega) hB2
    rw [hwd2] at hHe
    have hhi := heatsR_in cs w2 hcm
    generalize heatsR w2 cs = hw3 at *
    obtain ⟨he, w3⟩ := hw3
    simp only at hhi hHe
    have hca : ∀ i, i < cs.length → 0 ≤ ca.getD i 0 ∧ ca.getD i 0 ≤ 300 := fun i hi => by have := hd.c i hi; have := (hcm cs[i] (List.getElem_mem hi)).k; omega
    have hT := fun (H : Heap) (c : Nat) hH => truly_ok (keep := kp0) (c := c) (H := H) kp0_ok cs ts ca bu (by omega) hd.l1 hd.l2 hca hfo.touch (by have := hfo.m; omega) hH
    have hBe := fun (H : Heap) (c : Nat) hH => Begins_ok (keep := kp0) (c := c) (H := H) kp0_ok rfl cs ts hH
    rw [hch] at hBe
    simp only [if_true] at hBe
    obtain ⟨q1, q2⟩ := fire_holds (by omega) hcm hfo hd
    have hg := truly_g2 (ca := ca) (bu := bu) (ts := ts) cs
    have bok := beginsL_bok hfo
    have hsum : ∀ m : Int, (heatL cs (beginsL cs ts) m).lo ≤ hotF m 0 (trulyL ca bu ts cs) bu he ∧ hotF m 0 (trulyL ca bu ts cs) bu he ≤ (heatL cs (beginsL cs ts) m).hi := fun m =>
      hot_sums m cs (beginsL cs ts) (trulyL ca bu ts cs) bu he 0 ⟨0, 0⟩ q1 hg.len hd.l2 hhi.1 (fun i hi hb => by
        have a1 := q2 i hb
        have a2 := hd.b i hi
        have a3 := hhi.2 i hi
        have a4 := (hcm cs[i] (List.getElem_mem hi)).h
        have a5 := bok.val _ (List.getElem_mem hb)
        omega) (by simp) (by simp)
    have mem_of : ∀ (l : List Int) (lo hi : Int), l.length = cs.length → (∀ i, i < cs.length → lo ≤ l.getD i 0 ∧ l.getD i 0 ≤ hi) → ∀ x ∈ l, lo ≤ x ∧ x ≤ hi := by
      intro l lo hi hl h x hx
      obtain ⟨i, hi', e⟩ := List.getElem_of_mem hx
      have := h i (by omega)
      rw [getD_eq hi', e] at this
      exact this
    have m1 := mem_of bu 0 1000 hd.l2 (fun i hi => by have := hd.b i hi; have := (hcm cs[i] (List.getElem_mem hi)).b; omega)
    have m2 := mem_of _ 0 1000000 hg.len (fun i hi => hg.val i hi)
    have m3 := mem_of he 0 1000 hhi.1 (fun i hi => by have := hhi.2 i hi; have := (hcm cs[i] (List.getElem_mem hi)).h; omega)
    have h0 := fun Q hq => fire_law_loop0 cs ts ca bu he (trulyL ca bu ts cs) (beginsL cs ts) w3 (by omega) (by rw [hg.len, q1]) q2 Q (beginsL cs ts).length 0 (by omega) hq
    have h1 := fun Q hq => fire_law_loop1 cs ts ca bu he (trulyL ca bu ts cs) w3 hch (by omega) hd.l2 hg.len hhi.1 m1 m2 m3 hsum Q 60 0 (by omega) hq
    have hgl := hg.len
    generalize trulyL ca bu ts cs = at_ at *
    generalize beginsL cs ts = bs at *
    have A := fun (fr : Fr) (c : Nat) => awake_ok fr c
    simp [f4r] at h0 h1
    simp at hF hBu hHe
    simp [hw, hF, Fire.row, hBu, hHe, hT, hBe, q1, hgl]
    refine h0 _ ?_
    simp
    refine h1 _ ?_
    simp [A, gleave_free, kp0_ok, kept]
  obtain ⟨⟨r, H'⟩, e1, e2⟩ := key
  simp only at e2
  exact ⟨H', by rw [e1, e2]⟩
end Go.Gh


/-
  Proved here: for every list of numbers HearthFire returns true and leaves its argument as it was. No condition.
-/
namespace Go.Proofs.Ytldhcphijclmdaa
open Go.Gh Go.RowKit
set_option maxRecDepth 100000

theorem hearthFire_lifted (os : Os) (started : os.Started) (H : Type) (enc : TypeId × Value → H) :
    ReturnsInHanded {} Try.checked os 4 .any (Rows.hearthFireSpec.pre6 enc Try.prog Try.f4 Rows.hearthFireRow.domain false) (Rows.hearthFireSpec.post enc Try.prog Try.f4 false true false false) := by
  refine law_lifted (C := Try.checked) (ctxOk kp0) rfl 4 own started (by kernel_rfl) laidOut Try.func4 rfl (fun ds hds => ?_) (tb := 4) rfl Try.underlying4 (by kernel_rfl)
    (ChangeSpec.witness6 (enc := enc) (C := Try.checked) false ⟨#[], #[.slice none 0 0], []⟩ 8 (by kernel_rfl) (by kernel_rfl) (by kernel_rfl) (by kernel_rfl)) ?_
  · match ds, hds with
    | [d], _ => rfl
  · intro pvs h
    match pvs, h with
    | [p], h =>
      obtain ⟨l, hl, rfl⟩ := shp_ints h.1
      exact law4 l hl

theorem hearthFire_holds : Rows.HearthFireSaid :=
  OpenClaim.holds_of_wide 4 Try.f4 rfl rfl rfl rfl rfl rfl rfl ⟨rfl, rfl, rfl, rfl, rfl⟩ rfl rfl rfl rfl rfl (by kernel_rfl) Try.func4 (by kernel_rfl)
    (of_decide_eq_true (by kernel_rfl)) (by unfold Func.isWrapper; first | (rw [if_pos (by decide +kernel)]; kernel_rfl) | (rw [if_neg (by decide +kernel)]; exact ⟨rfl, rfl⟩))
    (fun os started H enc _ => hearthFire_lifted os started H enc)
#print axioms hearthFire_holds
end Go.Proofs.Ytldhcphijclmdaa

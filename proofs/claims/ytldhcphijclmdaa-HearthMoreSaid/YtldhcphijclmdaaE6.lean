/- HearthMore: the second loop, the law. -/
import Derived.Test.YtldhcphijclmdaaFi
import Derived.Test.YtldhcphijclmdaaGm
namespace Go.Gh
open Go.Proofs
set_option linter.unusedSimpArgs false
set_option linter.unusedVariables false
set_option maxRecDepth 100000
set_option maxHeartbeats 4000000

theorem more_loop2 {k : Kettle} {cs : List Coal} {ts : List Touch} {x0 : Coal} {F : Int → Bool → Fr → Fr} {g1 g2 c1 : GV} (M : MF k cs ts x0 F g1 g2 c1) (mi : Int) (n : Nat) (hmi : mi + 1 = n) (hn : n ≤ 1000) (x y z : List Span) (A B : Int → Span) (w : Int) (Y : Fr)
    (l1 : x.length = n) (l2 : y.length = n) (l3 : z.length = n) (hAB : ∀ m, (A m).lo ≤ (B m).lo ∧ (A m).hi ≤ (B m).hi) (hxy : ∀ i (h : i < x.length) (h' : i < y.length), x[i].lo ≤ y[i].lo ∧ x[i].hi ≤ y[i].hi) (hxz : ∀ i (h : i < x.length) (h' : i < z.length), x[i].lo ≤ z[i].lo ∧ x[i].hi ≤ z[i].hi)
    (hA : ∀ fr c (i : Nat), i < n → gcall (KC kp1) (geval (KC kp1)) 25 [.pure (.agg [.slice (cs.map Coal.row), .slice (ts.map Touch.row)]), .pure (.int .i64 i)] c [fr, F w true Y, []] = some (.pure (.tuple [.agg (A i).row, .int .i64 0]), [fr, F w true Y, []]))
    (hB : ∀ fr c (i : Nat), i < n → gcall (KC kp1) (geval (KC kp1)) 25 [.agg [g1, g2], .pure (.int .i64 i)] c [fr, F w true Y, []] = some (.pure (.tuple [.agg (B i).row, .int .i64 0]), [fr, F w true Y, []]))
    (hg : ∃ nm m, g1 = .hdr nm 7 m 0 m)
    (Q : GX → GSt → Prop) : ∀ j i : Nat, i + j = n →
    Q (.exit 2) ⟨[(2, gdead)], [F w true Y, []], 213⟩ →
    WPL (KC kp1) needT 6 (lp Try.f6 1) [4, 7, 8, 11, 13, 15, 17] [2] Q [(4, .bptr (1, 4) 0), (7, .pure (.int .i64 mi)), (8, .bptr (1, 8) 0), (11, .pure (.slice (x.map Span.row))), (13, .pure (.slice (y.map Span.row))), (15, .pure (.slice (z.map Span.row))), (17, .pure (.int .i64 i))]
      [F w true Y, []] 213 := by
  obtain ⟨nm, m, rfl⟩ := hg
  intro j
  induction j with
  | zero =>
    intro i hi h1
    have : ¬ (i : Int) ≤ mi := by omega
    apply WPL_step
    conv => arg 4; whnf
    simp [this]
    exact h1
  | succ j ih =>
    intro i hi h1
    have i0 : (i : Int) ≤ mi := by omega
    have i1 : i < x.length := by omega
    have i2 : i < y.length := by omega
    have i3 : i < z.length := by omega
    have hw := w64 (x := (i : Int) + 1) (by omega) (by omega)
    have ih' := ih (i + 1) (by omega) h1
    have a := hAB i
    have b1 : ¬ (B i).lo < (A i).lo := by omega
    have b2 : ¬ (B i).hi < (A i).hi := by omega
    have c := hxy i i1 i2
    have d1 : ¬ y[i].lo < x[i].lo := by omega
    have d2 : ¬ y[i].hi < x[i].hi := by omega
    have e := hxz i i1 i3
    have f1 : ¬ z[i].lo < x[i].lo := by omega
    have f2 : ¬ z[i].hi < x[i].hi := by omega
    have hA' := fun fr c => hA fr c i (by omega)
    have hB' := fun fr c => hB fr c i (by omega)
    simp [Span.row] at hA' hB'
    apply WPL_step
    conv => arg 4; whnf
    simp (config := { maxSteps := 150000 }) [i0, i1, i2, i3, hw, Span.row, M.g4, M.g8, hA', hB', b1, b2, d1, d2, f1, f2]
    simp [Span.row] at ih'
    exact ih'

def f6g (k : Kettle) (cs : List Coal) (ts : List Touch) (a1 a2 : GV) (T : Fr) (w : Int) : Fr := (4, .box [.pure (.slice (cs.map Coal.row)), .pure (.slice (ts.map Touch.row))]) :: (5, .box (k.row.map .pure)) :: (8, .box [a1, a2]) :: (98310, wbox w) :: T
def FA (k : Kettle) (x : Coal) (w : Int) (r : Bool) (Y : Fr) : Fr := (4, .box [.pure (.slice []), .pure (.slice [])]) :: (5, .box (k.row.map .pure)) :: (8, .box [.hdr (1, 47) 7 1 0 1, .nils]) :: (47, .arr 7 [x.row] 0 r) :: (98310, wbox w) :: Y
def FB (k : Kettle) (cs : List Coal) (x : Coal) (w : Int) (r : Bool) (Y : Fr) : Fr := (4, .box [.pure (.slice (cs.map Coal.row)), .pure (.slice [])]) :: (5, .box (k.row.map .pure)) :: (8, .box [.hdr (1, 143366) 7 (cs.length + 1) 0 (cs.length + 1), .nils]) :: (98310, wbox w) :: (143366, .arr 7 (cs.map Coal.row ++ [x.row]) 0 r) :: Y
def FC (k : Kettle) (cs : List Coal) (ts : List Touch) (x : Coal) (w : Int) (r : Bool) (Y : Fr) : Fr := (4, .box [.pure (.slice (cs.map Coal.row)), .pure (.slice (ts.map Touch.row))]) :: (5, .box (k.row.map .pure)) :: (8, .box [.hdr (1, 143366) 7 (cs.length + 1) 0 (cs.length + 1), .hdr (1, 143370) 2 ts.length 0 ts.length]) :: (98310, wbox w) :: (143366, .arr 7 (cs.map Coal.row ++ [x.row]) 0 r) :: (143370, .arr 2 (ts.map Touch.row) 0 r) :: Y
theorem MA (k : Kettle) (x : Coal) : MF k [] [] x (FA k x) (.hdr (1, 47) 7 1 0 1) .nils (mkAgg [frzS [x.row], frzS []]) where
  g4 := fun w r Y => by simp [FA]
  g5 := fun w r Y => by simp [FA]
  g8 := fun w r Y => by simp [FA]
  gw := fun w r Y => by simp [FA]
  sw := fun w r Y w' => by simp [FA]
  gp := fun w r b => by simp [FA]
  sp := fun w r b b' => by simp [FA]
  gn := fun w r => by simp [FA]
  ap := fun w r b => by simp [FA]
  fz := fun w r Y => by
    have a := frzVal_fire (H := [FA k x w r Y, []]) (n1 := (1, 47)) (n2 := (1, 0)) (v1 := 0) (v2 := 0) (o1 := r) (o2 := r) (r1 := [x.row]) (r2 := []) (fun _ => by simp [FA]) (fun h => absurd rfl h) (by simp) (by simp)
    simpa [apS, frzH, FA] using a
  fz2 := fun fr w Y => by
    have a := frzVal_fire (H := [fr, FA k x w true Y, []]) (n1 := (1, 47)) (n2 := (1, 0)) (v1 := 0) (v2 := 0) (o1 := true) (o2 := true) (r1 := [x.row]) (r2 := []) (fun _ => by simp [FA]) (fun h => absurd rfl h) (by simp) (by simp)
    simpa [apS, frzH, FA] using a
  cn := canon_fire _ _
theorem MB (k : Kettle) (cs : List Coal) (x : Coal) : MF k cs [] x (FB k cs x) (.hdr (1, 143366) 7 (cs.length + 1) 0 (cs.length + 1)) .nils (mkAgg [frzS (cs.map Coal.row ++ [x.row]), frzS []]) where
  g4 := fun w r Y => by simp [FB]
  g5 := fun w r Y => by simp [FB]
  g8 := fun w r Y => by simp [FB]
  gw := fun w r Y => by simp [FB]
  sw := fun w r Y w' => by simp [FB]
  gp := fun w r b => by simp [FB]
  sp := fun w r b b' => by simp [FB]
  gn := fun w r => by simp [FB]
  ap := fun w r b => by simp [FB]
  fz := fun w r Y => by
    have a := frzVal_fire (H := [FB k cs x w r Y, []]) (n1 := (1, 143366)) (n2 := (1, 0)) (v1 := 0) (v2 := 0) (o1 := r) (o2 := r) (r1 := cs.map Coal.row ++ [x.row]) (r2 := []) (fun _ => by simp [FB]) (fun h => absurd rfl h) (by simp) (by simp)
    simpa [apS, frzH, FB] using a
  fz2 := fun fr w Y => by
    have a := frzVal_fire (H := [fr, FB k cs x w true Y, []]) (n1 := (1, 143366)) (n2 := (1, 0)) (v1 := 0) (v2 := 0) (o1 := true) (o2 := true) (r1 := cs.map Coal.row ++ [x.row]) (r2 := []) (fun _ => by simp [FB]) (fun h => absurd rfl h) (by simp) (by simp)
    simpa [apS, frzH, FB] using a
  cn := by rw [canon_fire]; simp [Fire.row]
theorem MC (k : Kettle) (cs : List Coal) (ts : List Touch) (x : Coal) (ht : ts ≠ []) : MF k cs ts x (FC k cs ts x) (.hdr (1, 143366) 7 (cs.length + 1) 0 (cs.length + 1)) (.hdr (1, 143370) 2 ts.length 0 ts.length) (mkAgg [frzS (cs.map Coal.row ++ [x.row]), frzS (ts.map Touch.row)]) where
  g4 := fun w r Y => by simp [FC]
  g5 := fun w r Y => by simp [FC]
  g8 := fun w r Y => by simp [FC]
  gw := fun w r Y => by simp [FC]
  sw := fun w r Y w' => by simp [FC]
  gp := fun w r b => by simp [FC]
  sp := fun w r b b' => by simp [FC]
  gn := fun w r => by simp [FC]
  ap := fun w r b => by simp [FC]
  fz := fun w r Y => by
    have a := frzVal_fire (H := [FC k cs ts x w r Y, []]) (n1 := (1, 143366)) (n2 := (1, 143370)) (v1 := 0) (v2 := 0) (o1 := r) (o2 := r) (r1 := cs.map Coal.row ++ [x.row]) (r2 := ts.map Touch.row) (fun _ => by simp [FC]) (fun h => by simp [FC, frzH]) (by simp) (by simp)
    simpa [apS, frzH, FC, ht] using a
  fz2 := fun fr w Y => by
    have a := frzVal_fire (H := [fr, FC k cs ts x w true Y, []]) (n1 := (1, 143366)) (n2 := (1, 143370)) (v1 := 0) (v2 := 0) (o1 := true) (o2 := true) (r1 := cs.map Coal.row ++ [x.row]) (r2 := ts.map Touch.row) (fun _ => by simp [FC]) (fun h => by simp [FC, frzH]) (by simp) (by simp)
    simpa [apS, frzH, FC, ht] using a
  cn := by rw [canon_fire]; simp [Fire.row]

theorem law6 (nums : List Int) (hn : nums.length ≤ 9223372036854775807) : ∃ H', gcall (KC kp1) (geval (KC kp1)) 6 [.pure (.slice (nums.map irow))] 0 [[]] = some (.pure (.bool true), H') := by
  have key : WPv (gcall (KC kp1) (geval (KC kp1)) 6 [.pure (.slice (nums.map irow))] 0 [[]]) (fun x => x.1 = .pure (.bool true)) := by
    refine call_enter (KC kp1) needT Try.func6 rfl rfl good6 rfl (by simp) (by simp) ?_
    have A := fun (fr : Fr) (c : Nat) => awake1_ok fr c
    have nk : newKey 23 6 = 98310 := rfl
    have nk2 : newKey 34 6 = 143366 := rfl
    have nk3 : newKey 34 10 = 143370 := rfl
    have nk4 : newKey 50 5 = 208901 := rfl
    obtain ⟨w, hw⟩ := BoxOf_ok (keep := kp1) kp1_ok rfl (c := 23) (H := [[], []]) nums hn (by simp) (by simp)
    simp [nk] at hw
    have hB : isBox [[(98310, wbox w)], []] (1, 98310) := ⟨w, by simp, by simp⟩
    have hwd : wordAt [[(98310, wbox w)], []] (1, 98310) = w := by simp [wordAt, wbox]
    have hF := fun (c : Nat) => fireOf_ok (keep := kp1) (c := c) kp1_ok (m := 6) (by omega) hB rfl
    rw [hwd] at hF
    have hm := fireR_made 6 w (by omega)
    generalize fireR 6 w = fw at *
    obtain ⟨⟨cs, ts⟩, w1⟩ := fw
    simp only at hm
    have hB1 : isBox [[(98310, wbox w1)], []] (1, 98310) := ⟨w1, by simp, by simp⟩
    have hwd1 : wordAt [[(98310, wbox w1)], []] (1, 98310) = w1 := by simp [wordAt, wbox]
    have hK := fun (c : Nat) => kettleOf_ok (keep := kp1) (c := c) kp1_ok hB1
    rw [hwd1] at hK
    have hko := kettleR_kok w1
    generalize kettleR w1 = kw at *
    obtain ⟨k, w2⟩ := kw
    simp only at hko
    obtain ⟨G0, hG0⟩ : ∃ G0 : Int → Fr, G0 = fun w => (4, .box [.pure (.slice (cs.map Coal.row)), .pure (.slice (ts.map Touch.row))]) :: (5, .box (k.row.map .pure)) :: (98310, wbox w) :: [] := ⟨_, rfl⟩
    have hB2 : ∀ w, isBox [G0 w, []] (1, 98310) := fun w => ⟨w, by simp [hG0], by simp [hG0]⟩
    have hwd2 : ∀ w, wordAt [G0 w, []] (1, 98310) = w := fun w => by simp [hG0, wordAt, wbox]
    have hP := fun (c : Nat) => poursOf_ok (keep := kp1) (c := c) (most := 4) (mins := 20) kp1_ok rfl (by omega) (by omega) hko.water (hB2 w2)
    rw [hwd2] at hP
    obtain ⟨hps, hpl⟩ := poursOfR_ok k hko 4 20 w2 (by omega) (by omega)
    generalize poursOfR k 4 20 w2 = pw at *
    obtain ⟨l, w3⟩ := pw
    simp only at hps hpl
    have hU := fun (c : Nat) => up_ok (keep := kp1) (c := c) (n := 25) kp1_ok (hB2 w3) (by omega)
    rw [hwd2] at hU
    have hur := upR_rng w3 25 (by omega)
    generalize upR w3 25 = uw at *
    obtain ⟨mi, w4⟩ := uw
    simp only at hur
    have hn6 := hm.n
    have htn := hm.tn
    simp only at hn6 htn
    have hO := ownFire_ok (keep := kp1) (c := 34) (H := [G0 w4, []]) (cs := cs) (ts := ts) rfl (by omega) (by omega) (by simp) (by simp [nk2, hG0]) (by simp [nk3, hG0])
    simp only [List.length_cons, List.length_nil, Nat.add_sub_cancel, Nat.zero_add, nk2, nk3] at hO
    have hBg : ∀ a1 a2 T w, isBox [f6g k cs ts a1 a2 T w, []] (1, 98310) := fun a1 a2 T w => ⟨w, by simp [f6g], by simp [f6g]⟩
    have hwg : ∀ a1 a2 T w, wordAt [f6g k cs ts a1 a2 T w, []] (1, 98310) = w := fun a1 a2 T w => by simp [f6g, wordAt, wbox]
    have hS1 := fun a1 a2 T (c : Nat) => span_ok (keep := kp1) (c := c) (lo := 1) (hi := 8) kp1_ok (hBg a1 a2 T w4)
    simp only [hwg] at hS1
    have r1 := spanR_rng w4 1 8 (by omega) (by omega) (by omega)
    generalize spanR w4 1 8 = s1 at *
    obtain ⟨s1, w5⟩ := s1
    have hS2 := fun a1 a2 T (c : Nat) => span_ok (keep := kp1) (c := c) (lo := 1) (hi := 12) kp1_ok (hBg a1 a2 T w5)
    simp only [hwg] at hS2
    have r2 := spanR_rng w5 1 12 (by omega) (by omega) (by omega)
    generalize spanR w5 1 12 = s2 at *
    obtain ⟨s2, w6⟩ := s2
    have hS3 := fun a1 a2 T (c : Nat) => span_ok (keep := kp1) (c := c) (lo := 0) (hi := 40) kp1_ok (hBg a1 a2 T w6)
    simp only [hwg] at hS3
    have r3 := spanR_rng w6 0 40 (by omega) (by omega) (by omega)
    generalize spanR w6 0 40 = s3 at *
    obtain ⟨s3, w7⟩ := s3
    have hS4 := fun a1 a2 T (c : Nat) => one_ok (keep := kp1) (c := c) (n := 2) kp1_ok (hBg a1 a2 T w7) (by omega)
    simp only [hwg] at hS4
    generalize oneR w7 2 = s4 at *
    obtain ⟨b4, w8⟩ := s4
    simp only at r1 r2 r3
    obtain ⟨x, hx⟩ : ∃ x : Coal, x = ⟨s1, s2, s3, b4⟩ := ⟨_, rfl⟩
    have hxm : CMade x := by rw [hx]; exact ⟨by simp only; omega, by simp only; omega, by simp only; omega⟩
    have hm' := FMade.app hm hxm
    have hch := made_check hm (by omega)
    have hch' := made_check hm' (by omega)
    simp only at hch hch'
    have hf := fireOk_of hch
    have hf' := fireOk_of hch'
    have hww : ∀ p ∈ l, p.warm ≤ 1000 ∧ 0 ≤ p.warm := by
      have : ∀ {l : List Pour} {w m : Int}, psOk w m l → ∀ p ∈ l, p.warm ≤ 1000 ∧ 0 ≤ p.warm := by
        intro l
        induction l with
        | nil => intro w m _ p hp; simp at hp
        | cons a l ih =>
          intro w m h p hp
          rcases List.mem_cons.1 hp with rfl | hp
          · have := h.1.w; omega
          · exact ih h.2.2.2.2 p hp
      exact this hps
    have ha1 := asked_ok0 (k := k) (f := ⟨cs, ts⟩) (l := l) (n := mi) hko hch (by omega) hps (by omega)
    have ha2 := asked_ok0 (k := k) (f := ⟨cs ++ [x], ts⟩) (l := l) (n := mi) hko hch' (by omega) hps (by omega)
    have ha3 := fun l' (h1 : PsLe l l') (h2 : ∀ p ∈ l', p.warm ≤ 1000) => asked_ok0 (k := k) (f := ⟨cs, ts⟩) (l := l') (n := mi) hko hch (by have := h1.len; omega) (psOk.le h1 h2 hps) (by omega)
    have kle : KLe k k := ⟨rfl, rfl, rfl⟩
    have e1 : runA k ⟨cs, ts⟩ l mi = (runL k (fun m => heatL cs (beginsL cs ts) m) (mi.toNat + 1) 0 ⟨k.water, k.warm.lo, k.warm.hi⟩ l, 0) := by rw [runA_def, if_pos ha1]
    have e2 : runA k ⟨cs ++ [x], ts⟩ l mi = (runL k (fun m => heatL (cs ++ [x]) (beginsL (cs ++ [x]) ts) m) (mi.toNat + 1) 0 ⟨k.water, k.warm.lo, k.warm.hi⟩ l, 0) := by rw [runA_def, if_pos ha2]
    have e3 : ∀ l' (h1 : PsLe l l') (h2 : ∀ p ∈ l', p.warm ≤ 1000), runA k ⟨cs, ts⟩ l' mi = (runL k (fun m => heatL cs (beginsL cs ts) m) (mi.toNat + 1) 0 ⟨k.water, k.warm.lo, k.warm.hi⟩ l', 0) := fun l' h1 h2 => by rw [runA_def, if_pos (ha3 l' h1 h2)]
    have hAB := heat_app hf hxm
    have hl1 := runL_len k (fun m => heatL cs (beginsL cs ts) m) (mi.toNat + 1) 0 ⟨k.water, k.warm.lo, k.warm.hi⟩ l
    have hl2 := runL_len k (fun m => heatL (cs ++ [x]) (beginsL (cs ++ [x]) ts) m) (mi.toNat + 1) 0 ⟨k.water, k.warm.lo, k.warm.hi⟩ l
    have hl3 := fun l' => runL_len k (fun m => heatL cs (beginsL cs ts) m) (mi.toNat + 1) 0 ⟨k.water, k.warm.lo, k.warm.hi⟩ l'
    have wle : ∀ b, Wle b ⟨k.water, k.warm.lo, k.warm.hi⟩ ⟨k.water, k.warm.lo, k.warm.hi⟩ := fun b => ⟨rfl, by unfold Sle; split <;> exact Int.le_refl _⟩
    have g1 := fun b => (runL_le b hko kle (hsok hf) (hs' := fun m => heatL (cs ++ [x]) (beginsL (cs ++ [x]) ts) m) (fun m => by have := hAB m; unfold Sle; split; exact this.1; exact this.2) (mi.toNat + 1) 0 _ _ l l (kwok hko) ⟨0, hps⟩ (wle b) (PsLe.refl l)).get.2
    have g2 := fun l' (h1 : PsLe l l') b => (runL_le b hko kle (hsok hf) (hs' := fun m => heatL cs (beginsL cs ts) m) (fun m => by unfold Sle; split <;> exact Int.le_refl _) (mi.toNat + 1) 0 _ _ l l' (kwok hko) ⟨0, hps⟩ (wle b) h1).get.2
    obtain ⟨RX, hRX⟩ : ∃ RX, RX = runL k (fun m => heatL cs (beginsL cs ts) m) (mi.toNat + 1) 0 ⟨k.water, k.warm.lo, k.warm.hi⟩ l := ⟨_, rfl⟩
    obtain ⟨RY, hRY⟩ : ∃ RY, RY = runL k (fun m => heatL (cs ++ [x]) (beginsL (cs ++ [x]) ts) m) (mi.toNat + 1) 0 ⟨k.water, k.warm.lo, k.warm.hi⟩ l := ⟨_, rfl⟩
    obtain ⟨RZ, hRZ⟩ : ∃ RZ : List Pour → List Span, RZ = fun l' => runL k (fun m => heatL cs (beginsL cs ts) m) (mi.toNat + 1) 0 ⟨k.water, k.warm.lo, k.warm.hi⟩ l' := ⟨_, rfl⟩
    have e3' : ∀ l' (h1 : PsLe l l') (h2 : ∀ p ∈ l', p.warm ≤ 1000), runA k ⟨cs, ts⟩ l' mi = (RZ l', 0) := fun l' h1 h2 => by rw [e3 l' h1 h2, hRZ]
    have hl3' : ∀ l', (RZ l').length = mi.toNat + 1 := fun l' => by rw [hRZ]; exact hl3 l'
    have hxy : ∀ i (h : i < RX.length) (h' : i < RY.length), RX[i].lo ≤ RY[i].lo ∧ RX[i].hi ≤ RY[i].hi := by
      subst hRX; subst hRY
      intro i h h'
      have a := g1 true i h h'
      have b := g1 false i h h'
      simp only [Sle, if_true, Bool.false_eq_true, if_false] at a b
      exact ⟨a, b⟩
    have hxz : ∀ l', PsLe l l' → ∀ i (h : i < RX.length) (h' : i < (RZ l').length), RX[i].lo ≤ (RZ l')[i].lo ∧ RX[i].hi ≤ (RZ l')[i].hi := by
      subst hRX; subst hRZ
      intro l' h1 i h h'
      have a := g2 l' h1 true i h h'
      have b := g2 l' h1 false i h h'
      simp only [Sle, if_true, Bool.false_eq_true, if_false] at a b
      exact ⟨a, b⟩
    rw [← hRX] at e1 hl1
    rw [← hRY] at e2 hl2
    clear g1 g2 hl3 e3 hRX hRY hRZ ha1 ha2 ha3 wle
    -- what holds of any frame
    obtain ⟨n, hn1⟩ : ∃ n : Nat, n = mi.toNat + 1 := ⟨_, rfl⟩
    have hn2 : mi + 1 = n := by omega
    rw [← hn1] at hl1 hl2 hl3'
    have hpl' : l.length ≤ 1000 := by omega
    obtain ⟨Yp, hYp⟩ : ∃ Yp : Fr, Yp = if l = [] then [] else [(208901, .arr 3 (l.map Pour.row) 0 false)] := ⟨_, rfl⟩
    have hOP : ∀ {F : Int → Bool → Fr → Fr} {g1 g2 c1 : GV} (M : MF k cs ts x F g1 g2 c1), gcall (KC kp1) (geval (KC kp1)) 22 [.pure (.slice (l.map Pour.row))] 50 [F w8 false [], []] = some (apS (1, 208901) 3 (l.map Pour.row), [F w8 false Yp, []]) := by
      intro F g1 g2 c1 M
      have a := ownPours_ok (keep := kp1) (c := 50) (H := [F w8 false [], []]) (l := l) rfl hpl' (by simp) (by simp [nk4, M.gn])
      simp only [List.length_cons, List.length_nil, Nat.add_sub_cancel, Nat.zero_add, nk4] at a
      rw [a, hYp]
      by_cases hl : l = []
      · simp [hl]
      · simp [hl, M.ap]
    have hR1 := fun H c hH => Run_ok (keep := kp1) (H := H) (c := c) kp1_ok rfl rfl k ⟨cs, ts⟩ l mi hH
    have hR2 : ∀ {F : Int → Bool → Fr → Fr} {g1 g2 c1 : GV} (M : MF k cs ts x F g1 g2 c1), _ := fun {F g1 g2 c1} M w r Y (c : Nat) => run_fire (keep := kp1) (c := c) kp1_ok rfl rfl k ⟨cs ++ [x], ts⟩ l mi (M.fz w r Y) M.cn (by simp)
    have hR3 := fun (l' : List Pour) h1 h2 {g c2 : GV} {H' H : Heap} (hz : frzVal H g = (c2, H')) (hc : canon c2 = canon (.pure (.slice (l'.map Pour.row)))) (hH : 0 < H'.length) (c : Nat) => by
      have a := run_pours (keep := kp1) (c := c) kp1_ok rfl rfl k ⟨cs, ts⟩ l' mi hz hc hH
      rw [e3' l' h1 h2] at a
      exact a
    rw [e1] at hR1
    simp only [e2] at hR2
    have hAh : ∀ (H : Heap) c (i : Nat), i < n → 0 < H.length → gcall (KC kp1) (geval (KC kp1)) 25 [.pure (.agg [.slice (cs.map Coal.row), .slice (ts.map Touch.row)]), .pure (.int .i64 i)] c H = some (.pure (.tuple [.agg (heatL cs (beginsL cs ts) i).row, .int .i64 0]), H) := by
      intro H c i hi hH
      have a := Heat_ok (keep := kp1) (H := H) (c := c) kp1_ok rfl cs ts i hH
      rw [heatA_def, if_pos hch, if_pos (by omega)] at a
      exact a
    have hBh : ∀ {F : Int → Bool → Fr → Fr} {g1 g2 c1 : GV} (M : MF k cs ts x F g1 g2 c1) (fr : Fr) (w : Int) (Y : Fr) c (i : Nat), i < n → gcall (KC kp1) (geval (KC kp1)) 25 [.agg [g1, g2], .pure (.int .i64 i)] c [fr, F w true Y, []] = some (.pure (.tuple [.agg (heatL (cs ++ [x]) (beginsL (cs ++ [x]) ts) i).row, .int .i64 0]), [fr, F w true Y, []]) := by
      intro F g1 g2 c1 M fr w Y c i hi
      have a := heat_fire (keep := kp1) (c := c) kp1_ok rfl ⟨cs ++ [x], ts⟩ i (M.fz2 fr w Y) M.cn (by simp)
      simp only [heatA_def] at a
      rw [if_pos hch', if_pos (by omega)] at a
      exact a
    have hl2x : ∀ (M' : RY.length = RX.length) , True := fun _ => trivial
    have L2 := fun {F : Int → Bool → Fr → Fr} {g1 g2 c1 : GV} (M : MF k cs ts x F g1 g2 c1) (l' : List Pour) (h1 : PsLe l l') w Y hg Q => more_loop2 M mi n hn2 (by omega) RX RY (RZ l') (fun m => heatL cs (beginsL cs ts) m) (fun m => heatL (cs ++ [x]) (beginsL (cs ++ [x]) ts) m) w Y hl1 hl2 (hl3' l') hAB hxy (hxz l' h1)
      (fun fr c i hi => hAh _ c i hi (by simp)) (fun fr c i hi => hBh M fr w Y c i hi) hg Q n 0 (by omega)
    have hmi := w64 (x := mi + 1) (by omega) (by omega)
    have hx' : (RX.length : Int) = mi + 1 := by omega
    have hy' : (RY.length : Int) = RX.length := by omega
    have hz' : ∀ l', ((RZ l').length : Int) = RX.length := fun l' => by rw [hl3', hl1]
    have hbb : (cs.length + 1) * 56 ≤ 1099511627776 := by omega
    simp [Kettle.row, Fire.row, Span.row] at hF hK
    simp [hG0, Kettle.row] at hP hU
    simp [f6g, Kettle.row, Span.row] at hS1 hS2 hS3 hS4
    by_cases ht : ts = []
    · subst ht
      by_cases hc : cs = []
      · subst hc
        have M := MA k x
        have hOP' := hOP M
        have hR2' := fun w r Y => hR2 M w r Y
        simp [hG0, Kettle.row, apS_nil] at hO
        simp [FA, hx, Kettle.row, Coal.row] at hOP'
        simp at hF hP hU hS1 hS2 hS3 hS4
        simp [hw, hF, hK, hP, hU, hO, hS1, hS2, hS3, hS4, Kettle.row, Fire.row, Span.row, hOP']
        refine more_loop M mi l hpl' hww _ w8 _ (by simp [FA, hx, Kettle.row, Coal.row, hYp]) ?_
        intro l' w' Y Y2 g c2 h1 h2 h3 h4
        have R3 := hR3 l' h1 h2 h3 h4 (by simp)
        simp [Kettle.row, Fire.row] at R3 hR2' hR1
        simp [M.g4, M.g5, M.g8, Kettle.row, Fire.row, hR1, hR2', R3, hmi, hx', hy', hz' l']
        refine L2 M l' h1 w' Y2 ⟨_, _, rfl⟩ _ ?_
        simp [A, gleave_free, kp1_ok, kept]
      · have hc' : cs.map Coal.row ≠ [] := by simpa using hc
        have M := MB k cs x
        have hOP' := hOP M
        have hR2' := fun w r Y => hR2 M w r Y
        simp [hG0, Kettle.row, apS, hc] at hO
        simp [FB, hx, Kettle.row, Coal.row] at hOP'
        simp at hF hP hU hS1 hS2 hS3 hS4
        simp [hbb, hw, hF, hK, hP, hU, hO, hS1, hS2, hS3, hS4, Kettle.row, Fire.row, Span.row, hOP']
        refine more_loop M mi l hpl' hww _ w8 _ (by simp [FB, hx, Kettle.row, Coal.row, hYp]) ?_
        intro l' w' Y Y2 g c2 h1 h2 h3 h4
        have R3 := hR3 l' h1 h2 h3 h4 (by simp)
        simp [Kettle.row, Fire.row] at R3 hR2' hR1
        simp [M.g4, M.g5, M.g8, Kettle.row, Fire.row, hR1, hR2', R3, hmi, hx', hy', hz' l']
        refine L2 M l' h1 w' Y2 ⟨_, _, rfl⟩ _ ?_
        simp [A, gleave_free, kp1_ok, kept]
    · have hc : cs ≠ [] := by
        intro e
        rw [e] at htn
        have : ts.length = 0 := by simpa using htn
        exact ht (List.length_eq_zero_iff.1 this)
      have M := MC k cs ts x ht
      have hOP' := hOP M
      have hR2' := fun w r Y => hR2 M w r Y
      simp [hG0, Kettle.row, apS, hc, ht] at hO
      simp [FC, hx, Kettle.row, Coal.row] at hOP'
      simp [hbb, hw, hF, hK, hP, hU, hO, hS1, hS2, hS3, hS4, Kettle.row, Fire.row, Span.row, hOP']
      refine more_loop M mi l hpl' hww _ w8 _ (by simp [FC, hx, Kettle.row, Coal.row, hYp]) ?_
      intro l' w' Y Y2 g c2 h1 h2 h3 h4
      have R3 := hR3 l' h1 h2 h3 h4 (by simp)
      simp [Kettle.row, Fire.row] at R3 hR2' hR1
      simp [M.g4, M.g5, M.g8, Kettle.row, Fire.row, hR1, hR2', R3, hmi, hx', hy', hz' l']
      refine L2 M l' h1 w' Y2 ⟨_, _, rfl⟩ _ ?_
      simp [A, gleave_free, kp1_ok, kept]
  obtain ⟨⟨r, H'⟩, e1, e2⟩ := key
  simp only at e2
  exact ⟨H', by rw [e1, e2]⟩
end Go.Gh


/-
  Proved here: for every list of numbers HearthMore returns true and leaves its argument as it was. No condition.
-/
namespace Go.Proofs.Ytldhcphijclmdaa
open Go.Gh Go.RowKit
set_option maxRecDepth 100000

theorem hearthMore_lifted (os : Os) (started : os.Started) (H : Type) (enc : TypeId × Value → H) :
    ReturnsInHanded {} Try.checked os 6 .any (Rows.hearthMoreSpec.pre6 enc Try.prog Try.f6 Rows.hearthMoreRow.domain false) (Rows.hearthMoreSpec.post enc Try.prog Try.f6 false true false false) := by
  refine law_lifted (C := Try.checked) (ctxOk kp1) rfl 4 own started (by kernel_rfl) laidOut Try.func6 rfl (fun ds hds => ?_) (tb := 4) rfl Try.underlying4 (by kernel_rfl)
    (ChangeSpec.witness6 (enc := enc) (C := Try.checked) false ⟨#[], #[.slice none 0 0], []⟩ 8 (by kernel_rfl) (by kernel_rfl) (by kernel_rfl) (by kernel_rfl)) ?_
  · match ds, hds with
    | [d], _ => rfl
  · intro pvs h
    match pvs, h with
    | [p], h =>
      obtain ⟨l, hl, rfl⟩ := shp_ints h.1
      exact law6 l hl

theorem hearthMore_holds : Rows.HearthMoreSaid :=
  OpenClaim.holds_of_wide 6 Try.f6 rfl rfl rfl rfl rfl rfl rfl ⟨rfl, rfl, rfl, rfl, rfl⟩ rfl rfl rfl rfl rfl (by kernel_rfl) Try.func6 (by kernel_rfl)
    (of_decide_eq_true (by kernel_rfl)) (by unfold Func.isWrapper; first | (rw [if_pos (by decide +kernel)]; kernel_rfl) | (rw [if_neg (by decide +kernel)]; exact ⟨rfl, rfl⟩))
    (fun os started H enc _ => hearthMore_lifted os started H enc)
#print axioms hearthMore_holds
end Go.Proofs.Ytldhcphijclmdaa

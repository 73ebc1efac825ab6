/- HearthFewest. -/
import Derived.Test.YtldhcphijclmdaaFo
import Derived.Test.YtldhcphijclmdaaGm
namespace Go.Gh
open Go.Proofs
set_option linter.unusedSimpArgs false
set_option linter.unusedVariables false
set_option maxRecDepth 100000
set_option maxHeartbeats 4000000

theorem few_loop {k : Kettle} {cs : List Coal} {ts : List Touch} {l : List Pour} {t7 t8 : Nat} {x : List Int} {code : Int} {F : Fr} (hn : cs.length ≤ 5) (h78 : t7 ≤ t8) (h8 : t8 ≤ 300) (hxl : x.length ≤ 100)
    (h4 : F.get 4 = some (.box [.pure (.slice (cs.map Coal.row)), .pure (.slice (ts.map Touch.row))])) (h5 : F.get 5 = some (.box (k.row.map .pure)))
    (R : ∀ y, asc cs.length 0 y → ∃ o vs, RFew k cs ts l t7 t8 y (layP k ⟨cs, ts⟩ l t7 t8 y) o vs)
    (hcase : ∀ y, asc cs.length 0 y → (code = 0 ∧ ((y = x ∧ layP k ⟨cs, ts⟩ l t7 t8 y = true) ∨ (y ≠ x ∧ (layP k ⟨cs, ts⟩ l t7 t8 y = true → ¬ y.length < x.length ∧ (y.length = x.length → lessL y x = false))))) ∨ (code = 7 ∧ layP k ⟨cs, ts⟩ l t7 t8 y = false)) (Q : GX → GSt → Prop) :
    ∀ j m : Nat, m + j = 2 ^ cs.length →
    Q (.exit 0) ⟨[(2, gdead), (10, .pure (.int .i64 code)), (11, .pure (.bool (anyB (layP k ⟨cs, ts⟩ l t7 t8) cs.length (2 ^ cs.length))))], [F, []], 162⟩ →
    WPL (KC kp0) needT 12 (lp Try.f12 0) [4, 5, 6, 7, 8, 9, 10, 11, 12] [2, 10, 11] Q (outS l t7 t8 code x (anyB (layP k ⟨cs, ts⟩ l t7 t8) cs.length m) m) [F, []] 162 := by
  intro j
  induction j with
  | zero =>
    intro m hm h1
    have e : m = 2 ^ cs.length := by omega
    subst e
    have hsl := shl_fact cs.length (by omega)
    generalize anyB (layP k ⟨cs, ts⟩ l t7 t8) cs.length (2 ^ cs.length) = b at *
    have hni : ¬ (((2 ^ cs.length : Nat) : Int) < ((2 ^ cs.length : Nat) : Int)) := by omega
    unfold outS
    generalize ((2 ^ cs.length : Nat) : Int) = p2 at *
    apply WPL_step
    conv => arg 4; whnf
    simp [h4, hsl, hni]
    exact h1
  | succ j ih =>
    intro m hm h1
    have ih' := ih (m + 1) (by omega) h1
    have hy := bitsR_asc cs.length m 0 cs.length (by omega)
    obtain ⟨o, vs, R'⟩ := R _ hy
    refine few_step hn (by omega) h78 h8 hxl h4 h5 R' (hcase _ hy) Q ?_
    have e : ((m : Int) + 1) = ((m + 1 : Nat) : Int) := by omega
    rw [e]
    exact ih'

theorem law12 (nums : List Int) (hn : nums.length ≤ 9223372036854775807) : ∃ H', gcall (KC kp0) (geval (KC kp0)) 12 [.pure (.slice (nums.map irow))] 0 [[]] = some (.pure (.bool true), H') := by
  have key : WPv (gcall (KC kp0) (geval (KC kp0)) 12 [.pure (.slice (nums.map irow))] 0 [[]]) (fun x => x.1 = .pure (.bool true)) := by
    refine call_enter (KC kp0) needT Try.func12 rfl rfl good12 rfl (by simp) (by simp) ?_
    have A := fun (fr : Fr) (c : Nat) => awake_ok fr c
    have nk : newKey 20 6 = 86022 := rfl
    obtain ⟨w, hw⟩ := BoxOf_ok (keep := kp0) kp0_ok rfl (c := 20) (H := [[], []]) nums hn (by simp) (by simp)
    simp [nk] at hw
    have hB : ∀ w, isBox [[(86022, wbox w)], []] (1, 86022) := fun w => ⟨w, by simp, by simp⟩
    have hwd : ∀ w, wordAt [[(86022, wbox w)], []] (1, 86022) = w := fun w => by simp [wordAt, wbox]
    have hF := fun (c : Nat) => fireOf_ok (keep := kp0) (c := c) kp0_ok (m := 5) (by omega) (hB w) rfl
    rw [hwd] at hF
    have hm := fireR_made 5 w (by omega)
    generalize fireR 5 w = fw at *
    obtain ⟨⟨cs, ts⟩, w1⟩ := fw
    simp only at hm
    have hK := fun (c : Nat) => kettleOf_ok (keep := kp0) (c := c) kp0_ok (hB w1)
    rw [hwd] at hK
    have hko := kettleR_kok w1
    generalize kettleR w1 = kw at *
    obtain ⟨k, w2⟩ := kw
    simp only at hko
    obtain ⟨G, hG⟩ : ∃ G : Int → Fr, G = fun w => [(4, .box [.pure (.slice (cs.map Coal.row)), .pure (.slice (ts.map Touch.row))]), (5, .box (k.row.map .pure)), (86022, wbox w)] := ⟨_, rfl⟩
    have hB2 : ∀ w, isBox [G w, []] (1, 86022) := fun w => ⟨w, by simp [hG], by simp [hG]⟩
    have hwd2 : ∀ w, wordAt [G w, []] (1, 86022) = w := fun w => by simp [hG, wordAt, wbox]
    have hP := fun (c : Nat) => poursOf_ok (keep := kp0) (c := c) (most := 3) (mins := 15) kp0_ok rfl (by omega) (by omega) hko.water (hB2 w2)
    rw [hwd2] at hP
    obtain ⟨hps, hpl⟩ := poursOfR_ok k hko 3 15 w2 (by omega) (by omega)
    generalize poursOfR k 3 15 w2 = pw at *
    obtain ⟨l, w3⟩ := pw
    simp only at hps hpl
    have hU := fun (c : Nat) => up_ok (keep := kp0) (c := c) (n := 15) kp0_ok (hB2 w3) (by omega)
    rw [hwd2] at hU
    have hur := upR_rng w3 15 (by omega)
    generalize upR w3 15 = uw at *
    obtain ⟨u7, w4⟩ := uw
    simp only at hur
    have hU2 := fun (c : Nat) => up_ok (keep := kp0) (c := c) (n := 4) kp0_ok (hB2 w4) (by omega)
    rw [hwd2] at hU2
    have hur2 := upR_rng w4 4 (by omega)
    generalize upR w4 4 = uw2 at *
    obtain ⟨u8, w5⟩ := uw2
    simp only at hur2
    obtain ⟨t7, rfl⟩ : ∃ n : Nat, u7 = n := ⟨u7.toNat, by omega⟩
    obtain ⟨d, rfl⟩ : ∃ n : Nat, u8 = n := ⟨u8.toNat, by omega⟩
    have hwt := w64 (x := (t7 : Int) + d) (by omega) (by omega)
    have hn5 := hm.n
    simp only at hn5
    have hc0 := made_check hm (by omega)
    simp only at hc0
    have hL := fun (H : Heap) (c : Nat) hH => Lay_ok (keep := kp0) (H := H) (c := c) kp0_ok rfl rfl k ⟨cs, ts⟩ l t7 ((t7 : Int) + d) hH
    have hLl := few_layA_len k ⟨cs, ts⟩ l t7 ((t7 : Int) + d)
    have eA := layA_def k ⟨cs, ts⟩ l t7 ((t7 : Int) + d)
    rw [asked_ok0 (k := k) (f := ⟨cs, ts⟩) (l := l) (n := 0) hko hc0 (by omega) hps (by omega), if_neg (by simp), if_neg (by omega), if_neg (by omega), if_neg (by simp only; omega)] at eA
    have et : ((t7 : Int) + d) = ((t7 + d : Nat) : Int) := by omega
    rw [et] at eA hL hLl hwt
    simp only [Int.toNat_natCast] at eA
    obtain ⟨t8, ht8⟩ : ∃ t8 : Nat, t8 = t7 + d := ⟨_, rfl⟩
    rw [← ht8] at eA hL hLl hwt et
    have RF := fun y hy => rfew (k := k) (cs := cs) (ts := ts) (l := l) (t7 := t7) (t8 := t8) hko hm hps (by omega) (by omega) (y := y) hy
    rw [← et] at hwt
    have hw8 := w64 (x := (t8 : Int)) (by omega) (by omega)
    simp [Kettle.row, Fire.row] at hF hK
    simp [hG, Kettle.row, Fire.row] at hP hU hU2
    have lp := fun x code hxl hcase Q hq => few_loop (k := k) (cs := cs) (ts := ts) (l := l) (t7 := t7) (t8 := t8) (x := x) (code := code) (F := G w5) (by omega) (by omega) (by omega) hxl (by simp [hG]) (by simp [hG]) RF hcase Q (2 ^ cs.length) 0 (by omega) hq
    cases hs : sizeLoop (layP k ⟨cs, ts⟩ l t7 t8) cs.length (cs.length + 1) 0 with
    | some x =>
      rw [hs] at eA
      simp only at eA
      rw [eA] at hL hLl
      obtain ⟨p1, p2, ⟨mk, p3, p4⟩, p5⟩ := fewest_some hs
      have hany := anyB_true (P := layP k ⟨cs, ts⟩ l t7 t8) (n := cs.length) p3 (by rw [p4]; exact p2)
      have h0 := fun Q hq => lp x 0 hLl (fun y hy => .inl ⟨rfl, by
        by_cases e : y = x
        · exact .inl ⟨e, by rw [e]; exact p2⟩
        · exact .inr ⟨e, fun hp => p5 y hy hp e⟩⟩) Q hq
      rw [hany] at h0
      simp [hG, outS, Kettle.row, anyB] at h0
      simp only [Kettle.row, Fire.row] at hL
      simp [hw, hF, hK, hP, hU, hU2, hwt, et, hw8, hL, Kettle.row, Fire.row]
      refine h0 _ ?_
      simp [A, gleave_free, kp0_ok, kept]
    | none =>
      rw [hs] at eA
      simp only at eA
      rw [eA] at hL hLl
      have p := fewest_none hs
      have hany := anyB_false (P := layP k ⟨cs, ts⟩ l t7 t8) (n := cs.length) (fun j => p _ (bitsR_asc cs.length j 0 cs.length (by omega))) (2 ^ cs.length)
      have h0 := fun Q hq => lp [] 7 hLl (fun y hy => .inr ⟨rfl, p y hy⟩) Q hq
      rw [hany] at h0
      simp [hG, outS, Kettle.row, anyB] at h0
      simp only [Kettle.row, Fire.row] at hL
      simp [hw, hF, hK, hP, hU, hU2, hwt, et, hw8, hL, Kettle.row, Fire.row]
      refine h0 _ ?_
      simp [A, gleave_free, kp0_ok, kept]
  obtain ⟨⟨r, H'⟩, e1, e2⟩ := key
  simp only at e2
  exact ⟨H', by rw [e1, e2]⟩
end Go.Gh


/-
  Proved here: for every list of numbers HearthFewest returns true and leaves its argument as it was. No condition.
-/
namespace Go.Proofs.Ytldhcphijclmdaa
open Go.Gh Go.RowKit
set_option maxRecDepth 100000

theorem hearthFewest_lifted (os : Os) (started : os.Started) (H : Type) (enc : TypeId × Value → H) :
    ReturnsInHanded {} Try.checked os 12 .any (Rows.hearthFewestSpec.pre6 enc Try.prog Try.f12 Rows.hearthFewestRow.domain false) (Rows.hearthFewestSpec.post enc Try.prog Try.f12 false true false false) := by
  refine law_lifted (C := Try.checked) (ctxOk kp0) rfl 4 own started (by kernel_rfl) laidOut Try.func12 rfl (fun ds hds => ?_) (tb := 4) rfl Try.underlying4 (by kernel_rfl)
    (ChangeSpec.witness6 (enc := enc) (C := Try.checked) false ⟨#[], #[.slice none 0 0], []⟩ 8 (by kernel_rfl) (by kernel_rfl) (by kernel_rfl) (by kernel_rfl)) ?_
  · match ds, hds with
    | [d], _ => rfl
  · intro pvs h
    match pvs, h with
    | [p], h =>
      obtain ⟨l, hl, rfl⟩ := shp_ints h.1
      exact law12 l hl

theorem hearthFewest_holds : Rows.HearthFewestSaid :=
  OpenClaim.holds_of_wide 12 Try.f12 rfl rfl rfl rfl rfl rfl rfl ⟨rfl, rfl, rfl, rfl, rfl⟩ rfl rfl rfl rfl rfl (by kernel_rfl) Try.func12 (by kernel_rfl)
    (of_decide_eq_true (by kernel_rfl)) (by unfold Func.isWrapper; first | (rw [if_pos (by decide +kernel)]; kernel_rfl) | (rw [if_neg (by decide +kernel)]; exact ⟨rfl, rfl⟩))
    (fun os started H enc _ => hearthFewest_lifted os started H enc)
#print axioms hearthFewest_holds
end Go.Proofs.Ytldhcphijclmdaa

/- ScoreSums. -/
import Derived.Test.YthcpepcmnmlmeaaSf
import Derived.Test.YthcpepcmnmlmeaaSe
import Derived.Test.YthcpepcmnmlmeaaGm
namespace Go.Gh
open Go.Proofs
set_option linter.unusedSimpArgs false
set_option linter.unusedVariables false
set_option linter.unnecessarySimpa false
set_option maxRecDepth 100000
set_option maxHeartbeats 4000000
theorem said_loop {F : Fr} {e : Int} (a : List Int) (n : Nat) (hl : a.length = n) (hn : n ≤ 9) (Q : GX → GSt → Prop) :
    ∀ k i : Nat, i + k = n → Q (.exit 0) ⟨[(4, .bptr (1, 4) 0), (7, .bptr (1, 7) 0), (8, .pure (.int .i64 e)), (9, .pure (.int .i64 (cntB (hasB a) n : Nat))), (10, .pure (.int .i64 (n : Nat)))], F :: [[]], 141⟩ →
    WPL KC needT 9 (lp Try.f9 0) [4, 6, 7, 8, 9, 10, 11] [4, 7, 8, 9, 10] Q [(4, .bptr (1, 4) 0), (6, .pure (.slice (a.map irow))), (7, .bptr (1, 7) 0), (8, .pure (.int .i64 e)), (9, .pure (.int .i64 (cntB (hasB a) i : Nat))), (10, .pure (.int .i64 (n : Nat))), (11, .pure (.int .i64 (i : Nat)))] (F :: [[]]) 141 := by
  intro k
  induction k with
  | zero =>
    intro i hi h1
    have e : i = n := by omega
    subst e
    apply WPL_step
    conv => arg 4; whnf
    simp
    exact h1
  | succ k ih =>
    intro i hi h1
    have hia : i < a.length := by omega
    have hin : (i : Int) < n := by omega
    have hw := w64 (x := (i : Int) + 1) (by omega) (by omega)
    have ih' := ih (i + 1) (by omega) h1
    have c1 := cntB_le (hasB a) i
    have hw1 := w64 (x := (cntB (hasB a) i : Nat) + (1 : Int)) (by omega) (by omega)
    have eh : hasB a i = decide (0 ≤ a[i]) := by unfold hasB; rw [getD_lt hia]
    apply WPL_step
    conv => arg 4; whnf
    by_cases g : 0 ≤ a[i]
    · simp only [cntB, eh, g, decide_true, if_true] at ih'
      simp [hia, hin, irow, g, hw, hw1]
      simpa using ih'
    · simp only [cntB, eh, g, decide_false, Bool.false_eq_true, if_false] at ih'
      simp [hia, hin, irow, g, hw, hw1]
      simpa using ih'
theorem law9 (nums : List Int) (hnums : nums.length ≤ 9223372036854775807) :
    ∃ H', gcall KC (geval KC) 9 [.pure (.slice (nums.map irow))] 0 [[]] = some (.pure (.bool true), H') := by
  suffices hs : WPv (gcall KC (geval KC) 9 [.pure (.slice (nums.map irow))] 0 [[]]) (fun x => x.1 = .pure (.bool true)) by
    obtain ⟨⟨v, H'⟩, h1, rfl⟩ := hs
    exact ⟨H', h1⟩
  refine call_enter KC needT Try.func9 rfl rfl good9 rfl rfl rfl (by simp) (by simp) ?_
  obtain ⟨w, eB⟩ := BoxOf_ok (c := 14) (H := [[], []]) nums hnums (by simp) (by simp [newKey])
  have k8 : newKey 14 6 = 24591 := by decide
  simp [k8] at eB
  obtain ⟨s, w1, hS, eS⟩ := scoring_ok (c := 16) (H := [[(24591, wbox w)], []]) (nm := (1, 24591)) ⟨_, rfl, rfl⟩
  have eA := any_ok (c := 19) (lo := 1) (hi := 9) (H := [[(24591, wbox w1)], []]) (nm := (1, 24591)) ⟨_, rfl, rfl⟩
  obtain ⟨n, w2, e2, hn1, hn9⟩ := anyR_get w1 9 (by omega) (by omega)
  have ew : wordAt [[(24591, wbox w1)], []] (1, 24591) = w1 := rfl
  rw [ew] at eA
  have e2' : anyR w1 1 9 = ((n : Int), w2) := e2
  rw [e2'] at eA
  obtain ⟨p, w3, hP, hpl, eP⟩ := part_ok (c := 20) (H := [[(24591, wbox w2)], []]) (nm := (1, 24591)) ⟨_, rfl, rfl⟩ n hn1 hn9
  obtain ⟨a, w4, hA, hal, eN⟩ := ans_ok (c := 23) (H := [[(4, .box (s.row.map .pure)), (24591, wbox w3)], []]) (nm := (1, 24591)) ⟨_, rfl, rfl⟩ p (by omega) hP.rng
  have M := Mark_ok (c := 28) (H := [[(4, .box (s.row.map .pure)), (24591, wbox w4)], []]) s p a (by have := hS.len; omega) (by omega) (by omega) (by simp)
  rw [markT_good hS.chk hP (hA.wr (by omega))] at M
  rw [rowS] at *
  rw [rowX] at M
  have hn : p.length ≤ 9 := by omega
  have L := fun Q F e => said_loop (F := F) (e := e) a p.length hal hn Q p.length 0 (by omega)
  obtain ⟨q1, q2, q3, q4⟩ := sums_plain p a p.length
  have q5 := allR_cnt p a p.length
  have b1 := cntB_le (hasB a) p.length
  have b2 := pairN_le100 p a hn
  have b3 := cntB_le (rightB p a) p.length
  have f0 : (markF s p a).points = W (W (W (W (W (s.packet * (cntB (rightB p a) p.length : Nat)) + W (s.pair * (pairN p a p.length : Nat))) + W (s.new * (cntB (heardB p a) p.length : Nat))) + W (s.whole * (if allR p a p.length = true then 1 else 0))) - W (s.loss * (cntB (fun j => hasB a j && !rightB p a j) p.length : Nat))) := rfl
  have f1 : (markF s p a).packets = (cntB (rightB p a) p.length : Nat) := rfl
  have f2 : (markF s p a).wrong = (cntB (fun j => hasB a j && !rightB p a j) p.length : Nat) := rfl
  have f3 : (markF s p a).pairs = (pairN p a p.length : Nat) := rfl
  have f4 : (markF s p a).new = (cntB (heardB p a) p.length : Nat) := rfl
  have f5 : (markF s p a).whole = if allR p a p.length = true then 1 else 0 := rfl
  have f6 : (markF s p a).start = (stN p a p.length : Nat) := rfl
  rw [f0, f1, f2, f3, f4, f5, f6] at M
  rw [q5] at M q2
  generalize (markF s p a).honour = ho at M
  have z0 : cntB (hasB a) 0 = 0 := rfl
  simp only [z0] at L
  clear f0 f1 f2 f3 f4 f5 f6 q5
  generalize cntB (fun j => hasB a j && !rightB p a j) p.length = wr at *
  generalize cntB (rightB p a) p.length = pk at *
  generalize pairN p a p.length = pr at *
  generalize cntB (heardB p a) p.length = nw at *
  generalize stN p a p.length = st at *
  generalize cntB (hasB a) p.length = sd at *
  generalize hm : p.length = m at *
  have B : ∀ m : Nat, m ≤ 9 → m * m ≤ 100 ∧ (m : Int) * ((m : Int) - 1) = ((m * (m - 1) : Nat) : Int) ∧ m * (m - 1) ≤ 100 ∧ (m * (m - 1)) + m = m * m := by
    intro m h
    have : m = 0 ∨ m = 1 ∨ m = 2 ∨ m = 3 ∨ m = 4 ∨ m = 5 ∨ m = 6 ∨ m = 7 ∨ m = 8 ∨ m = 9 := by omega
    rcases this with h | h | h | h | h | h | h | h | h | h <;> subst h <;> decide
  obtain ⟨B1, B2, B3, B4⟩ := B m hn
  obtain ⟨C1, C2, C3, C4⟩ := B sd (by omega)
  have d1 : (pk : Int) + wr = sd := by omega
  have w1 := w64 (x := (pk : Int) + wr) (by omega) (by omega)
  rw [d1] at w1
  have w2 := w64 (x := (m : Int) - 1) (by omega) (by omega)
  have w3 := w64 (x := (sd : Int) - 1) (by omega) (by omega)
  have w4 := w64 (x := (m : Int) * ((m : Int) - 1)) (by omega) (by omega)
  obtain ⟨D, hD⟩ : ∃ D, (sd : Int) * ((sd : Int) - 1) = D := ⟨_, rfl⟩
  have w5 := w64 (x := (sd : Int) * ((sd : Int) - 1)) (by omega) (by omega)
  have w6 := w64 (x := 2 * (pr : Int)) (by omega) (by omega)
  have d2 : 2 * (pr : Int) ≤ D := by omega
  rw [hD] at w5
  simp at eS eA eP eN L
  have d3 : st ≤ pk := q3
  simp only [W] at M
  obtain ⟨P2, hP2⟩ : ∃ P, 2 * (pr : Int) = P := ⟨_, rfl⟩
  by_cases hall : pk = m
  · have d4 : (m : Int) * ((m : Int) - 1) = P2 := by have := q2 (by simpa using hall); omega
    rw [d4] at w4
    rw [hP2] at w6 d2
    subst hall
    simp at M
    simp [eB, eS, eA, eP, eN, M, hm]
    refine L _ _ _ ?_
    simp [d1, hP2, hD, d4, w1, w2, w3, w4, w5, w6, d2, d3, awake_ok, gleave_free]
  · have hall' : ¬ (pk : Int) = m := by omega
    rw [hP2] at w6 d2
    simp [hall] at M
    simp [eB, eS, eA, eP, eN, M, hm]
    refine L _ _ _ ?_
    simp [d1, hP2, hD, w1, w2, w3, w4, w5, w6, d2, d3, hall, hall', awake_ok, gleave_free]
end Go.Gh


/-
  Proved here: for every list of numbers ScoreSums returns true and leaves its argument as it was. No condition.
-/
namespace Go.Proofs.Ythcpepcmnmlmeaa
open Go.Gh Go.RowKit
set_option maxRecDepth 100000
theorem scoreSums_lifted (os : Os) (started : os.Started) (H : Type) (enc : TypeId × Value → H) :
    ReturnsInHanded {} Try.checked os 9 .any (Rows.scoreSumsSpec.pre6 enc Try.prog Try.f9 Rows.scoreSumsRow.domain false) (Rows.scoreSumsSpec.post enc Try.prog Try.f9 false true false false) := by
  refine law_lifted (C := Try.checked) ctxOk rfl 6 own started (by kernel_rfl) laidOut Try.func9 rfl (fun ds hds => ?_) (tb := 4) rfl Try.underlying4 (by kernel_rfl)
    (ChangeSpec.witness6 (enc := enc) (C := Try.checked) false ⟨#[], #[.slice none 0 0], []⟩ 8 (by kernel_rfl) (by kernel_rfl) (by kernel_rfl) (by kernel_rfl)) ?_
  · match ds, hds with
    | [d], _ => rfl
  · intro pvs h
    have e : Try.f9.params.toList = [22] := by kernel_rfl
    rw [e] at h
    obtain ⟨p1, pvs, rfl, h1, h⟩ := argsP_cons h
    obtain rfl := argsP_nil h
    obtain ⟨nums, hl, rfl⟩ := arg_ints h1
    exact law9 nums hl
theorem scoreSums_holds : Rows.ScoreSumsSaid :=
  OpenClaim.holds_of_wide 9 Try.f9 rfl rfl rfl rfl rfl rfl rfl ⟨rfl, rfl, rfl, rfl, rfl⟩ rfl rfl rfl rfl rfl (by kernel_rfl) Try.func9 (by kernel_rfl)
    (of_decide_eq_true (by kernel_rfl)) (by unfold Func.isWrapper; first | (rw [if_pos (by decide +kernel)]; kernel_rfl) | (rw [if_neg (by decide +kernel)]; exact ⟨rfl, rfl⟩))
    (fun os started H enc _ => scoreSums_lifted os started H enc)
#print axioms scoreSums_holds
end Go.Proofs.Ythcpepcmnmlmeaa

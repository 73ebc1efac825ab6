/- ScoreChecks. -/
import Derived.Test.YthcpepcmnmlmeaaSf
import Derived.Test.YthcpepcmnmlmeaaGm
namespace Go.Gh
open Go.Proofs
set_option linter.unusedSimpArgs false
set_option linter.unusedVariables false
set_option linter.unnecessarySimpa false
set_option maxRecDepth 100000
set_option maxHeartbeats 4000000
def lrow (l : List Int) : List PV := [.slice (l.map irow)]
theorem checks_loop {F : Fr} (S : List Scoring) (P A : List (List Int)) (hS : S.length = 4) (hP : P.length = 4) (hA : A.length = 4) (bS : ∀ s ∈ S, s.keys.length ≤ 1000000) (bP : ∀ s ∈ P, s.length ≤ 1000000) (bA : ∀ s ∈ A, s.length ≤ 1000000) (Q : GX → GSt → Prop) :
    ∀ k i : Nat, i + k = 4 → Q (.exit 0) ⟨[(8, gdead)], F :: [[]], 163⟩ →
    WPL KC needT 4 (lp Try.f4 0) [12, 13, 14, 15] [8] Q [(12, .pure (.slice (S.map Scoring.row))), (13, .pure (.slice (P.map lrow))), (14, .pure (.slice (A.map lrow))), (15, .pure (.int .i64 (i : Nat)))] (F :: [[]]) 163 := by
  intro k
  induction k with
  | zero =>
    intro i hi h1
    have hn : ¬ i < S.length := by omega
    apply WPL_step
    conv => arg 4; whnf
    simp [hn]
    simpa using h1
  | succ k ih =>
    intro i hi h1
    have hiS : i < S.length := by omega
    have hiP : i < P.length := by omega
    have hiA : i < A.length := by omega
    have hw := w64 (x := (i : Int) + 1) (by omega) (by omega)
    have ih' := ih (i + 1) (by omega) h1
    have b1 := bS _ (List.getElem_mem hiS)
    have b2 := bP _ (List.getElem_mem hiP)
    have b3 := bA _ (List.getElem_mem hiA)
    have C1 := fun c (H : Heap) (hH : 0 < H.length) => chkS_ok (c := c) (H := H) S[i] b1 hH
    have C2 := fun c (H : Heap) (hH : 0 < H.length) => chkSR_ok (c := c) (H := H) S[i] b1 hH
    have M1 := fun c (H : Heap) (hH : 0 < H.length) => Mark_ok (c := c) (H := H) S[i] P[i] A[i] b1 b2 b3 hH
    have M2 := fun c (H : Heap) (hH : 0 < H.length) => MarkR_ok (c := c) (H := H) S[i] P[i] A[i] b1 b2 b3 hH
    have I1 := fun c (H : Heap) (hH : 0 < H.length) => ints_ok (c := c) (H := H) P[i] b2 hH
    have I2 := fun c (H : Heap) (hH : 0 < H.length) => ints_ok (c := c) (H := H) A[i] b3 hH
    have I3 := fun c (H : Heap) (hH : 0 < H.length) => ints_ok (c := c) (H := H) S[i].keys b1 hH
    have E1 := fun c (H : Heap) (hH : 0 < H.length) => eqI_ok (c := c) (H := H) P[i] b2 hH
    have E2 := fun c (H : Heap) (hH : 0 < H.length) => eqI_ok (c := c) (H := H) A[i] b3 hH
    have E3 := fun c (H : Heap) (hH : 0 < H.length) => eqI_ok (c := c) (H := H) S[i].keys b1 hH
    obtain ⟨x, e, hm⟩ := markT_two S[i] P[i] A[i]
    rw [hm] at M1 M2
    generalize chkS S[i] = q at *
    rw [rowX] at M1 M2
    rw [rowS] at M1 M2 C1 C2
    apply WPL_step
    conv => arg 4; whnf
    simp [hiS, hiP, hiA, lrow, rowS, hw, C1, C2, M1, M2, I1, I2, I3, E1, E2, E3]
    simpa [lrow, rowS] using ih'
theorem law4 (sc : Scoring) (p0 a0 nums : List Int) (hnums : nums.length ≤ 9223372036854775807) :
    ∃ H', gcall KC (geval KC) 4 [.pure (.agg sc.row), .pure (.slice (p0.map irow)), .pure (.slice (a0.map irow)), .pure (.slice (nums.map irow))] 0 [[]] = some (.pure (.bool true), H') := by
  suffices hs : WPv (gcall KC (geval KC) 4 [.pure (.agg sc.row), .pure (.slice (p0.map irow)), .pure (.slice (a0.map irow)), .pure (.slice (nums.map irow))] 0 [[]]) (fun x => x.1 = .pure (.bool true)) by
    obtain ⟨⟨v, H'⟩, h1, rfl⟩ := hs
    exact ⟨H', h1⟩
  refine call_enter KC needT Try.func4 rfl rfl good4 rfl rfl rfl (by simp) (by simp) ?_
  by_cases g1 : 20 < sc.keys.length
  · have g1' : (20 : Int) < sc.keys.length := by omega
    simp [rowS, g1, g1', awake_ok, gleave_free]
  have g1' : ¬ (20 : Int) < sc.keys.length := by omega
  by_cases g2 : 30 < p0.length
  · have g2' : (30 : Int) < p0.length := by omega
    simp [rowS, g1, g1', g2, g2', awake_ok, gleave_free]
  have g2' : ¬ (30 : Int) < p0.length := by omega
  by_cases g3 : 30 < a0.length
  · have g3' : (30 : Int) < a0.length := by omega
    simp [rowS, g1, g1', g2, g2', g3, g3', awake_ok, gleave_free]
  have g3' : ¬ (30 : Int) < a0.length := by omega
  obtain ⟨w, eB⟩ := BoxOf_ok (c := 39) (H := [[(4, .box (sc.row.map .pure))], []]) nums hnums (by simp) (by simp [newKey])
  have k8 : newKey 39 6 = 24616 := by decide
  simp [k8] at eB
  obtain ⟨s, w1, hS, eS⟩ := scoring_ok (c := 41) (H := [[(4, .box (sc.row.map .pure)), (24616, wbox w)], []]) (nm := (1, 24616)) ⟨_, rfl, rfl⟩
  have eA := any_ok (c := 44) (lo := 1) (hi := 9) (H := [[(4, .box (sc.row.map .pure)), (10, .box (s.row.map .pure)), (24616, wbox w1)], []]) (nm := (1, 24616)) ⟨_, rfl, rfl⟩
  obtain ⟨n, w2, e2, hn1, hn9⟩ := anyR_get w1 9 (by omega) (by omega)
  have ew : wordAt [[(4, .box (sc.row.map .pure)), (10, .box (s.row.map .pure)), (24616, wbox w1)], []] (1, 24616) = w1 := rfl
  rw [ew] at eA
  have e2' : anyR w1 1 9 = ((n : Int), w2) := e2
  rw [e2'] at eA
  obtain ⟨p, w3, hP, hpl, eP⟩ := part_ok (c := 45) (H := [[(4, .box (sc.row.map .pure)), (10, .box (s.row.map .pure)), (24616, wbox w2)], []]) (nm := (1, 24616)) ⟨_, rfl, rfl⟩ n hn1 hn9
  obtain ⟨a, w4, hA, hal, eN⟩ := ans_ok (c := 59) (H := [[(4, .box (sc.row.map .pure)), (10, .box (s.row.map .pure)), (24616, wbox w3)], []]) (nm := (1, 24616)) ⟨_, rfl, rfl⟩ p (by omega) hP.rng
  obtain ⟨b, w5, hB, hbl, eN2⟩ := ans_ok (c := 63) (H := [[(4, .box (sc.row.map .pure)), (10, .box (s.row.map .pure)), (24616, wbox w4)], []]) (nm := (1, 24616)) ⟨_, rfl, rfl⟩ p (by omega) hP.rng
  have L := fun Q F => checks_loop (F := F) [sc, s, s, sc] [p0, p, p0, p] [a0, a, a0, b] rfl rfl rfl (by intro x hx; have := hS.len; simp at hx; rcases hx with rfl | rfl | rfl | rfl <;> omega) (by intro x hx; simp at hx; rcases hx with rfl | rfl | rfl | rfl <;> omega) (by intro x hx; simp at hx; rcases hx with rfl | rfl | rfl | rfl <;> omega) Q 4 0 (by omega)
  simp [lrow, rowS] at L
  rw [rowS, rowS] at *
  simp at eS eA eP eN eN2 eB
  simp [g1, g1', g2, g2', g3, g3', eB, eS, eA, eP, eN, eN2]
  refine L _ _ ?_
  simp [awake_ok, gleave_free]
end Go.Gh


/-
  Proved here: ScoreChecks returns true for every scoring, every three lists of numbers, and leaves its arguments as they were. No condition.
-/
namespace Go.Proofs.Ythcpepcmnmlmeaa
open Go.Gh Go.RowKit
set_option maxRecDepth 100000
theorem scoreChecks_lifted (os : Os) (started : os.Started) (H : Type) (enc : TypeId × Value → H) :
    ReturnsInHanded {} Try.checked os 4 .any (Rows.scoreChecksSpec.pre6 enc Try.prog Try.f4 Rows.scoreChecksRow.domain false) (Rows.scoreChecksSpec.post enc Try.prog Try.f4 false true false false) := by
  refine law_lifted (C := Try.checked) ctxOk rfl 6 own started (by kernel_rfl) laidOut Try.func4 rfl (fun ds hds => ?_) (tb := 4) rfl Try.underlying4 (by kernel_rfl)
    (ChangeSpec.witness6 (enc := enc) (C := Try.checked) false ⟨#[], #[.agg #[.int .i64 0, .int .i64 0, .int .i64 0, .int .i64 0, .int .i64 0, .slice none 0 0], .slice none 0 0, .slice none 0 0, .slice none 0 0], []⟩ 14 (by kernel_rfl) (by kernel_rfl) (by kernel_rfl) (by kernel_rfl)) ?_
  · have hds' : ds.length = 4 := hds.trans (by kernel_rfl)
    clear hds
    match ds, hds' with
    | [d1, d2, d3, d4], _ => rfl
  · intro pvs h
    have e : Try.f4.params.toList = [31, 22, 22, 22] := by kernel_rfl
    rw [e] at h
    obtain ⟨p1, pvs, rfl, h1, h⟩ := argsP_cons h
    obtain ⟨p2, pvs, rfl, h2, h⟩ := argsP_cons h
    obtain ⟨p3, pvs, rfl, h3, h⟩ := argsP_cons h
    obtain ⟨p4, pvs, rfl, h4, h⟩ := argsP_cons h
    obtain rfl := argsP_nil h
    obtain ⟨r, rfl⟩ := arg_scoring h1
    obtain ⟨p, _, rfl⟩ := arg_ints h2
    obtain ⟨a, _, rfl⟩ := arg_ints h3
    obtain ⟨nums, hl, rfl⟩ := arg_ints h4
    exact law4 r p a nums hl
theorem scoreChecks_holds : Rows.ScoreChecksSaid :=
  OpenClaim.holds_of_wide 4 Try.f4 rfl rfl rfl rfl rfl rfl rfl ⟨rfl, rfl, rfl, rfl, rfl⟩ rfl rfl rfl rfl rfl (by kernel_rfl) Try.func4 (by kernel_rfl)
    (of_decide_eq_true (by kernel_rfl)) (by unfold Func.isWrapper; first | (rw [if_pos (by decide +kernel)]; kernel_rfl) | (rw [if_neg (by decide +kernel)]; exact ⟨rfl, rfl⟩))
    (fun os started H enc _ => scoreChecks_lifted os started H enc)
#print axioms scoreChecks_holds
end Go.Proofs.Ythcpepcmnmlmeaa

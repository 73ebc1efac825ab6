/- ScoreRanks. -/
import Derived.Test.YthcpepcmnmlmeaaSg
import Derived.Test.YthcpepcmnmlmeaaGm
namespace Go.Gh
open Go.Proofs
set_option linter.unusedSimpArgs false
set_option linter.unusedVariables false
set_option linter.unnecessarySimpa false
set_option maxRecDepth 100000
set_option maxHeartbeats 4000000
def fr5 (B4 B10 : Blk) (w : Int) : Fr := [(4, B4), (10, B10), (24616, wbox w)]
theorem answers_loop (p0 : List Int) (A0 : List (List Int)) (p : List Int) (hp : PartOk p) (B4 B10 : Blk) (Q : GX → GSt → Prop)
    (hQ : ∀ (l : List (List Int)) (w : Int), l.length ≤ 7 → (∀ a ∈ l, a.length ≤ 9) → Q (.exit 0) ⟨[(1, .pure (.slice (p0.map irow))), (2, .pure (.slice (A0.map arow))), (4, .bptr (1, 4) 0), (10, .bptr (1, 10) 0), (11, .pure (.slice (p.map irow))), (12, apS (1, 57) 1 (l.map arow))], apF 57 1 (l.map arow) (fr5 B4 B10 w) :: [[]], 126⟩) :
    ∀ (k : Nat) (l : List (List Int)) (w : Int), l.length + k ≤ 7 → (∀ a ∈ l, a.length ≤ 9) →
    WPL KC needT 5 (lp Try.f5 0) [1, 2, 4, 9, 10, 11, 12, 13] [1, 2, 4, 10, 11, 12] Q [(1, .pure (.slice (p0.map irow))), (2, .pure (.slice (A0.map arow))), (4, .bptr (1, 4) 0), (9, .bptr (1, 24616) 0), (10, .bptr (1, 10) 0), (11, .pure (.slice (p.map irow))), (12, apS (1, 57) 1 (l.map arow)), (13, .pure (.int .i64 (k : Nat)))] (apF 57 1 (l.map arow) (fr5 B4 B10 w) :: [[]]) 126 := by
  have hp9 := hp.le
  intro k
  induction k with
  | zero =>
    intro l w hl ha
    apply WPL_step
    conv => arg 4; whnf
    simp
    simpa using hQ l w (by omega) ha
  | succ k ih =>
    intro l w hl ha
    have hw := w64 (x := (k : Int) + 1 - 1) (by omega) (by omega)
    have e1 : (k : Int) + 1 - 1 = k := by omega
    rw [e1] at hw
    have k0 : (0 : Int) < (k : Int) + 1 := by omega
    have hB : isBox ([] :: apF 57 1 (l.map arow) (fr5 B4 B10 w) :: [[]]) (1, 24616) := ⟨w, by simp [fr5], by simp [fr5]⟩
    obtain ⟨a, wd, hA, hal, eN⟩ := ans_ok (c := 55) hB p hp.le hp.rng
    have ih' := ih (l ++ [a]) wd (by simp; omega) (fun x hx => by
      rcases List.mem_append.1 hx with h | h
      · exact ha x h
      · simp at h; subst h; omega)
    have hb : (l.length + 1) * 24 ≤ 1099511627776 := by omega
    have K := fun f0 (v : List Int) => apK_1 (H := [[]]) (l := 1) (key := 57) (es := 1) (bytes := 24) (rows := l.map arow) (r := arow v) (fr := fr5 B4 B10 wd) (f0 := f0) rfl rfl (by simpa using hb)
    simp [fr5] at eN
    simp only [fr5, arow] at K
    apply WPL_step
    conv => arg 4; whnf
    simp [fr5, k0, e1, hw, eN, K, arow]
    simpa [fr5, arow] using ih'
theorem law5 (sc : Scoring) (p0 : List Int) (A0 : List (List Int)) (hA0 : A0.length ≤ 9223372036854775807) (nums : List Int) (hnums : nums.length ≤ 9223372036854775807) :
    ∃ H', gcall KC (geval KC) 5 [.pure (.agg sc.row), .pure (.slice (p0.map irow)), .pure (.slice (A0.map arow)), .pure (.slice (nums.map irow))] 0 [[]] = some (.pure (.bool true), H') := by
  suffices hs : WPv (gcall KC (geval KC) 5 [.pure (.agg sc.row), .pure (.slice (p0.map irow)), .pure (.slice (A0.map arow)), .pure (.slice (nums.map irow))] 0 [[]]) (fun x => x.1 = .pure (.bool true)) by
    obtain ⟨⟨v, H'⟩, h1, rfl⟩ := hs
    exact ⟨H', h1⟩
  refine call_enter KC needT Try.func5 rfl rfl good5 rfl rfl rfl (by simp) (by simp) ?_
  have MU := fun c (H : Heap) (hH : 0 < H.length) => much_ok (c := c) (H := H) A0 hA0 hH
  by_cases g1 : 20 < sc.keys.length
  · have g1' : (20 : Int) < sc.keys.length := by omega
    simp [rowS, g1, g1', awake_ok, gleave_free]
  have g1' : ¬ (20 : Int) < sc.keys.length := by omega
  by_cases g2 : 30 < p0.length
  · have g2' : (30 : Int) < p0.length := by omega
    simp [rowS, g1, g1', g2, g2', awake_ok, gleave_free]
  have g2' : ¬ (30 : Int) < p0.length := by omega
  by_cases g3 : muchB A0 = true
  · simp only [g3] at MU
    simp [rowS, g1, g1', g2, g2', MU, awake_ok, gleave_free]
  have g3 : muchB A0 = false := by simpa using g3
  simp only [g3] at MU
  have bA0 : (∀ a ∈ A0, a.length ≤ 30) ∧ A0.length ≤ 20 := by
    unfold muchB at g3
    rw [Bool.or_eq_false_iff, List.any_eq_false] at g3
    exact ⟨fun a ha => by have := g3.1 a ha; simp at this; omega, by have := g3.2; simp at this; omega⟩
  obtain ⟨w, eB⟩ := BoxOf_ok (c := 39) (H := [[(4, .box (sc.row.map .pure))], []]) nums hnums (by simp) (by simp [newKey])
  have k8 : newKey 39 6 = 24616 := by decide
  simp [k8] at eB
  obtain ⟨s, w1, hS, eS⟩ := scoring_ok (c := 41) (H := [[(4, .box (sc.row.map .pure)), (24616, wbox w)], []]) (nm := (1, 24616)) ⟨_, rfl, rfl⟩
  have eA := any_ok (c := 44) (lo := 1) (hi := 7) (H := [[(4, .box (sc.row.map .pure)), (10, .box (s.row.map .pure)), (24616, wbox w1)], []]) (nm := (1, 24616)) ⟨_, rfl, rfl⟩
  obtain ⟨n, w2, e2, hn1, hn9⟩ := anyR_get w1 7 (by omega) (by omega)
  have ew : wordAt [[(4, .box (sc.row.map .pure)), (10, .box (s.row.map .pure)), (24616, wbox w1)], []] (1, 24616) = w1 := rfl
  rw [ew] at eA
  have e2' : anyR w1 1 7 = ((n : Int), w2) := e2
  rw [e2'] at eA
  obtain ⟨p, w3, hP, hpl, eP⟩ := part_ok (c := 45) (H := [[(4, .box (sc.row.map .pure)), (10, .box (s.row.map .pure)), (24616, wbox w2)], []]) (nm := (1, 24616)) ⟨_, rfl, rfl⟩ n hn1 (by omega)
  have eU := up_ok (c := 47) (n := 7) (H := [[(4, .box (sc.row.map .pure)), (10, .box (s.row.map .pure)), (24616, wbox w3)], []]) (nm := (1, 24616)) ⟨_, rfl, rfl⟩ (by omega)
  obtain ⟨m, w4, e4, hm⟩ := upR_get w3 7 (by omega) (by omega)
  have ew3 : wordAt [[(4, .box (sc.row.map .pure)), (10, .box (s.row.map .pure)), (24616, wbox w3)], []] (1, 24616) = w3 := rfl
  rw [ew3, e4] at eU
  have L := fun Q hQ => answers_loop p0 A0 p hP (.box (sc.row.map .pure)) (.box (s.row.map .pure)) Q hQ m [] w4 (by simp; omega) (by simp)
  simp only [fr5] at L
  have hsk := hS.len
  rw [rowS, rowS] at *
  simp [apS_nil, apF_nil] at L
  simp at eS eA eP eU eB
  simp [g1, g1', g2, g2', MU, eB, eS, eA, eP, eU]
  refine L _ (fun l w5 hl ha => ?_)
  simp
  obtain ⟨L1, P1, x1, bL1, bP1, h1⟩ := rankT_three sc p0 A0 (by omega)
  obtain ⟨L2, P2, x2, bL2, bP2, h2⟩ := rankT_three s p l (by omega)
  obtain ⟨L3, P3, x3, bL3, bP3, h3⟩ := rankT_three sc p l (by omega)
  have hp9 := hP.le
  have R1 := fun c (H : Heap) (hH : 0 < H.length) => Rank_p (c := c) (H := H) sc (by omega) p0 (by omega) A0 (fun a ha => by have := bA0.1 a ha; omega) (by omega) hH
  have T1 := fun c (H : Heap) (hH : 0 < H.length) => RankR_p (c := c) (H := H) sc (by omega) p0 (by omega) A0 (fun a ha => by have := bA0.1 a ha; omega) (by omega) hH
  rw [h1, rowS] at R1 T1
  have E1 := fun c (H : Heap) (hH : 0 < H.length) => eqSc_ok (c := c) (H := H) L1 bL1 hH
  have E2 := fun c (H : Heap) (hH : 0 < H.length) => eqSc_ok (c := c) (H := H) L2 bL2 hH
  have E3 := fun c (H : Heap) (hH : 0 < H.length) => eqSc_ok (c := c) (H := H) L3 bL3 hH
  have I1 := fun c (H : Heap) (hH : 0 < H.length) => eqI_ok (c := c) (H := H) P1 bP1 hH
  have I2 := fun c (H : Heap) (hH : 0 < H.length) => eqI_ok (c := c) (H := H) P2 bP2 hH
  have I3 := fun c (H : Heap) (hH : 0 < H.length) => eqI_ok (c := c) (H := H) P3 bP3 hH
  have v0 : IntKind.i64.wrap 1 = 1 := by decide
  have v1 : IntKind.i64.wrap 2 = 2 := by decide
  have v2 : IntKind.i64.wrap 3 = 3 := by decide
  by_cases hl0 : l = []
  · have R2 := fun c (H : Heap) (hH : 0 < H.length) => Rank_p (c := c) (H := H) s (by omega) p (by omega) l (fun a h => by have := ha a h; omega) (by omega) hH
    have T2 := fun c (H : Heap) (hH : 0 < H.length) => RankR_p (c := c) (H := H) s (by omega) p (by omega) l (fun a h => by have := ha a h; omega) (by omega) hH
    have R3 := fun c (H : Heap) (hH : 0 < H.length) => Rank_p (c := c) (H := H) sc (by omega) p (by omega) l (fun a h => by have := ha a h; omega) (by omega) hH
    have T3 := fun c (H : Heap) (hH : 0 < H.length) => RankR_p (c := c) (H := H) sc (by omega) p (by omega) l (fun a h => by have := ha a h; omega) (by omega) hH
    rw [h2, rowS] at R2 T2
    rw [h3, rowS] at R3 T3
    subst hl0
    simp only [List.map_nil] at R2 T2 R3 T3
    simp [apS_nil, apF_nil]
    apply WPL_step
    conv => arg 4; whnf
    simp [R1, T1, E1, I1, v0]
    apply WPL_step
    conv => arg 4; whnf
    simp [R2, T2, E2, I2, v1]
    apply WPL_step
    conv => arg 4; whnf
    simp [R3, T3, E3, I3, v2]
    apply WPL_step
    conv => arg 4; whnf
    simp [awake_ok, gleave_free]
  · have hr0 : l.map arow ≠ [] := by simpa using hl0
    have ea : apS (1, 57) 1 (l.map arow) = .hdr (1, 57) 1 l.length 0 l.length := by unfold apS; rw [if_neg hr0]; simp
    have hF : ∀ F, Ans57 (apF 57 1 (l.map arow) F) l := fun F => ⟨fun _ => ⟨0, false, Nat.zero_le _, apF_self hr0⟩⟩
    have hbl : ∀ a ∈ l, a.length ≤ 1000000 := fun a h => by have := ha a h; omega
    have hF := hF [(4, Blk.box [.pure (.int .i64 sc.packet), .pure (.int .i64 sc.pair), .pure (.int .i64 sc.whole), .pure (.int .i64 sc.new), .pure (.int .i64 sc.loss), .pure (.slice (sc.keys.map irow))]), (10, Blk.box [.pure (.int .i64 s.packet), .pure (.int .i64 s.pair), .pure (.int .i64 s.whole), .pure (.int .i64 s.new), .pure (.int .i64 s.loss), .pure (.slice (s.keys.map irow))]), (24616, wbox w5)]
    generalize apF 57 1 (l.map arow) _ = F at *
    obtain ⟨F1, hF1, R2⟩ := Rank_at (c := 89) (f0 := []) s (by omega) p (by omega) hF hbl (by omega)
    obtain ⟨F2, hF2, T2⟩ := RankR_at (c := 106) (f0 := []) s (by omega) p (by omega) hF1 hbl (by omega)
    obtain ⟨F3, hF3, R3⟩ := Rank_at (c := 89) (f0 := []) sc (by omega) p (by omega) hF2 hbl (by omega)
    obtain ⟨F4, hF4, T3⟩ := RankR_at (c := 106) (f0 := []) sc (by omega) p (by omega) hF3 hbl (by omega)
    rw [h2, rowS, ea] at R2 T2
    rw [h3, rowS, ea] at R3 T3
    have CL : ∀ F' : Fr, clean [[], F', []] 1 (.lits [[.pure (.slice (A0.map arow))], [.hdr (1, 57) 1 l.length 0 l.length], [.hdr (1, 57) 1 l.length 0 l.length]]) = .lits [[.pure (.slice (A0.map arow))], [.hdr (1, 57) 1 l.length 0 l.length], [.hdr (1, 57) 1 l.length 0 l.length]] := fun _ => rfl
    rw [ea]
    simp
    apply WPL_step
    conv => arg 4; whnf
    simp [R1, T1, E1, I1, v0, CL]
    apply WPL_step
    conv => arg 4; whnf
    simp [R2, T2, E2, I2, v1, CL]
    apply WPL_step
    conv => arg 4; whnf
    simp [R3, T3, E3, I3, v2, CL]
    apply WPL_step
    conv => arg 4; whnf
    simp [awake_ok, gleave_free]
end Go.Gh


/-
  Proved here: ScoreRanks returns true for every scoring, partition, answers and list of numbers, and leaves its arguments as they were. No condition.
-/
namespace Go.Proofs.Ythcpepcmnmlmeaa
open Go.Gh Go.RowKit
set_option maxRecDepth 100000
theorem scoreRanks_lifted (os : Os) (started : os.Started) (H : Type) (enc : TypeId × Value → H) :
    ReturnsInHanded {} Try.checked os 5 .any (Rows.scoreRanksSpec.pre6 enc Try.prog Try.f5 Rows.scoreRanksRow.domain false) (Rows.scoreRanksSpec.post enc Try.prog Try.f5 false true false false) := by
  refine law_lifted (C := Try.checked) ctxOk rfl 6 own started (by kernel_rfl) laidOut Try.func5 rfl (fun ds hds => ?_) (tb := 4) rfl Try.underlying4 (by kernel_rfl)
    (ChangeSpec.witness6 (enc := enc) (C := Try.checked) false ⟨#[], #[.agg #[.int .i64 0, .int .i64 0, .int .i64 0, .int .i64 0, .int .i64 0, .slice none 0 0], .slice none 0 0, .slice none 0 0, .slice none 0 0], []⟩ 14 (by kernel_rfl) (by kernel_rfl) (by kernel_rfl) (by kernel_rfl)) ?_
  · have hds' : ds.length = 4 := hds.trans (by kernel_rfl)
    clear hds
    match ds, hds' with
    | [d1, d2, d3, d4], _ => rfl
  · intro pvs h
    have e : Try.f5.params.toList = [31, 22, 50, 22] := by kernel_rfl
    rw [e] at h
    obtain ⟨p1, pvs, rfl, h1, h⟩ := argsP_cons h
    obtain ⟨p2, pvs, rfl, h2, h⟩ := argsP_cons h
    obtain ⟨p3, pvs, rfl, h3, h⟩ := argsP_cons h
    obtain ⟨p4, pvs, rfl, h4, h⟩ := argsP_cons h
    obtain rfl := argsP_nil h
    obtain ⟨r, rfl⟩ := arg_scoring h1
    obtain ⟨p, _, rfl⟩ := arg_ints h2
    obtain ⟨a, ha, rfl⟩ := arg_lists h3
    obtain ⟨nums, hl, rfl⟩ := arg_ints h4
    exact law5 r p a ha nums hl
theorem scoreRanks_holds : Rows.ScoreRanksSaid :=
  OpenClaim.holds_of_wide 5 Try.f5 rfl rfl rfl rfl rfl rfl rfl ⟨rfl, rfl, rfl, rfl, rfl⟩ rfl rfl rfl rfl rfl (by kernel_rfl) Try.func5 (by kernel_rfl)
    (of_decide_eq_true (by kernel_rfl)) (by unfold Func.isWrapper; first | (rw [if_pos (by decide +kernel)]; kernel_rfl) | (rw [if_neg (by decide +kernel)]; exact ⟨rfl, rfl⟩))
    (fun os started H enc _ => scoreRanks_lifted os started H enc)
#print axioms scoreRanks_holds
end Go.Proofs.Ythcpepcmnmlmeaa

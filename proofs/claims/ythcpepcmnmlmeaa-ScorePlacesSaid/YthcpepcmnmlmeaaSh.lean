/- Plain: places are an order. -/
import Derived.Test.YthcpepcmnmlmeaaSg
namespace Go.Gh
open Go.Proofs
set_option linter.unusedSimpArgs false
set_option linter.unusedVariables false
set_option linter.unnecessarySimpa false
set_option maxRecDepth 100000
set_option maxHeartbeats 4000000
def lexG : List Int → List Int → Bool
  | a :: r, b :: u => if a ≠ b then decide (b < a) else lexG r u
  | _, _ => false
def vecL (L : List Score) (ks : List Int) (i : Nat) : List Int := ks.map fun k => worthF k (L.getD i x0) i
theorem befF_lex (L : List Score) (i j : Nat) : ∀ ks, befF L i j ks = lexG (vecL L ks i) (vecL L ks j)
  | [] => rfl
  | k :: ks => by
    simp only [befF, vecL, List.map_cons, lexG]
    rw [befF_lex L i j ks]
    rfl
theorem lexG_self : ∀ a, lexG a a = false
  | [] => rfl
  | x :: a => by simp [lexG, lexG_self a]
theorem lexG_trans : ∀ {a b d : List Int}, a.length = b.length → b.length = d.length → lexG a b = true → lexG b d = true → lexG a d = true
  | [], _, _, _, _, h, _ => by simp [lexG] at h
  | x :: a, [], _, hl, _, _, _ => by simp at hl
  | x :: a, y :: b, [], _, hl, _, _ => by simp at hl
  | x :: a, y :: b, z :: d, h1, h2, g1, g2 => by
    simp only [lexG] at g1 g2 ⊢
    by_cases e1 : x = y
    · subst e1
      rw [if_neg (by simp)] at g1
      by_cases e2 : x = z
      · subst e2
        rw [if_neg (by simp)] at g2 ⊢
        exact lexG_trans (by simpa using h1) (by simpa using h2) g1 g2
      · rw [if_pos e2] at g2 ⊢; exact g2
    · rw [if_pos e1] at g1
      rw [decide_eq_true_iff] at g1
      by_cases e2 : y = z
      · subst e2
        rw [if_pos e1, decide_eq_true_iff]; exact g1
      · rw [if_pos e2, decide_eq_true_iff] at g2
        rw [if_pos (by omega), decide_eq_true_iff]; omega
theorem lexG_total : ∀ {a b : List Int}, a.length = b.length → lexG a b = false → lexG b a = false → a = b
  | [], [], _, _, _ => rfl
  | [], y :: b, h, _, _ => by simp at h
  | x :: a, [], h, _, _ => by simp at h
  | x :: a, y :: b, h, g1, g2 => by
    simp only [lexG] at g1 g2
    by_cases e : x = y
    · subst e
      rw [if_neg (by simp)] at g1 g2
      rw [lexG_total (by simpa using h) g1 g2]
    · rw [if_pos e, decide_eq_false_iff_not] at g1
      rw [if_pos (fun h => e h.symm), decide_eq_false_iff_not] at g2
      omega
theorem vecL_len (L : List Score) (ks : List Int) (i j : Nat) : (vecL L ks i).length = (vecL L ks j).length := by simp [vecL]
theorem cntB_lt {p q : Nat → Bool} : ∀ n, (∀ j, j < n → q j = true → p j = true) → (∃ j, j < n ∧ p j = true ∧ q j = false) → cntB q n < cntB p n
  | 0, _, ⟨j, hj, _⟩ => by omega
  | n + 1, h, ⟨j, hj, hp, hq⟩ => by
    simp only [cntB]
    have hm := cntB_mono' (p := p) (q := q) n fun j hj => h j (by omega)
    by_cases e : j = n
    · subst e
      rw [if_neg (by simp [hq]), if_pos hp]; omega
    · have := cntB_lt n (fun j hj => h j (by omega)) ⟨j, by omega, hp, hq⟩
      have hn := h n (by omega)
      by_cases g : q n = true
      · rw [if_pos g, if_pos (hn g)]; omega
      · rw [if_neg g]; split <;> omega
/-- Places tell the order. -/
theorem befN_lt {L : List Score} {ks : List Int} {i j n : Nat} (hi : i < n) (hj : j < n) : befN L ks i n < befN L ks j n ↔ befF L i j ks = true := by
  have key : ∀ {i j : Nat}, i < n → befF L i j ks = true → befN L ks i n < befN L ks j n := fun {i j} hi h => by
    unfold befN
    rw [befF_lex] at h
    refine cntB_lt n (fun k _ hk => ?_) ⟨i, hi, by rw [befF_lex]; exact h, by rw [befF_lex]; exact lexG_self _⟩
    rw [befF_lex] at hk ⊢
    exact lexG_trans (vecL_len ..) (vecL_len ..) hk h
  refine ⟨fun h => ?_, key hi⟩
  cases hb : befF L i j ks with
  | true => rfl
  | false =>
    cases hb2 : befF L j i ks with
    | true => have := key (i := j) (j := i) hj hb2; omega
    | false =>
      rw [befF_lex] at hb hb2
      have e := lexG_total (vecL_len ..) hb hb2
      have : befN L ks i n = befN L ks j n := by
        unfold befN
        exact cntB_congr n fun k _ => by rw [befF_lex, befF_lex, e]
      omega
/-- Equal places, equal worth for every key. -/
theorem befN_eq {L : List Score} {ks : List Int} {i j n : Nat} (hi : i < n) (hj : j < n) (h : befN L ks i n = befN L ks j n) : ∀ k ∈ ks, worthF k (L.getD i x0) i = worthF k (L.getD j x0) j := by
  have h1 : befF L i j ks = false := by
    cases hb : befF L i j ks with
    | false => rfl
    | true => have := (befN_lt hi hj).2 hb; omega
  have h2 : befF L j i ks = false := by
    cases hb : befF L j i ks with
    | false => rfl
    | true => have := (befN_lt hj hi).2 hb; omega
  rw [befF_lex] at h1 h2
  have e := lexG_total (vecL_len ..) h1 h2
  intro k hk
  obtain ⟨q, hq, rfl⟩ := List.getElem_of_mem hk
  have := congrArg (fun l => l[q]?) e
  simpa [vecL, hq] using this
end Go.Gh


/- Plain: without the last key, the places go with the answers. Rank on answers in a block of any key. -/
namespace Go.Gh
open Go.Proofs
set_option linter.unusedSimpArgs false
set_option linter.unusedVariables false
set_option linter.unnecessarySimpa false
set_option maxRecDepth 100000
set_option maxHeartbeats 4000000
variable {c : Nat} {H : Heap}
theorem cntB_take (p : Nat → Bool) (l : List Nat) : ∀ n, n ≤ l.length → cntB (fun j => p (l.getD j 0)) n = (l.take n).countP p
  | 0, _ => by simp [cntB]
  | n + 1, h => by
    have e := cntB_take p l n (by omega)
    simp only [cntB, getD_lt (show n < l.length by omega)]
    rw [← List.take_append_getElem (show n < l.length by omega), List.countP_append, List.countP_singleton]
    omega
theorem cntB_range (p : Nat → Bool) (n : Nat) : cntB p n = (List.range n).countP p := by
  have := cntB_take p (List.range n) n (by simp)
  rw [List.take_of_length_le (by simp)] at this
  rw [← this]
  exact cntB_congr n fun j hj => by rw [getD_lt (by simpa using hj)]; simp
theorem cntB_perm (p : Nat → Bool) {l : List Nat} {n : Nat} (h : l.Perm (List.range n)) : cntB (fun j => p (l.getD j 0)) n = cntB p n := by
  have hl : l.length = n := by rw [h.length_eq]; simp
  rw [cntB_take p l n (by omega), List.take_of_length_le (by omega), h.countP_eq, cntB_range]
theorem vecL_free {L L' : List Score} {ks : List Int} (hk : ∀ k ∈ ks, 1 ≤ k ∧ k ≤ 5) {i j : Nat} (h : L'.getD i x0 = L.getD j x0) : vecL L' ks i = vecL L ks j := by
  unfold vecL
  refine List.map_congr_left fun k hk' => ?_
  have hr := hk k hk'
  rw [h]
  unfold worthF
  by_cases h1 : k = 1
  · rw [if_pos h1, if_pos h1]
  by_cases h2 : k = 2
  · rw [if_neg h1, if_neg h1, if_pos h2, if_pos h2]
  by_cases h3 : k = 3
  · rw [if_neg h1, if_neg h1, if_neg h2, if_neg h2, if_pos h3, if_pos h3]
  by_cases h4 : k = 4
  · rw [if_neg h1, if_neg h1, if_neg h2, if_neg h2, if_neg h3, if_neg h3, if_pos h4, if_pos h4]
  have h5 : k = 5 := by omega
  rw [if_neg h1, if_neg h1, if_neg h2, if_neg h2, if_neg h3, if_neg h3, if_neg h4, if_neg h4, if_pos h5, if_pos h5]
theorem befN_perm {L L' : List Score} {ks : List Int} (hk : ∀ k ∈ ks, 1 ≤ k ∧ k ≤ 5) {o : List Nat} {n : Nat} (h : o.Perm (List.range n)) (hL : ∀ i, i < n → L'.getD i x0 = L.getD (o.getD i 0) x0) {i : Nat} (hi : i < n) : befN L' ks i n = befN L ks (o.getD i 0) n := by
  unfold befN
  rw [← cntB_perm (fun j => befF L j (o.getD i 0) ks) h]
  refine cntB_congr n fun j hj => ?_
  rw [befF_lex, befF_lex, vecL_free hk (hL j hj), vecL_free hk (hL i hi)]
end Go.Gh


/- ScorePlaces: the answers; the scores and places of valid answers. -/
namespace Go.Gh
open Go.Proofs
set_option linter.unusedSimpArgs false
set_option linter.unusedVariables false
set_option linter.unnecessarySimpa false
set_option maxRecDepth 100000
set_option maxHeartbeats 4000000
def fr10 (B4 : Blk) (w : Int) : Fr := [(4, B4), (24600, wbox w)]
theorem answers10_loop (p : List Int) (hp : PartOk p) (B4 : Blk) (Q : GX → GSt → Prop)
    (hQ : ∀ (l : List (List Int)) (w : Int), l.length ≤ 9 → (∀ a ∈ l, AnsOk a ∧ a.length = p.length) → Q (.exit 0) ⟨[(3, .bptr (1, 24600) 0), (4, .bptr (1, 4) 0), (5, .pure (.slice (p.map irow))), (6, apS (1, 41) 1 (l.map arow))], apF 41 1 (l.map arow) (fr10 B4 w) :: [[]], 197⟩) :
    ∀ (k : Nat) (l : List (List Int)) (w : Int), l.length + k ≤ 9 → (∀ a ∈ l, AnsOk a ∧ a.length = p.length) →
    WPL KC needT 10 (lp Try.f10 0) [3, 4, 5, 6, 7] [3, 4, 5, 6] Q [(3, .bptr (1, 24600) 0), (4, .bptr (1, 4) 0), (5, .pure (.slice (p.map irow))), (6, apS (1, 41) 1 (l.map arow)), (7, .pure (.int .i64 (k : Nat)))] (apF 41 1 (l.map arow) (fr10 B4 w) :: [[]]) 197 := by
  have hp9 := hp.le
  intro k
  induction k with
  | zero =>
    intro l w hl ha
    apply WPL_step
    conv => arg 4; whnf
    simp
    simpa using hQ l w (by omega) ha
  | succ k ih =>
    intro l w hl ha
    have hw := w64 (x := (k : Int) + 1 - 1) (by omega) (by omega)
    have e1 : (k : Int) + 1 - 1 = k := by omega
    rw [e1] at hw
    have k0 : (0 : Int) < (k : Int) + 1 := by omega
    have hB : isBox ([] :: apF 41 1 (l.map arow) (fr10 B4 w) :: [[]]) (1, 24600) := ⟨w, by simp [fr10], by simp [fr10]⟩
    obtain ⟨a, wd, hA, hal, eN⟩ := ans_ok (c := 39) hB p hp.le hp.rng
    have ih' := ih (l ++ [a]) wd (by simp; omega) (fun x hx => by
      rcases List.mem_append.1 hx with h | h
      · exact ha x h
      · simp at h; subst h; exact ⟨hA, hal⟩)
    have hb : (l.length + 1) * 24 ≤ 1099511627776 := by omega
    have K := fun f0 (v : List Int) => apK_1 (H := [[]]) (l := 1) (key := 41) (es := 1) (bytes := 24) (rows := l.map arow) (r := arow v) (fr := fr10 B4 wd) (f0 := f0) rfl rfl (by simpa using hb)
    simp [fr10] at eN
    simp only [fr10, arow] at K
    apply WPL_step
    conv => arg 4; whnf
    simp [fr10, k0, e1, hw, eN, K, arow]
    simpa [fr10, arow] using ih'
theorem flt_zero {n : Int} : ∀ {A : List (List Int)}, (∀ a ∈ A, wrF a n = 0) → fltL n A = 0
  | [], _ => rfl
  | a :: A, h => by
    simp only [fltL]
    rw [if_neg (not_not_intro (h a (List.mem_cons_self ..)))]
    exact flt_zero fun x hx => h x (List.mem_cons_of_mem _ hx)
theorem rankT_good {s : Scoring} {p : List Int} {A : List (List Int)} (hS : SOk s) (hp : PartOk p) (hA : A.length ≤ 12) (ha : ∀ a ∈ A, AnsOk a ∧ a.length = p.length) : rankT s p A = [.slice ((A.map (markF s p)).map Score.row), .slice ((plL (A.map (markF s p)) s.keys A.length).map irow), .int .i64 0] := by
  unfold rankT
  rw [if_neg (by simp [hS.chk]), if_neg (by simp [hp.zero]), if_neg (by omega), if_neg (by rw [flt_zero fun a h => (ha a h).1.wr (by rw [(ha a h).2])]; simp)]
end Go.Gh


/- ScorePlaces: the loops that look at places. -/
namespace Go.Gh
open Go.Proofs
set_option linter.unusedSimpArgs false
set_option linter.unusedVariables false
set_option linter.unnecessarySimpa false
set_option maxRecDepth 100000
set_option maxHeartbeats 4000000
theorem keys10_loop {F f0 f1 : Fr} {s : Scoring} (g4 : F.get 4 = some (.box (s.row.map .pure))) (hk : s.keys.length ≤ 1000000) (p : List Int) (G : List (List PV)) (L : List Score) (PL : List Int) (n i q : Nat) (hL : L.length = n) (hP : PL.length = n) (hi : i < n) (hq : q < n) (hn : n ≤ 100) (t12 : Int)
    (hw : ∀ (h1 : q < PL.length) (h2 : i < PL.length), PL[q] = PL[i] → ∀ k ∈ s.keys, worthF k (L.getD q x0) q = worthF k (L.getD i x0) i) (Q : GX → GSt → Prop)
    (hQ : Q (.exit 6) ⟨[(2, gdead), (3, .bptr (1, 24600) 0), (4, .bptr (1, 4) 0), (5, .pure (.slice (p.map irow))), (6, apS (1, 41) 1 G), (8, .pure (.slice (L.map Score.row))), (9, .pure (.slice (PL.map irow))), (11, .pure (.int .i64 (i : Nat))), (12, .pure (.int .i64 t12)), (13, .pure (.int .i64 (q : Nat)))], [] :: [] :: F :: [[]], 197⟩) :
    ∀ m k : Nat, k + m = s.keys.length →
    WPL KC needT 10 (lp Try.f10 3) [3, 4, 5, 6, 8, 9, 11, 12, 13, 14] [2, 3, 4, 5, 6, 8, 9, 11, 12, 13] Q [(3, .bptr (1, 24600) 0), (4, .bptr (1, 4) 0), (5, .pure (.slice (p.map irow))), (6, apS (1, 41) 1 G), (8, .pure (.slice (L.map Score.row))), (9, .pure (.slice (PL.map irow))), (11, .pure (.int .i64 (i : Nat))), (12, .pure (.int .i64 t12)), (13, .pure (.int .i64 (q : Nat))), (14, .pure (.int .i64 (k : Nat)))] ([] :: [] :: F :: [[]]) 197 := by
  rw [rowS] at g4
  intro m
  induction m with
  | zero =>
    intro k hkk
    have : ¬ k < s.keys.length := by omega
    apply WPL_step
    conv => arg 4; whnf
    simp [this, g4]
    simpa using hQ
  | succ m ih =>
    intro k hkk
    have hia : k < s.keys.length := by omega
    have hw1 := w64 (x := (k : Int) + 1) (by omega) (by omega)
    have ih' := ih (k + 1) (by omega)
    have q1 : q < PL.length := by omega
    have i1 : i < PL.length := by omega
    have q2 : q < L.length := by omega
    have i2 : i < L.length := by omega
    have Wq := fun c (H : Heap) (hH : 0 < H.length) => Worth_ok (c := c) (H := H) L[q] q s.keys[k] hH
    have Wi := fun c (H : Heap) (hH : 0 < H.length) => Worth_ok (c := c) (H := H) L[i] i s.keys[k] hH
    apply WPL_step
    conv => arg 4; whnf
    by_cases g : PL[q] = PL[i]
    · have he := hw q1 i1 g _ (List.getElem_mem hia)
      rw [getD_lt q2, getD_lt i2] at he
      rw [he] at Wq
      generalize worthF s.keys[k] L[i] i = wv at *
      rw [rowX] at Wq Wi
      simp [g4, hia, q1, i1, q2, i2, irow, g, rowX, Wq, Wi, hw1]
      simpa [irow, rowX] using ih'
    · simp [g4, hia, q1, i1, q2, i2, irow, g, rowX, hw1]
      simpa [irow, rowX] using ih'
end Go.Gh


/- ScorePlaces: the loop over the others. -/
namespace Go.Gh
open Go.Proofs
set_option linter.unusedSimpArgs false
set_option linter.unusedVariables false
set_option linter.unnecessarySimpa false
set_option maxRecDepth 100000
set_option maxHeartbeats 4000000
def lessN (PL : List Int) (i : Nat) (q : Nat) : Nat := cntB (fun j => decide (PL.getD j 0 < PL.getD i 0)) q
theorem others10_loop {F f1 : Fr} {s : Scoring} (g4 : F.get 4 = some (.box (s.row.map .pure))) (hk : s.keys.length ≤ 1000000) (p : List Int) (A : List (List Int)) (hA : ∃ v ro, v ≤ A.length ∧ F.get 41 = some (.arr 1 (A.map arow) v ro)) (h0 : A ≠ []) (L : List Score) (PL : List Int) (n i : Nat) (hAn : A.length = n) (hL : L.length = n) (hP : PL.length = n) (hi : i < n) (hn : n ≤ 100)
    (hw : ∀ q (h1 : q < PL.length) (h2 : i < PL.length), PL[q] = PL[i] → ∀ k ∈ s.keys, worthF k (L.getD q x0) q = worthF k (L.getD i x0) i) (Q : GX → GSt → Prop)
    (hQ : Q (.exit 4) ⟨[(2, gdead), (3, .bptr (1, 24600) 0), (4, .bptr (1, 4) 0), (5, .pure (.slice (p.map irow))), (6, apS (1, 41) 1 (A.map arow)), (8, .pure (.slice (L.map Score.row))), (9, .pure (.slice (PL.map irow))), (11, .pure (.int .i64 (i : Nat))), (12, .pure (.int .i64 (lessN PL i n : Nat)))], [] :: F :: [[]], 197⟩) :
    ∀ m q : Nat, q + m = n →
    WPL KC needT 10 (lp Try.f10 2) [3, 4, 5, 6, 8, 9, 11, 12, 13] [2, 3, 4, 5, 6, 8, 9, 11, 12] Q [(3, .bptr (1, 24600) 0), (4, .bptr (1, 4) 0), (5, .pure (.slice (p.map irow))), (6, apS (1, 41) 1 (A.map arow)), (8, .pure (.slice (L.map Score.row))), (9, .pure (.slice (PL.map irow))), (11, .pure (.int .i64 (i : Nat))), (12, .pure (.int .i64 (lessN PL i q : Nat))), (13, .pure (.int .i64 (q : Nat)))] ([] :: F :: [[]]) 197 := by
  have hr0 : A.map arow ≠ [] := by simpa using h0
  have ea : apS (1, 41) 1 (A.map arow) = .hdr (1, 41) 1 A.length 0 A.length := by unfold apS; rw [if_neg hr0]; simp
  rw [hAn] at ea
  intro m
  induction m with
  | zero =>
    intro q hq
    have e : q = n := by omega
    rw [ea] at hQ ⊢
    rw [e]
    apply WPL_step
    conv => arg 4; whnf
    simp
    simpa using hQ
  | succ m ih =>
    intro q hq
    have hqn : q < n := by omega
    have hqi : (q : Int) < n := by omega
    have hw1 := w64 (x := (q : Int) + 1) (by omega) (by omega)
    have ih' := ih (q + 1) (by omega)
    have q1 : q < PL.length := by omega
    have i1 : i < PL.length := by omega
    have hc := cntB_le (fun j => decide (PL.getD j 0 < PL.getD i 0)) q
    have hw2 := w64 (x := (lessN PL i q : Int) + 1) (by unfold lessN; omega) (by unfold lessN; omega)
    have en : lessN PL i (q + 1) = lessN PL i q + if PL[q] < PL[i] then 1 else 0 := by
      unfold lessN
      simp only [cntB, getD_lt q1, getD_lt i1, decide_eq_true_eq]
    have KL := fun t12 Q hQ => keys10_loop (f0 := []) (f1 := []) g4 hk p (A.map arow) L PL n i q hL hP hi hqn hn t12 (hw q) Q hQ s.keys.length 0 (by omega)
    rw [en] at ih'
    generalize lessN PL i q = b at *
    rw [ea] at *
    simp at KL
    apply WPL_step
    conv => arg 4; whnf
    by_cases g : PL[q] < PL[i]
    · rw [if_pos g] at ih'
      simp [hAn, hqn, hqi, q1, i1, irow, g, hw2]
      refine KL _ _ ?_
      simp [hw1]
      simpa [irow] using ih'
    · rw [if_neg g] at ih'
      simp [hAn, hqn, hqi, q1, i1, irow, g]
      refine KL _ _ ?_
      simp [hw1]
      simpa [irow] using ih'
end Go.Gh


/- ScorePlaces: the loop over all. -/
namespace Go.Gh
open Go.Proofs
set_option linter.unusedSimpArgs false
set_option linter.unusedVariables false
set_option linter.unnecessarySimpa false
set_option maxRecDepth 100000
set_option maxHeartbeats 4000000
theorem all10_loop {F : Fr} {s : Scoring} (g4 : F.get 4 = some (.box (s.row.map .pure))) (hk : s.keys.length ≤ 1000000) (p : List Int) (A : List (List Int)) (hA : ∃ v ro, v ≤ A.length ∧ F.get 41 = some (.arr 1 (A.map arow) v ro)) (h0 : A ≠ []) (L : List Score) (PL : List Int) (n : Nat) (hAn : A.length = n) (hL : L.length = n) (hP : PL.length = n) (hn : n ≤ 100)
    (hw : ∀ i q (h1 : q < PL.length) (h2 : i < PL.length), PL[q] = PL[i] → ∀ k ∈ s.keys, worthF k (L.getD q x0) q = worthF k (L.getD i x0) i)
    (hp : ∀ i (h : i < PL.length), PL[i] = (lessN PL i n : Int) + 1) (Q : GX → GSt → Prop)
    (hQ : Q (.exit 2) ⟨[(2, gdead), (3, .bptr (1, 24600) 0), (4, .bptr (1, 4) 0), (5, .pure (.slice (p.map irow))), (6, apS (1, 41) 1 (A.map arow)), (9, .pure (.slice (PL.map irow)))], F :: [[]], 197⟩) :
    ∀ m i : Nat, i + m = n →
    WPL KC needT 10 (lp Try.f10 1) [3, 4, 5, 6, 8, 9, 11] [2, 3, 4, 5, 6, 9] Q [(3, .bptr (1, 24600) 0), (4, .bptr (1, 4) 0), (5, .pure (.slice (p.map irow))), (6, apS (1, 41) 1 (A.map arow)), (8, .pure (.slice (L.map Score.row))), (9, .pure (.slice (PL.map irow))), (11, .pure (.int .i64 (i : Nat)))] (F :: [[]]) 197 := by
  have hr0 : A.map arow ≠ [] := by simpa using h0
  have ea : apS (1, 41) 1 (A.map arow) = .hdr (1, 41) 1 A.length 0 A.length := by unfold apS; rw [if_neg hr0]; simp
  rw [hAn] at ea
  intro m
  induction m with
  | zero =>
    intro i hi
    have e : i = n := by omega
    rw [ea] at hQ ⊢
    rw [e]
    apply WPL_step
    conv => arg 4; whnf
    simp
    simpa using hQ
  | succ m ih =>
    intro i hi
    have hin : i < n := by omega
    have hii : (i : Int) < n := by omega
    have hw1 := w64 (x := (i : Int) + 1) (by omega) (by omega)
    have ih' := ih (i + 1) (by omega)
    have i1 : i < PL.length := by omega
    have hpi := hp i i1
    have hc := cntB_le (fun j => decide (PL.getD j 0 < PL.getD i 0)) n
    have hw2 := w64 (x := (lessN PL i n : Int) + 1) (by unfold lessN; omega) (by unfold lessN; omega)
    have OL := fun Q hQ => others10_loop (f1 := []) g4 hk p A hA h0 L PL n i hAn hL hP hin hn (hw i) Q hQ n 0 (by omega)
    have z0 : lessN PL i 0 = 0 := rfl
    rw [z0] at OL
    rw [ea] at OL ih' ⊢
    simp at OL
    generalize lessN PL i n = b at *
    apply WPL_step
    conv => arg 4; whnf
    simp [hin, hii]
    refine OL _ ?_
    simp [i1, irow, hpi, hw1, hw2]
    simpa [irow] using ih'
theorem plL_get (L : List Score) (ks : List Int) : ∀ (n i : Nat) (h : i < (plL L ks n).length), (plL L ks n)[i] = ((1 + befN L ks i L.length : Nat) : Int)
  | 0, i, h => by simp [plL] at h
  | n + 1, i, h => by
    have hl := plL_len L ks n
    by_cases e : i < n
    · have hi : i < (plL L ks n).length := by omega
      have := plL_get L ks n i hi
      simp only [plL, List.getElem_append, hi, dif_pos]
      exact this
    · have e2 : i = n := by rw [plL_len] at h; omega
      subst e2
      simp [plL, List.getElem_append, hl]
/-- A place is one more than the number of lower places. -/
theorem place_less (L : List Score) (ks : List Int) {n i : Nat} (hL : L.length = n) (hi : i < n) (h : i < (plL L ks n).length) : (plL L ks n)[i] = (lessN (plL L ks n) i n : Int) + 1 := by
  rw [plL_get]
  have : lessN (plL L ks n) i n = befN L ks i L.length := by
    unfold lessN
    have e : befN L ks i L.length = cntB (fun j => befF L j i ks) n := by rw [hL]; rfl
    rw [e]
    refine cntB_congr n fun j hj => ?_
    have hj' : j < (plL L ks n).length := by rw [plL_len]; exact hj
    rw [getD_lt hj', getD_lt h, plL_get, plL_get, hL, Bool.eq_iff_iff, decide_eq_true_iff]
    rw [← befN_lt hj hi]
    omega
  rw [this]
  omega
theorem place_same (L : List Score) (ks : List Int) {n i q : Nat} (hL : L.length = n) (hq : q < (plL L ks n).length) (hi : i < (plL L ks n).length) (h : (plL L ks n)[q] = (plL L ks n)[i]) : ∀ k ∈ ks, worthF k (L.getD q x0) q = worthF k (L.getD i x0) i := by
  rw [plL_get, plL_get, hL] at h
  rw [plL_len] at hq hi
  exact befN_eq hq hi (by omega)
end Go.Gh


/- ScorePlaces: Has; an order of none. -/
namespace Go.Gh
open Go.Proofs
set_option linter.unusedSimpArgs false
set_option linter.unusedVariables false
set_option linter.unnecessarySimpa false
set_option maxRecDepth 100000
set_option maxHeartbeats 4000000
variable {c : Nat} {H : Heap}
theorem hasA_loop (l : List Int) (v : Int) (hn : l.length ≤ 1000000) (Q : GX → GSt → Prop) (hH : 0 < H.length) : ∀ k i : Nat, i + k = l.length →
    ((l.drop i).contains v = false → Q (.exit 0) ⟨[(4, gdead)], H, 18⟩) → ((l.drop i).contains v = true → Q .ret ⟨[(4, .pure (.bool true))], H, 18⟩) →
    WPL KC needT 46 (lp Try.f46 0) [0, 1, 5] [4] Q [(0, .pure (.slice (l.map irow))), (1, .pure (.int .i64 v)), (5, .pure (.int .i64 i))] H 18 := by
  intro k
  induction k with
  | zero =>
    intro i hi h1 h2
    have e : l.drop i = [] := List.drop_eq_nil_of_le (by omega)
    rw [e] at h1
    apply WPL_step
    conv => arg 4; whnf
    have : ¬ i < l.length := by omega
    simp [this, hH]
    exact h1 rfl
  | succ k ih =>
    intro i hi h1 h2
    have hia : i < l.length := by omega
    have hw := w64 (x := (i : Int) + 1) (by omega) (by omega)
    rw [List.drop_eq_getElem_cons hia, List.contains_cons] at h1 h2
    apply WPL_step
    conv => arg 4; whnf
    by_cases g : l[i] = v
    · simp [hia, hH, irow, g]
      exact h2 (by simp [g])
    · have g2 : (v == l[i]) = false := by simpa using fun h => g h.symm
      simp only [g2, Bool.false_or] at h1 h2
      have ih' := ih (i + 1) (by omega) h1 h2
      simp [hia, hH, irow, hw, g]
      simpa [irow] using ih'
theorem hasA_ok (l : List Int) (v : Int) (hn : l.length ≤ 1000000) (hH : 0 < H.length) :
    gcall KC (geval KC) 46 [.pure (.slice (l.map irow)), .pure (.int .i64 v)] c H = some (.pure (.bool (l.contains v)), H) := by
  refine WPv_eq (call_enter KC needT Try.func46 rfl rfl good46 rfl rfl rfl (by simp) hH ?_)
  have L := fun Q => hasA_loop (H := [] :: H) l v hn Q (by simp) l.length 0 (by omega)
  simp only [List.drop_zero] at L
  generalize l.contains v = b at *
  simp
  refine L _ (fun h => ?_) (fun h => ?_)
  · subst h; simp [gleave_free]
  · subst h; simp [gleave_free]
theorem order0_ok {nm : Nm} (hB : isBox H nm) : gcall KC (geval KC) 44 [.bptr nm 0, .pure (.int .i64 0)] c H = some (.pure (.slice []), H) := by
  have hlt := isBox_lt hB
  refine WPv_eq (call_enter KC needT Try.func44 rfl rfl good44 rfl rfl rfl (by simp) (by omega) ?_)
  simp
  apply WPL_step
  conv => arg 4; whnf
  simp [gleave_free]
end Go.Gh


/- ScorePlaces: the answers in another order. -/
namespace Go.Gh
open Go.Proofs
set_option linter.unusedSimpArgs false
set_option linter.unusedVariables false
set_option linter.unnecessarySimpa false
set_option maxRecDepth 100000
set_option maxHeartbeats 4000000
def nrow (x : Nat) : List PV := [.int .i64 (x : Int)]
theorem turned10_loop {fr : Fr} (p : List Int) (A : List (List Int)) {v : Nat} {ro : Bool} (hv : v ≤ A.length) (g41 : fr.get 41 = some (.arr 1 (A.map arow) v ro)) (g160 : fr.get 160 = none) (h0 : A ≠ []) (PL : List Int) (o : List Nat) (n : Nat) (hAn : A.length = n) (ho : o.length = n) (hr : ∀ x ∈ o, x < n) (hn : n ≤ 100) (Q : GX → GSt → Prop)
    (hQ : Q (.exit 8) ⟨[(4, .bptr (1, 4) 0), (5, .pure (.slice (p.map irow))), (6, apS (1, 41) 1 (A.map arow)), (9, .pure (.slice (PL.map irow))), (15, .pure (.slice (o.map nrow))), (16, apS (1, 160) 1 ((o.map fun x => A.getD x []).map arow))], apF 160 1 ((o.map fun x => A.getD x []).map arow) fr :: [[]], 197⟩) :
    ∀ m i : Nat, i + m = n → ∀ l : List (List Int), l = (o.take i).map (fun x => A.getD x []) →
    WPL KC needT 10 (lp Try.f10 4) [4, 5, 6, 9, 15, 16, 17] [4, 5, 6, 9, 15, 16] Q [(4, .bptr (1, 4) 0), (5, .pure (.slice (p.map irow))), (6, apS (1, 41) 1 (A.map arow)), (9, .pure (.slice (PL.map irow))), (15, .pure (.slice (o.map nrow))), (16, apS (1, 160) 1 (l.map arow)), (17, .pure (.int .i64 (i : Nat)))] (apF 160 1 (l.map arow) fr :: [[]]) 197 := by
  have hr0 : A.map arow ≠ [] := by simpa using h0
  have ea : apS (1, 41) 1 (A.map arow) = .hdr (1, 41) 1 A.length 0 A.length := by unfold apS; rw [if_neg hr0]; simp
  intro m
  induction m with
  | zero =>
    intro i hi l hl
    have e : o.take i = o := List.take_of_length_le (by omega)
    rw [e] at hl
    subst hl
    have hn : ¬ i < o.length := by omega
    rw [ea] at hQ ⊢
    generalize (o.map fun x => A.getD x []) = l at *
    apply WPL_step
    conv => arg 4; whnf
    simp [hn]
    simpa using hQ
  | succ m ih =>
    intro i hi l hl
    have hio : i < o.length := by omega
    have hw := w64 (x := (i : Int) + 1) (by omega) (by omega)
    have hll : l.length = i := by rw [hl]; simp; omega
    have ih' := ih (i + 1) (by omega) (l ++ [A.getD o[i] []]) (by rw [hl, ← List.take_append_getElem hio, List.map_append]; rfl)
    have hx := hr _ (List.getElem_mem hio)
    have hxA : o[i] < A.length := by omega
    rw [getD_lt hxA] at ih'
    have hb : (l.length + 1) * 24 ≤ 1099511627776 := by omega
    have K := fun f0 (v : List Int) => apK_1 (H := [[]]) (l := 1) (key := 160) (es := 1) (bytes := 24) (rows := l.map arow) (r := arow v) (fr := fr) (f0 := f0) rfl g160 (by simpa using hb)
    simp only [arow] at K
    rw [ea] at ih' ⊢
    apply WPL_step
    conv => arg 4; whnf
    simp [hio, nrow, hxA, g41, hv, K, arow, hw]
    simpa [nrow, arow] using ih'
end Go.Gh


/- ScorePlaces: the places of the other order. -/
namespace Go.Gh
open Go.Proofs
set_option linter.unusedSimpArgs false
set_option linter.unusedVariables false
set_option linter.unnecessarySimpa false
set_option maxRecDepth 100000
set_option maxHeartbeats 4000000
theorem same10_loop {F : Fr} (PL PM : List Int) (o : List Nat) (n : Nat) (h1 : PL.length = n) (h2 : PM.length = n) (ho : o.length = n) (hr : ∀ x ∈ o, x < n) (hn : n ≤ 100)
    (he : ∀ i (a : i < PM.length) (b : i < o.length) (c : o[i] < PL.length), PM[i] = PL[o[i]]) (Q : GX → GSt → Prop)
    (hQ : Q (.exit 10) ⟨[(2, gdead)], F :: [[]], 197⟩) :
    ∀ m i : Nat, i + m = n →
    WPL KC needT 10 (lp Try.f10 5) [9, 15, 19, 21] [2] Q [(9, .pure (.slice (PL.map irow))), (15, .pure (.slice (o.map nrow))), (19, .pure (.slice (PM.map irow))), (21, .pure (.int .i64 (i : Nat)))] (F :: [[]]) 197 := by
  intro m
  induction m with
  | zero =>
    intro i hi
    have : ¬ i < o.length := by omega
    apply WPL_step
    conv => arg 4; whnf
    simp [this]
    simpa using hQ
  | succ m ih =>
    intro i hi
    have hio : i < o.length := by omega
    have hiM : i < PM.length := by omega
    have hx := hr _ (List.getElem_mem hio)
    have hxL : o[i] < PL.length := by omega
    have hw := w64 (x := (i : Int) + 1) (by omega) (by omega)
    have ih' := ih (i + 1) (by omega)
    have e := he i hiM hio hxL
    apply WPL_step
    conv => arg 4; whnf
    simp [hio, hiM, hxL, nrow, irow, e, hw]
    simpa [irow, nrow] using ih'
end Go.Gh


/- Rank on answers in a block: the frame behind it, told. -/
namespace Go.Gh
open Go.Proofs
set_option linter.unusedSimpArgs false
set_option linter.unusedVariables false
set_option linter.unnecessarySimpa false
set_option maxRecDepth 100000
set_option maxHeartbeats 4000000
variable {c : Nat}
theorem Rank_exp {key : Nat} {F : Fr} (s : Scoring) (hs : s.keys.length ≤ 1000000) (t : List Int) (ht : t.length ≤ 1000000) {A : List (List Int)} (h0 : A ≠ []) {v : Nat} {ro : Bool} (hv : v ≤ A.length) (hF : F.get key = some (.arr 1 (A.map arow) v ro)) (bA : ∀ a ∈ A, a.length ≤ 1000000) (hA : A.length ≤ 1000000) :
    gcall KC (geval KC) 33 [.pure (.agg s.row), .pure (.slice (t.map irow)), .hdr (1, key) 1 A.length 0 A.length] c (F :: [[]]) = some (.pure (.tuple (rankT s t A)), F.ins key (.arr 1 (A.map arow) v true) :: [[]]) := by
  have hr : List.take A.length (A.map arow) = A.map arow := List.take_of_length_le (by simp)
  have e : frzVals (F :: [[]]) [.pure (.agg s.row), .pure (.slice (t.map irow)), .hdr (1, key) 1 A.length 0 A.length] = ([.pure (.agg s.row), .pure (.slice (t.map irow)), .pure (.slice (A.map arow))], F.ins key (.arr 1 (A.map arow) v true) :: [[]]) := by
    simp [frzVals, frzVal, frzCell, hF, hv, hr]
  rw [gcall_frz' rfl rfl rfl, e]
  exact Rank_ok0 s hs t ht A bA hA (by simp)
theorem apF_ne {key es : Nat} {rows : List (List PV)} {fr : Fr} (h : rows ≠ []) : apF key es rows fr = fr.ins key (.arr es rows 0 false) := by
  unfold apF; rw [if_neg h]
end Go.Gh


/- An order as natural numbers. -/
namespace Go.Gh
open Go.Proofs
set_option linter.unusedSimpArgs false
set_option linter.unusedVariables false
set_option linter.unnecessarySimpa false
theorem order_nat {n : Nat} (wd : Int) (hn : n ≤ 1000000) : ∃ (o : List Nat) (w' : Int), orderV n wd = (o.map Int.ofNat, w') ∧ o.Perm (List.range n) := by
  have h := orderV_perm wd hn
  refine ⟨(orderV n wd).1.map Int.toNat, (orderV n wd).2, ?_, ?_⟩
  · have e : ((orderV n wd).1.map Int.toNat).map Int.ofNat = (orderV n wd).1 := by
      rw [List.map_map]
      have : ∀ x ∈ (orderV n wd).1, (Int.ofNat ∘ Int.toNat) x = x := fun x hx => by
        have := h.mem_iff.1 hx
        rw [List.mem_map] at this
        obtain ⟨k, _, rfl⟩ := this
        rfl
      rw [List.map_congr_left this]; simp
    rw [e]
  · have := h.map Int.toNat
    rw [List.map_map] at this
    have e : (List.range n).map (Int.toNat ∘ Int.ofNat) = List.range n := by
      have e2 : (Int.toNat ∘ Int.ofNat) = id := funext fun x => rfl
      rw [e2, List.map_id]
    rwa [e] at this
theorem irow_nat (o : List Nat) : (o.map Int.ofNat).map irow = o.map nrow := by
  rw [List.map_map]; rfl
end Go.Gh

/- Tables: their errors, by the program. -/
import Derived.Test.YthcpepcmnmlmeaaSg
namespace Go.Gh
open Go.Proofs
set_option linter.unusedSimpArgs false
set_option linter.unusedVariables false
set_option linter.unnecessarySimpa false
set_option maxRecDepth 100000
set_option maxHeartbeats 4000000
variable {c : Nat} {H : Heap}
structure Tab where
  packets : Int
  passed : Int
  state : Int
  answers : List (List Int)
def Tab.row (t : Tab) : List PV := [.int .i64 t.packets, .int .i64 t.passed, .int .i64 t.state, .slice (t.answers.map arow)]
def tb (t : Tab) : Blk := .box [.pure (.int .i64 t.packets), .pure (.int .i64 t.passed), .pure (.int .i64 t.state), .pure (.slice (t.answers.map arow))]
/-- Lists that are not too long. -/
def Sm (t : Tab) : Prop := t.answers.length ≤ 1000000 ∧ ∀ a ∈ t.answers, a.length ≤ 1000000
/-- The error of what a guest wrote. -/
def rowE (p q : Int) (a : List Int) : Int := if wrF a p ≠ 0 then wrF a p else if ((a.drop q.toNat).count (-1) : Int) < p - q then 13 else 0
def rowsE (p q : Int) : List (List Int) → Int
  | [] => 0
  | a :: r => if rowE p q a ≠ 0 then rowE p q a else rowsE p q r
def chkT (t : Tab) : Int :=
  if inB t.packets 1 9 = false then 2 else if inB t.passed 0 t.packets = false then 2 else if inB t.state 1 4 = false then 4 else if t.answers.length = 0 then 6 else if 12 < t.answers.length then 8
  else if rowsE t.packets t.passed t.answers ≠ 0 then rowsE t.packets t.passed t.answers else if 3 ≤ t.state ∧ t.passed < t.packets then 10 else 0
theorem wrF_len {a : List Int} {n : Int} (h : wrF a n = 0) : (a.length : Int) = n := by
  unfold wrF at h
  split at h
  · simp at h
  · omega
theorem chkT_loop (t : Tab) (hs : Sm t) (hp : 1 ≤ t.packets ∧ t.packets ≤ 9) (hq : 0 ≤ t.passed ∧ t.passed ≤ t.packets) (Q : GX → GSt → Prop) (hH : 0 < H.length) : ∀ k i : Nat, i + k = t.answers.length →
    (rowsE t.packets t.passed (t.answers.drop i) = 0 → Q (.exit 1) ⟨[(1, .bptr (H.length, 1) 0), (2, gdead)], [(1, tb t)] :: H, 68⟩) →
    (rowsE t.packets t.passed (t.answers.drop i) ≠ 0 → Q .ret ⟨[(1, .bptr (H.length, 1) 0), (2, .pure (.int .i64 (rowsE t.packets t.passed (t.answers.drop i))))], [(1, tb t)] :: H, 68⟩) →
    WPL KC needT 41 (lp Try.f41 0) [1, 33, 34, 35] [1, 2] Q [(1, .bptr (H.length, 1) 0), (33, .pure (.slice (t.answers.map arow))), (34, .pure (.int .i64 t.answers.length)), (35, .pure (.int .i64 i))] ([(1, tb t)] :: H) 68 := by
  intro k
  induction k with
  | zero =>
    intro i hi h1 h2
    rw [drop_nil (by omega)] at h1
    apply WPL_step
    conv => arg 4; whnf
    have : ¬ i < t.answers.length := by omega
    simp [this, hH, tb]
    exact h1 rfl
  | succ k ih =>
    intro i hi h1 h2
    have hs1 := hs.1
    have hia : i < t.answers.length := by omega
    have hw := w64 (x := (i : Int) + 1) (by omega) (by omega)
    have hla := hs.2 _ (List.getElem_mem hia)
    rw [drop_cons hia] at h1 h2
    unfold rowsE at h1 h2
    obtain ⟨a, ha⟩ : ∃ a, t.answers[i] = a := ⟨_, rfl⟩
    rw [ha] at h1 h2 hla
    have W := fun c (H : Heap) (hH : 0 < H.length) => written_ok (c := c) (H := H) a t.packets hla hH
    have C := fun c (H : Heap) (hH : 0 < H.length) => count_ok (c := c) (H := H) (a.drop t.passed.toNat) (-1) (by simp; omega) hH
    rw [List.map_drop] at C
    have hall : ∀ x : Int, (irow x).length = 1 := fun x => rfl
    have hw2 := w64 (x := t.packets - t.passed) (by omega) (by omega)
    have hq0 : ¬ t.passed < 0 := by omega
    apply WPL_step
    conv => arg 4; whnf
    by_cases he : wrF a t.packets = 0
    · have hlen := wrF_len he
      have e1 : rowE t.packets t.passed a = if ((a.drop t.passed.toNat).count (-1) : Int) < t.packets - t.passed then 13 else 0 := by unfold rowE; rw [if_neg (by simpa using he)]
      have hq1 : t.passed.toNat ≤ a.length := by omega
      have htk : (a.map irow).take a.length = a.map irow := List.take_of_length_le (by simp)
      generalize hcn : ((a.drop t.passed.toNat).count (-1) : Nat) = cn at *
      by_cases hc : (cn : Int) < t.packets - t.passed
      · rw [if_pos hc] at e1
        rw [e1] at h2
        simp [hia, ha, arow, hH, tb, W, C, he, hq0, hq1, htk, hall, hw2, hc]
        exact h2 (by simp)
      · rw [if_neg hc] at e1
        rw [e1] at h1 h2
        simp only [ne_eq, not_true_eq_false, if_false] at h1 h2
        have ih' := ih (i + 1) (by omega) h1 h2
        simp [hia, ha, arow, hH, tb, W, C, he, hq0, hq1, htk, hall, hw2, hc, hw]
        simpa [arow, tb] using ih'
    · have e1 : rowE t.packets t.passed a = wrF a t.packets := by unfold rowE; rw [if_pos he]
      rw [e1] at h2
      have he' : (wrF a t.packets != 0) = true := by simpa using he
      rw [if_pos he] at h2
      simp [hia, ha, arow, hH, tb, W, he']
      exact h2 he
theorem chkT_ok (t : Tab) (hs : Sm t) (hH : 0 < H.length) : gcall KC (geval KC) 41 [.pure (.agg t.row)] c H = some (.pure (.int .i64 (chkT t)), H) := by
  refine WPv_eq (call_enter KC needT Try.func41 rfl rfl good41 rfl rfl rfl (by simp) hH ?_)
  have hs1 := hs.1
  have W := fun c (H : Heap) (hH : 0 < H.length) (x lo hi : Int) => withinP_ok (c := c) (x := x) (lo := lo) (hi := hi) (H := H) hH
  unfold chkT
  by_cases h1 : inB t.packets 1 9 = false
  · simp [Tab.row, W, h1, gleave_free]
  have h1' : inB t.packets 1 9 = true := by simpa using h1
  by_cases h2 : inB t.passed 0 t.packets = false
  · simp [Tab.row, W, h1', h2, gleave_free]
  have h2' : inB t.passed 0 t.packets = true := by simpa using h2
  by_cases h3 : inB t.state 1 4 = false
  · simp [Tab.row, W, h1', h2', h3, gleave_free]
  have h3' : inB t.state 1 4 = true := by simpa using h3
  by_cases h4 : t.answers.length = 0
  · have h5 : t.answers = [] := List.length_eq_zero_iff.1 h4
    simp [Tab.row, W, h1', h2', h3', h5, gleave_free]
  have h4' : ((t.answers.length : Int) == 0) = false := by simp; exact fun e => h4 (by rw [e]; rfl)
  have h4'' : ¬ t.answers = [] := fun e => h4 (by rw [e]; rfl)
  by_cases h5 : 12 < t.answers.length
  · have h6 : (12 : Int) < t.answers.length := by omega
    simp [Tab.row, W, h1', h2', h3', h4, h4', h4'', h5, h6, gleave_free]
  have h6 : ¬ (12 : Int) < t.answers.length := by omega
  have r1 := inB_iff.1 h1'
  have r2 := inB_iff.1 h2'
  have L := fun Q => chkT_loop (H := H) t hs ⟨by omega, by omega⟩ ⟨by omega, by omega⟩ Q hH t.answers.length 0 (by omega)
  simp [tb] at L
  simp [Tab.row, W, h1', h2', h3', h4, h4', h4'', h5, h6]
  refine L _ (fun h => ?_) (fun h => ?_)
  · by_cases h7 : 3 ≤ t.state
    · by_cases h8 : t.passed < t.packets
      · simp [h, h7, h8, gleave_free]
      · simp [h, h7, h8, gleave_free]
    · simp [h, h7, gleave_free]
  · simp [h, gleave_free]
def lateOk (a : List Int) : Bool := a.all fun x => x == -1
theorem lateOk_cons (x : Int) (r : List Int) : lateOk (x :: r) = (x == -1 && lateOk r) := rfl
theorem late_loop (t : Tab) (i : Nat) (a : List Int) (hi : i < t.answers.length) (ha : t.answers[i] = a) (hlen : (a.length : Int) = t.packets) (hp : t.packets ≤ 9) (Q : GX → GSt → Prop) (hH : 0 < H.length) : ∀ j k : Nat, k + j = a.length →
    (lateOk (a.drop k) = true → Q (.exit 2) ⟨[(1, .bptr (H.length, 1) 0), (2, gdead), (3, .pure (.int .i64 i))], [] :: [(1, tb t)] :: H, 80⟩) →
    (lateOk (a.drop k) = false → Q .ret ⟨[(1, .bptr (H.length, 1) 0), (2, .pure (.int .i64 13)), (3, .pure (.int .i64 i))], [] :: [(1, tb t)] :: H, 80⟩) →
    WPL KC needT 42 (lp Try.f42 1) [1, 3, 5] [1, 2, 3] Q [(1, .bptr (H.length, 1) 0), (3, .pure (.int .i64 i)), (5, .pure (.int .i64 k))] ([] :: [(1, tb t)] :: H) 80 := by
  intro j
  induction j with
  | zero =>
    intro k hk h1 h2
    rw [drop_nil (by omega)] at h1
    apply WPL_step
    conv => arg 4; whnf
    have : ¬ (k : Int) < t.packets := by omega
    simp [this, hH, tb]
    exact h1 rfl
  | succ j ih =>
    intro k hk h1 h2
    have hka : k < a.length := by omega
    have hkp : (k : Int) < t.packets := by omega
    have hw := w64 (x := (k : Int) + 1) (by omega) (by omega)
    rw [drop_cons hka, lateOk_cons] at h1 h2
    have ih' := ih (k + 1) (by omega)
    apply WPL_step
    conv => arg 4; whnf
    by_cases he : a[k] = -1
    · have ih2 := ih' (fun h => h1 (by simp [he, h])) (fun h => h2 (by simp [he, h]))
      simp [hi, hka, hkp, arow, irow, tb, hH, ha, he, hw]
      simpa [tb, arow, irow] using ih2
    · have he' : (a[k] == -1) = false := by simpa using he
      have he2 : (a[k] != -1) = true := by simpa using he
      simp [hi, hka, hkp, arow, irow, tb, hH, ha, he2]
      exact h2 (by simp [he'])
theorem all_count (l : List Int) : lateOk l = true ↔ l.count (-1) = l.length := by
  unfold lateOk
  rw [List.count_eq_length]
  simp only [List.all_eq_true, beq_iff_eq]
  exact ⟨fun h x hx => (h x hx).symm, fun h x hx => (h x hx).symm⟩
theorem rowE_late {a : List Int} {p q : Int} (h : (a.length : Int) = p) (hw : wrF a p = 0) (hq : 0 ≤ q ∧ q ≤ p) : rowE p q a = if lateOk (a.drop q.toNat) = true then 0 else 13 := by
  unfold rowE
  rw [if_neg (by simpa using hw)]
  have hl : ((a.drop q.toNat).length : Int) = p - q := by simp; omega
  have hc : (a.drop q.toNat).count (-1) ≤ (a.drop q.toNat).length := List.count_le_length
  by_cases hall : lateOk (a.drop q.toNat) = true
  · have := (all_count _).1 hall
    rw [if_pos hall, if_neg (by omega)]
  · have : (a.drop q.toNat).count (-1) ≠ (a.drop q.toNat).length := fun e => hall ((all_count _).2 e)
    rw [if_neg hall, if_pos (by omega)]
theorem chkTR_loop (t : Tab) (hs : Sm t) (hp : 1 ≤ t.packets ∧ t.packets ≤ 9) (hq : 0 ≤ t.passed ∧ t.passed ≤ t.packets) (Q : GX → GSt → Prop) (hH : 0 < H.length) : ∀ k i : Nat, i + k = t.answers.length →
    (rowsE t.packets t.passed (t.answers.drop i) = 0 → Q (.exit 0) ⟨[(1, .bptr (H.length, 1) 0), (2, gdead)], [(1, tb t)] :: H, 80⟩) →
    (rowsE t.packets t.passed (t.answers.drop i) ≠ 0 → Q .ret ⟨[(1, .bptr (H.length, 1) 0), (2, .pure (.int .i64 (rowsE t.packets t.passed (t.answers.drop i))))], [(1, tb t)] :: H, 80⟩) →
    WPL KC needT 42 (lp Try.f42 0) [1, 3] [1, 2] Q [(1, .bptr (H.length, 1) 0), (3, .pure (.int .i64 i))] ([(1, tb t)] :: H) 80 := by
  intro k
  induction k with
  | zero =>
    intro i hi h1 h2
    rw [drop_nil (by omega)] at h1
    apply WPL_step
    conv => arg 4; whnf
    have : ¬ i < t.answers.length := by omega
    simp [this, hH, tb]
    exact h1 rfl
  | succ k ih =>
    intro i hi h1 h2
    have hs1 := hs.1
    have hia : i < t.answers.length := by omega
    have hw := w64 (x := (i : Int) + 1) (by omega) (by omega)
    have hla := hs.2 _ (List.getElem_mem hia)
    rw [drop_cons hia] at h1 h2
    unfold rowsE at h1 h2
    obtain ⟨a, ha⟩ : ∃ a, t.answers[i] = a := ⟨_, rfl⟩
    rw [ha] at h1 h2 hla
    have W := fun c (H : Heap) (hH : 0 < H.length) => checkAnswer_ok (c := c) (H := H) a t.packets hla hH
    apply WPL_step
    conv => arg 4; whnf
    by_cases he : wrF a t.packets = 0
    · have hlen := wrF_len he
      have e1 := rowE_late hlen he hq
      obtain ⟨q, hqn⟩ : ∃ q : Nat, t.passed = (q : Int) := ⟨t.passed.toNat, by omega⟩
      have L := fun Q => late_loop (H := H) t i a hia ha hlen (by omega) Q hH (a.length - q) q (by omega)
      rw [hqn] at e1
      simp only [Int.toNat_natCast] at e1
      rw [hqn] at h1 h2
      simp [tb, hqn] at L
      simp [hia, ha, arow, hH, tb, W, he, hqn]
      refine L _ (fun h => ?_) (fun h => ?_)
      · have hall : lateOk (a.drop q) = true := h
        rw [if_pos hall] at e1
        rw [e1] at h1 h2
        simp only [ne_eq, not_true_eq_false, if_false] at h1 h2
        have ih' := ih (i + 1) (by omega) (by rw [hqn]; exact h1) (by rw [hqn]; exact h2)
        simp [hH, hw]
        simpa [arow, tb, hqn] using ih'
      · have hall : ¬ lateOk (a.drop q) = true := by rw [h]; simp
        rw [if_neg hall] at e1
        rw [e1] at h2
        simp [hH]
        simpa [tb, hqn] using h2 (by simp)
    · have e1 : rowE t.packets t.passed a = wrF a t.packets := by unfold rowE; rw [if_pos he]
      rw [e1] at h2
      have he' : (wrF a t.packets != 0) = true := by simpa using he
      rw [if_pos he] at h2
      simp [hia, ha, arow, hH, tb, W, he']
      exact h2 he
theorem chkTR_ok (t : Tab) (hs : Sm t) (hH : 0 < H.length) : gcall KC (geval KC) 42 [.pure (.agg t.row)] c H = some (.pure (.int .i64 (chkT t)), H) := by
  refine WPv_eq (call_enter KC needT Try.func42 rfl rfl good42 rfl rfl rfl (by simp) hH ?_)
  have hs1 := hs.1
  have W := fun c (H : Heap) (hH : 0 < H.length) (x lo hi : Int) => withinR_ok (c := c) (x := x) (lo := lo) (hi := hi) (H := H) hH
  unfold chkT
  by_cases h1 : inB t.packets 1 9 = false
  · simp [Tab.row, W, h1, gleave_free]
  have h1' : inB t.packets 1 9 = true := by simpa using h1
  by_cases h2 : inB t.passed 0 t.packets = false
  · simp [Tab.row, W, h1', h2, gleave_free]
  have h2' : inB t.passed 0 t.packets = true := by simpa using h2
  by_cases h3 : inB t.state 1 4 = false
  · simp [Tab.row, W, h1', h2', h3, gleave_free]
  have h3' : inB t.state 1 4 = true := by simpa using h3
  by_cases h4 : t.answers.length = 0
  · have h5 : t.answers = [] := List.length_eq_zero_iff.1 h4
    simp [Tab.row, W, h1', h2', h3', h5, gleave_free]
  have h4' : ((t.answers.length : Int) == 0) = false := by simp; exact fun e => h4 (by rw [e]; rfl)
  have h4'' : ¬ t.answers = [] := fun e => h4 (by rw [e]; rfl)
  by_cases h5 : 12 < t.answers.length
  · have h6 : (12 : Int) < t.answers.length := by omega
    simp [Tab.row, W, h1', h2', h3', h4, h4', h4'', h5, h6, gleave_free]
  have h6 : ¬ (12 : Int) < t.answers.length := by omega
  have r1 := inB_iff.1 h1'
  have r2 := inB_iff.1 h2'
  have r3 := inB_iff.1 h3'
  have L := fun Q => chkTR_loop (H := H) t hs ⟨by omega, by omega⟩ ⟨by omega, by omega⟩ Q hH t.answers.length 0 (by omega)
  simp [tb] at L
  simp [Tab.row, W, h1', h2', h3', h4, h4', h4'', h5, h6]
  refine L _ (fun h => ?_) (fun h => ?_)
  · have st : (t.state == 3 || t.state == 4) = decide (3 ≤ t.state) := by
      by_cases a : t.state = 3
      · simp [a]
      · by_cases b : t.state = 4
        · simp [b]
        · have : ¬ 3 ≤ t.state := by omega
          simp [a, b, this]
    by_cases a : t.state = 3
    · by_cases h8 : t.passed < t.packets
      · simp [h, a, h8, gleave_free]
      · simp [h, a, h8, gleave_free]
    · have a' : (t.state == 3) = false := by simpa using a
      by_cases b : t.state = 4
      · by_cases h8 : t.passed < t.packets
        · simp [h, b, h8, gleave_free]
        · simp [h, b, h8, gleave_free]
      · have b' : (t.state == 4) = false := by simpa using b
        have : ¬ 3 ≤ t.state := by omega
        simp [h, a', b', this, gleave_free]
  · simp [h, gleave_free]
end Go.Gh


/- Tables that are equal; copies of tables. -/
namespace Go.Gh
open Go.Proofs
set_option linter.unusedSimpArgs false
set_option linter.unusedVariables false
set_option linter.unnecessarySimpa false
set_option maxRecDepth 100000
set_option maxHeartbeats 4000000
variable {c : Nat} {H : Heap}
theorem eqLs_loop (l : List (List Int)) (hn : l.length ≤ 1000000) (hs : ∀ a ∈ l, a.length ≤ 1000000) (Q : GX → GSt → Prop) (hH : 0 < H.length) : ∀ k i : Nat, i + k = l.length →
    Q (.exit 0) ⟨[(4, gdead)], H, 27⟩ →
    WPL KC needT 86 (lp Try.f86 0) [0, 1, 5] [4] Q [(0, .pure (.slice (l.map arow))), (1, .pure (.slice (l.map arow))), (5, .pure (.int .i64 i))] H 27 := by
  intro k
  induction k with
  | zero =>
    intro i hi h1
    apply WPL_step
    conv => arg 4; whnf
    have : ¬ i < l.length := by omega
    simp [this, hH]
    exact h1
  | succ k ih =>
    intro i hi h1
    have hia : i < l.length := by omega
    have hw := w64 (x := (i : Int) + 1) (by omega) (by omega)
    have ih' := ih (i + 1) (by omega) h1
    have hla := hs _ (List.getElem_mem hia)
    have E := fun c (H : Heap) (hH : 0 < H.length) => eqI_ok (c := c) (H := H) l[i] hla hH
    apply WPL_step
    conv => arg 4; whnf
    simp [hia, hH, arow, hw, E]
    simpa [arow] using ih'
theorem eqLs_ok (l : List (List Int)) (hn : l.length ≤ 1000000) (hs : ∀ a ∈ l, a.length ≤ 1000000) (hH : 0 < H.length) :
    gcall KC (geval KC) 86 [.pure (.slice (l.map arow)), .pure (.slice (l.map arow))] c H = some (.pure (.bool true), H) := by
  refine WPv_eq (call_enter KC needT Try.func86 rfl rfl good86 rfl rfl rfl (by simp) hH ?_)
  simp
  refine eqLs_loop (H := [] :: H) l hn hs _ (by simp) l.length 0 (by omega) ?_
  simp [gleave_free]
theorem eqT_ok (t : Tab) (hs : Sm t) (hH : 0 < H.length) :
    gcall KC (geval KC) 43 [.pure (.agg t.row), .pure (.agg t.row)] c H = some (.pure (.bool true), H) := by
  refine WPv_eq (call_enter KC needT Try.func43 rfl rfl good43 rfl rfl rfl (by simp) hH ?_)
  have E := fun c (H : Heap) (hH : 0 < H.length) => eqLs_ok (c := c) (H := H) t.answers hs.1 hs.2 hH
  simp [Tab.row, E, gleave_free]
def zb64 : Blk := .box [.pure (.int .i64 0), .pure (.int .i64 0), .pure (.int .i64 0), .nils]
def oFr (L : Nat) (t : Tab) (rows : List (List Int)) : Fr := apF 22 1 (rows.map arow) [(1, .box [.pure (.int .i64 t.packets), .pure (.int .i64 t.passed), .pure (.int .i64 t.state), apS (L, 22) 1 (rows.map arow)]), (2, zb64)]
theorem own_loop (t : Tab) (hs : Sm t) (Q : GX → GSt → Prop) (h1 : Q (.exit 0) ⟨[(1, .bptr (H.length, 1) 0), (2, .bptr (H.length, 2) 0)], oFr H.length t t.answers :: H, 25⟩) : ∀ (k i : Nat) (rows : List (List Int)), i + k = t.answers.length → rows = t.answers.take i →
    WPL KC needT 38 (lp Try.f38 0) [1, 2, 3, 4] [1, 2] Q [(1, .bptr (H.length, 1) 0), (2, .bptr (H.length, 2) 0), (3, .pure (.slice (t.answers.map arow))), (4, .pure (.int .i64 (i : Nat)))] (oFr H.length t rows :: H) 25 := by
  have hs1 := hs.1
  intro k
  induction k with
  | zero =>
    intro i rows hi hr
    have e : rows = t.answers := by rw [hr, List.take_of_length_le (by omega)]
    apply WPL_step
    conv => arg 4; whnf
    have : ¬ i < t.answers.length := by omega
    simp [this]
    rw [e]
    exact h1
  | succ k ih =>
    intro i rows hi hr
    have hia : i < t.answers.length := by omega
    have hw := w64 (x := (i : Int) + 1) (by omega) (by omega)
    have hla := hs.2 _ (List.getElem_mem hia)
    have ih' := ih (i + 1) (rows ++ [t.answers[i]]) (by omega) (by rw [hr, List.take_succ_eq_append_getElem hia])
    have hrl : rows.length = i := by rw [hr]; simp; omega
    have I := fun c (H : Heap) (hH : 0 < H.length) => ints_ok (c := c) (H := H) t.answers[i] hla hH
    have hb : (rows.length + 1) * 24 ≤ 1099511627776 := by omega
    have A := fun f0 fr (hf : Fr.get fr 22 = none) => apK_1 (H := H) (l := H.length) (key := 22) (es := 1) (bytes := 24) (rows := rows.map arow) (r := arow t.answers[i]) (fr := fr) (f0 := f0) rfl hf (by simpa using hb)
    simp only [arow] at A
    apply WPL_step
    conv => arg 4; whnf
    simp [oFr, hia, arow, I, A, hw, zb64]
    simpa [oFr, arow, zb64] using ih'
theorem own_ok (t : Tab) (hs : Sm t) (hH : 0 < H.length) : gcall KC (geval KC) 38 [.pure (.agg t.row)] c H = some (.pure (.agg t.row), H) := by
  refine WPv_eq (call_enter KC needT Try.func38 rfl rfl good38 rfl rfl rfl (by simp) hH ?_)
  have L := fun Q h1 => own_loop (H := H) t hs Q h1 t.answers.length 0 [] (by omega) rfl
  simp [oFr, zb64, apS_nil, apF_nil] at L
  simp [Tab.row]
  refine L _ ?_
  simp
  rw [gleave_free]
  · rw [WPv_some, clean_agg]
    simp only [List.map_cons, List.map_nil, clean1_pure]
    rw [clean1_apS rfl (by omega) (fun hne => apF_self hne)]
    by_cases hk : t.answers = []
    · simp [hk]
    · have : t.answers.map arow ≠ [] := by simpa using hk
      rw [if_neg this]
      simp
  · simp
end Go.Gh


/- Tables made of numbers. -/
namespace Go.Gh
open Go.Proofs
set_option linter.unusedSimpArgs false
set_option linter.unusedVariables false
set_option linter.unnecessarySimpa false
set_option maxRecDepth 100000
set_option maxHeartbeats 4000000
variable {c : Nat} {H : Heap}
theorem any3 {nm : Nm} (hlt : nm.1 < H.length) (f2 f1 f0 : Fr) (w : Int) {lo hi : Int} : gcall KC (geval KC) 25 [.bptr nm 0, .pure (.int .i64 lo), .pure (.int .i64 hi)] c (f2 :: f1 :: f0 :: H.set nm (wbox w)) = some (.pure (.int .i64 (anyR w lo hi).1), f2 :: f1 :: f0 :: H.set nm (wbox (anyR w lo hi).2)) := by
  have hB : isBox (f2 :: f1 :: f0 :: H.set nm (wbox w)) nm := isBox_up (isBox_up (isBox_up (isBox_set' hlt)))
  have := any_ok (c := c) (lo := lo) (hi := hi) hB
  have e1 : wordAt (f2 :: f1 :: f0 :: H.set nm (wbox w)) nm = w := by
    rw [wordAt_up (by simp [Heap.length_set]; omega), wordAt_up (by simp [Heap.length_set]; omega), wordAt_up (by simpa [Heap.length_set] using hlt), wordAt_set hlt]
  rw [e1] at this
  rw [this, Heap.set_up (by simp [Heap.length_set]; omega), Heap.set_up (by simp [Heap.length_set]; omega), Heap.set_up (by simpa [Heap.length_set] using hlt), Heap.set_set]
/-- What a guest may have written where so many packets were passed. -/
def RowOk (q : Int) (l : List Int) : Prop := AnsOk l ∧ ∀ k, (h : k < l.length) → q ≤ k → l[k] = -1
theorem RowOk.nil (q : Int) : RowOk q [] := ⟨fun x hx => absurd hx List.not_mem_nil, fun k hk => by simp at hk⟩
theorem RowOk.snoc {q : Int} {l : List Int} (h : RowOk q l) {x : Int} (h1 : -1 ≤ x) (h2 : x ≤ 8) (h3 : q ≤ l.length → x = -1) : RowOk q (l ++ [x]) := by
  refine ⟨fun y hy => ?_, fun k hk hq => ?_⟩
  · rcases List.mem_append.1 hy with h' | h'
    · exact h.1 y h'
    · simp at h'; subst h'; exact ⟨h1, h2⟩
  · by_cases e : k = l.length
    · subst e; simpa using h3 hq
    · have hk' : k < l.length := by simp at hk; omega
      rw [List.getElem_append_left hk']; exact h.2 k hk' hq
def tFr (L : Nat) (p q s : Int) (rows : List (List Int)) : Fr := apF 59 1 (rows.map arow) [(6, zb64), (7, .box [.pure (.int .i64 p), .pure (.int .i64 q), .pure (.int .i64 s), apS (L, 59) 1 (rows.map arow)])]
theorem tabI_loop {nm : Nm} (hlt : nm.1 < H.length) (p : Nat) (q s : Int) (hp : p ≤ 9) (rows : List (List Int)) (i : Int) (Q : GX → GSt → Prop)
    (hQ : ∀ (l : List Int) (w : Int), l.length = p → RowOk q l → Q (.exit 2) ⟨[(0, .bptr nm 0), (6, .bptr (H.length, 6) 0), (7, .bptr (H.length, 7) 0), (8, .pure (.int .i64 i)), (9, apS (H.length + 1, 54) 1 (l.map irow))], apF 54 1 (l.map irow) [] :: tFr H.length p q s rows :: H.set nm (wbox w), 62⟩) :
    ∀ (j k : Nat) (l : List Int) (w : Int), k + j = p → l.length = k → RowOk q l →
    WPL KC needT 36 (lp Try.f36 1) [0, 6, 7, 8, 9, 10] [0, 6, 7, 8, 9] Q [(0, .bptr nm 0), (6, .bptr (H.length, 6) 0), (7, .bptr (H.length, 7) 0), (8, .pure (.int .i64 i)), (9, apS (H.length + 1, 54) 1 (l.map irow)), (10, .pure (.int .i64 (k : Nat)))] (apF 54 1 (l.map irow) [] :: tFr H.length p q s rows :: H.set nm (wbox w)) 62 := by
  have hle : nm.1 ≤ H.length := by omega
  have hle1 : nm.1 ≤ H.length + 1 := by omega
  have hl2 : ∀ w, (H.set nm (wbox w)).length = H.length := fun w => Heap.length_set _ _ _
  intro j
  induction j with
  | zero =>
    intro k l w hk hl hr
    have e : k = p := by omega
    apply WPL_step
    conv => arg 4; whnf
    have : ¬ k < p := by omega
    simp [this, tFr, hl2, hle, hle1]
    simpa [tFr] using hQ l w (by omega) hr
  | succ j ih =>
    intro k l w hk hl hr
    have hkp : k < p := by omega
    have hw := w64 (x := (k : Int) + 1) (by omega) (by omega)
    have hb : (l.length + 1) * 8 ≤ 1099511627776 := by omega
    have A := fun f0 (v w' : Int) => apK_1 (H := tFr H.length p q s rows :: H.set nm (wbox w')) (l := H.length + 1) (key := 54) (es := 1) (bytes := 8) (rows := l.map irow) (r := irow v) (fr := []) (f0 := f0) (by simp [hl2]) rfl (by simpa using hb)
    simp only [irow, tFr] at A
    have Y := fun c f2 f1 f0 w (lo hi : Int) => any3 (c := c) (H := H) hlt f2 f1 f0 w (lo := lo) (hi := hi)
    apply WPL_step
    conv => arg 4; whnf
    by_cases hq : (k : Int) < q
    · obtain ⟨v, w1, e1⟩ : ∃ v w1, anyR w (-1) 8 = (v, w1) := ⟨_, _, rfl⟩
      have hv := anyR_rng w (-1) 8 (by omega) (by omega) (by omega)
      rw [e1] at hv
      have ih' := ih (k + 1) (l ++ [v]) w1 (by omega) (by simp [hl]) (hr.snoc hv.1 hv.2 (fun h => by omega))
      simp [hkp, tFr, hl2, hle, hle1, hq, Y, e1, A, irow, hw]
      simpa [tFr, irow] using ih'
    · have ih' := ih (k + 1) (l ++ [-1]) w (by omega) (by simp [hl]) (hr.snoc (by omega) (by omega) (fun _ => rfl))
      simp [hkp, tFr, hl2, hle, hle1, hq, A, irow, hw]
      simpa [tFr, irow] using ih'
theorem tabO_loop {nm : Nm} (hlt : nm.1 < H.length) (N p : Nat) (hN : N ≤ 12) (q s : Int) (hp : p ≤ 9) (hp0 : 1 ≤ p) (Q : GX → GSt → Prop)
    (hQ : ∀ (rows : List (List Int)) (w : Int), rows.length = N → (∀ a ∈ rows, a.length = p ∧ RowOk q a) → Q (.exit 0) ⟨[(6, .bptr (H.length, 6) 0), (7, .bptr (H.length, 7) 0)], tFr H.length p q s rows :: H.set nm (wbox w), 62⟩) :
    ∀ (i : Nat) (rows : List (List Int)) (w : Int), i + rows.length = N → (∀ a ∈ rows, a.length = p ∧ RowOk q a) →
    WPL KC needT 36 (lp Try.f36 0) [0, 6, 7, 8] [6, 7] Q [(0, .bptr nm 0), (6, .bptr (H.length, 6) 0), (7, .bptr (H.length, 7) 0), (8, .pure (.int .i64 (i : Nat)))] (tFr H.length p q s rows :: H.set nm (wbox w)) 62 := by
  have hle : nm.1 ≤ H.length := by omega
  have hl2 : ∀ w, (H.set nm (wbox w)).length = H.length := fun w => Heap.length_set _ _ _
  intro i
  induction i with
  | zero =>
    intro rows w hi ha
    apply WPL_step
    conv => arg 4; whnf
    simp [tFr, hl2]
    simpa [tFr] using hQ rows w (by omega) ha
  | succ i ih =>
    intro rows w hi ha
    have e1 : (i : Int) + 1 - 1 = i := by omega
    have hw := w64 (x := (i : Int) + 1 - 1) (by omega) (by omega)
    rw [e1] at hw
    have k0 : (0 : Int) < (i : Int) + 1 := by omega
    have L := fun Q hQ => tabI_loop (H := H) hlt p q s hp rows ((i : Int) + 1) Q hQ p 0 [] w (by omega) rfl (.nil q)
    simp [tFr, apS_nil, apF_nil] at L
    apply WPL_step
    conv => arg 4; whnf
    simp [tFr, hl2, k0, hle]
    refine L _ (fun l w1 hl hr => ?_)
    have ih' := ih (rows ++ [l]) w1 (by simp; omega) (fun a h => by
      rcases List.mem_append.1 h with h | h
      · exact ha a h
      · simp at h; subst h; exact ⟨hl, hr⟩)
    have hne : l.map irow ≠ [] := by
      intro e; have := congrArg List.length e; simp at this; subst this; simp at hl; omega
    have hb : (rows.length + 1) * 24 ≤ 1099511627776 := by omega
    have A := fun f0 fr (hf : Fr.get fr 59 = none) => apK_1 (H := H.set nm (wbox w1)) (l := H.length) (key := 59) (es := 1) (bytes := 24) (rows := rows.map arow) (r := arow l) (fr := fr) (f0 := f0) (hl2 _) hf (by simpa using hb)
    simp only [arow] at A
    have hS : apS (H.length + 1, 54) 1 (l.map irow) = .hdr (H.length + 1, 54) 1 l.length 0 l.length := by unfold apS; rw [if_neg hne]; simp
    have hF := apF_self (key := 54) (es := 1) (fr := []) hne
    have htk : (l.map irow).take l.length = l.map irow := List.take_of_length_le (by simp)
    rw [hS]
    simp [hF, hl2, htk, A, arow, hw, e1, hle, zb64]
    simpa [tFr, arow, zb64] using ih'
/-- A table that may be. -/
structure TOk (t : Tab) : Prop where
  pk : 1 ≤ t.packets ∧ t.packets ≤ 9
  ps : 0 ≤ t.passed ∧ t.passed ≤ t.packets
  st : 1 ≤ t.state ∧ t.state ≤ 4
  cl : 3 ≤ t.state → t.passed = t.packets
  n : 1 ≤ t.answers.length ∧ t.answers.length ≤ 12
  row : ∀ a ∈ t.answers, (a.length : Int) = t.packets ∧ RowOk t.passed a
theorem TOk.sm {t : Tab} (h : TOk t) : Sm t := ⟨by have := h.n; omega, fun a ha => by have := (h.row a ha).1; have := h.pk; omega⟩
theorem RowOk.row {p q : Int} {a : List Int} (hl : (a.length : Int) = p) (hq : 0 ≤ q ∧ q ≤ p) (h : RowOk q a) : rowE p q a = 0 := by
  have hw : wrF a p = 0 := by
    have := h.1.wr (n := a.length) rfl
    rwa [hl] at this
  rw [rowE_late hl hw hq, if_pos]
  unfold lateOk
  rw [List.all_eq_true]
  intro x hx
  obtain ⟨k, hk, rfl⟩ := List.getElem_of_mem hx
  have hk' : q.toNat + k < a.length := by simp at hk; omega
  have := h.2 (q.toNat + k) hk' (by omega)
  simp only [List.getElem_drop, beq_iff_eq]
  exact this
theorem rowsE_zero {p q : Int} : ∀ {l : List (List Int)}, (∀ a ∈ l, rowE p q a = 0) → rowsE p q l = 0
  | [], _ => rfl
  | a :: r, h => by
    have h0 := h a (List.mem_cons_self ..)
    unfold rowsE
    rw [if_neg (not_not_intro h0)]
    exact rowsE_zero fun x hx => h x (List.mem_cons_of_mem _ hx)
theorem TOk.chk {t : Tab} (h : TOk t) : chkT t = 0 := by
  have h1 := h.pk; have h2 := h.ps; have h3 := h.st; have h4 := h.n
  have hr := rowsE_zero (p := t.packets) (q := t.passed) (l := t.answers) fun a ha => (h.row a ha).2.row (h.row a ha).1 h2
  unfold chkT
  rw [inB_iff.2 ⟨by omega, by omega⟩, inB_iff.2 ⟨by omega, by omega⟩, inB_iff.2 ⟨by omega, by omega⟩, hr]
  have e0 : ¬ t.answers = [] := fun e => by rw [e] at h4; simp at h4
  have h5 : ¬ (3 ≤ t.state ∧ t.passed < t.packets) := fun h' => by have := h.cl h'.1; omega
  have h6 : ¬ 12 < t.answers.length := by omega
  simp [e0, h5, h6]
theorem pick4 (w x : Int) (h : 1 ≤ x ∧ x ≤ 4) : ∃ v w', pickR w [1, 1, 1, x] = (v, w') ∧ 1 ≤ v ∧ v ≤ 4 := by
  refine ⟨(pickR w [1, 1, 1, x]).1, (pickR w [1, 1, 1, x]).2, rfl, ?_⟩
  rw [pickR_def]
  have hr := upR_rng w 4 (by omega)
  simp only [List.length_cons, List.length_nil]
  rw [if_neg (by omega)]
  have : (upR w 4).1 = 0 ∨ (upR w 4).1 = 1 ∨ (upR w 4).1 = 2 ∨ (upR w 4).1 = 3 := by omega
  show 1 ≤ [1, 1, 1, x].getD (upR w 4).1.toNat 0 ∧ [1, 1, 1, x].getD (upR w 4).1.toNat 0 ≤ 4
  rcases this with e | e | e | e <;> rw [e] <;> simp <;> omega
theorem table_ok0 {nm : Nm} (hlt : nm.1 < H.length) (w0 : Int) (P G : Nat) (hP : 1 ≤ P ∧ P ≤ 9) (hG : 1 ≤ G ∧ G ≤ 12) : ∃ t wd, TOk t ∧ gcall KC (geval KC) 36 [.bptr nm 0, .pure (.int .i64 (P : Nat)), .pure (.int .i64 (G : Nat))] c (H.set nm (wbox w0)) = some (.pure (.agg t.row), H.set nm (wbox wd)) := by
  have hle : nm.1 ≤ H.length := by omega
  have hl2 : ∀ w, (H.set nm (wbox w)).length = H.length := fun w => Heap.length_set _ _ _
  suffices hs : WPv (gcall KC (geval KC) 36 [.bptr nm 0, .pure (.int .i64 (P : Nat)), .pure (.int .i64 (G : Nat))] c (H.set nm (wbox w0))) (fun x => ∃ t wd, TOk t ∧ x = (.pure (.agg t.row), H.set nm (wbox wd))) by
    obtain ⟨x, hx, t, wd, h1, e⟩ := hs
    exact ⟨t, wd, h1, by rw [hx, e]⟩
  refine call_enter KC needT Try.func36 rfl rfl good36 rfl rfl rfl (by simp) (by rw [hl2]; omega) ?_
  obtain ⟨p, w1, e1, p1, p2⟩ := anyR_get w0 P (by omega) (by omega)
  obtain ⟨x, w2, e2⟩ : ∃ x w2, anyR w1 1 4 = (x, w2) := ⟨_, _, rfl⟩
  have hx := anyR_rng w1 1 4 (by omega) (by omega) (by omega)
  rw [e2] at hx
  obtain ⟨s, w3, e3, s1, s2⟩ := pick4 w2 x hx
  obtain ⟨q, w4, e4⟩ : ∃ q w4, anyR w3 0 p = (q, w4) := ⟨_, _, rfl⟩
  have hq := anyR_rng w3 0 p (by omega) (by omega) (by omega)
  rw [e4] at hq
  simp only at hq hx
  obtain ⟨n, w5, e5, n1, n2⟩ := anyR_get w4 G (by omega) (by omega)
  have Y := fun c f0 w (lo hi : Int) => any1 (c := c) (H := H) hlt f0 w (lo := lo) (hi := hi)
  have K := fun c f0 w => pick1 (c := c) (H := H) hlt f0 w (l := [1, 1, 1, x]) (by simp)
  simp [irow] at K
  have fin : ∀ (q' : Int) (hq' : 0 ≤ q' ∧ q' ≤ p) (hc : 3 ≤ s → q' = p) (rows : List (List Int)) (w : Int), rows.length = n → (∀ a ∈ rows, a.length = p ∧ RowOk q' a) → TOk ⟨p, q', s, rows⟩ := fun q' hq' hc rows w hl ha =>
    ⟨⟨by simp only; omega, by simp only; omega⟩, ⟨hq'.1, hq'.2⟩, ⟨s1, s2⟩, hc, ⟨by simp only; omega, by simp only; omega⟩, fun a h => ⟨by simp only; have := (ha a h).1; omega, (ha a h).2⟩⟩
  by_cases hs3 : 3 ≤ s
  · have L := fun Q hQ => tabO_loop (H := H) hlt n p (by omega) p s (by omega) (by omega) Q hQ n [] w5 rfl (fun a h => absurd h List.not_mem_nil)
    simp [tFr, zb64, apS_nil, apF_nil] at L
    simp [hl2, hle, Y, e1, e2, e3, e4, e5, K, hs3]
    refine L _ (fun rows w hl ha => ?_)
    have T := fin p ⟨by omega, by omega⟩ (fun _ => rfl) rows w hl ha
    simp [hl2]
    rw [gleave_free]
    · rw [WPv_some, hl2]
      refine ⟨_, T, w, ?_⟩
      rw [clean_agg]
      simp only [List.map_cons, List.map_nil, clean1_pure]
      rw [clean1_apS (hl2 _) (by omega) (fun hne => apF_self hne)]
      have hk : rows.map arow ≠ [] := fun e => by have := congrArg List.length e; simp at this; subst this; simp at hl; omega
      rw [if_neg hk]
      simp [Tab.row]
    · simp
  · have L := fun Q hQ => tabO_loop (H := H) hlt n p (by omega) q s (by omega) (by omega) Q hQ n [] w5 rfl (fun a h => absurd h List.not_mem_nil)
    simp [tFr, zb64, apS_nil, apF_nil] at L
    simp [hl2, hle, Y, e1, e2, e3, e4, e5, K, hs3]
    refine L _ (fun rows w hl ha => ?_)
    have T := fin q hq (fun h => absurd h hs3) rows w hl ha
    simp [hl2]
    rw [gleave_free]
    · rw [WPv_some, hl2]
      refine ⟨_, T, w, ?_⟩
      rw [clean_agg]
      simp only [List.map_cons, List.map_nil, clean1_pure]
      rw [clean1_apS (hl2 _) (by omega) (fun hne => apF_self hne)]
      have hk : rows.map arow ≠ [] := fun e => by have := congrArg List.length e; simp at this; subst this; simp at hl; omega
      rw [if_neg hk]
      simp [Tab.row]
    · simp
theorem table_ok {nm : Nm} (hB : isBox H nm) (P G : Nat) (hP : 1 ≤ P ∧ P ≤ 9) (hG : 1 ≤ G ∧ G ≤ 12) : ∃ t wd, TOk t ∧ gcall KC (geval KC) 36 [.bptr nm 0, .pure (.int .i64 (P : Nat)), .pure (.int .i64 (G : Nat))] c H = some (.pure (.agg t.row), H.set nm (wbox wd)) := by
  obtain ⟨t, wd, h1, h2⟩ := table_ok0 (c := c) (isBox_lt hB) (wordAt H nm) P G hP hG
  rw [isBox_set hB] at h2
  exact ⟨t, wd, h1, h2⟩
end Go.Gh


/- Deeds made of numbers. -/
namespace Go.Gh
open Go.Proofs
set_option linter.unusedSimpArgs false
set_option linter.unusedVariables false
set_option linter.unnecessarySimpa false
set_option maxRecDepth 100000
set_option maxHeartbeats 4000000
variable {c : Nat} {H : Heap}
structure Deed where
  kind : Int
  guest : Int
  packet : Int
  number : Int
def Deed.row (d : Deed) : List PV := [.int .i64 d.kind, .int .i64 d.guest, .int .i64 d.packet, .int .i64 d.number]
theorem up2 {nm : Nm} (hlt : nm.1 < H.length) (f1 f0 : Fr) (w : Int) {n : Int} (hn : n ≤ 9223372036854775807) : gcall KC (geval KC) 32 [.bptr nm 0, .pure (.int .i64 n)] c (f1 :: f0 :: H.set nm (wbox w)) = some (.pure (.int .i64 (upR w n).1), f1 :: f0 :: H.set nm (wbox (upR w n).2)) := by
  have := up_ok (c := c) (n := n) (box2 hlt w f1 f0) hn
  rwa [word2 hlt, Heap.set_up (by simp [Heap.length_set]; omega), Heap.set_up (by rw [Heap.length_set]; exact hlt), Heap.set_set] at this
theorem any2 {nm : Nm} (hlt : nm.1 < H.length) (f1 f0 : Fr) (w : Int) {lo hi : Int} : gcall KC (geval KC) 25 [.bptr nm 0, .pure (.int .i64 lo), .pure (.int .i64 hi)] c (f1 :: f0 :: H.set nm (wbox w)) = some (.pure (.int .i64 (anyR w lo hi).1), f1 :: f0 :: H.set nm (wbox (anyR w lo hi).2)) := by
  have := any_ok (c := c) (lo := lo) (hi := hi) (box2 hlt w f1 f0)
  rwa [word2 hlt, Heap.set_up (by simp [Heap.length_set]; omega), Heap.set_up (by rw [Heap.length_set]; exact hlt), Heap.set_set] at this
theorem pick2 {nm : Nm} (hlt : nm.1 < H.length) (f1 f0 : Fr) (w : Int) {l : List Int} (hn : l.length < 4611686018427387904) : gcall KC (geval KC) 56 [.bptr nm 0, .pure (.slice (l.map irow))] c (f1 :: f0 :: H.set nm (wbox w)) = some (.pure (.int .i64 (pickR w l).1), f1 :: f0 :: H.set nm (wbox (pickR w l).2)) := by
  have := pick_ok (c := c) (box2 hlt w f1 f0) hn
  rwa [word2 hlt, Heap.set_up (by simp [Heap.length_set]; omega), Heap.set_up (by rw [Heap.length_set]; exact hlt), Heap.set_set] at this
theorem one2 {nm : Nm} (hlt : nm.1 < H.length) (f1 f0 : Fr) (w : Int) {n : Int} (hn : n ≤ 9223372036854775807) : gcall KC (geval KC) 49 [.bptr nm 0, .pure (.int .i64 n)] c (f1 :: f0 :: H.set nm (wbox w)) = some (.pure (.bool (oneR w n).1), f1 :: f0 :: H.set nm (wbox (oneR w n).2)) := by
  have := one_ok (c := c) (n := n) (box2 hlt w f1 f0) hn
  rwa [word2 hlt, Heap.set_up (by simp [Heap.length_set]; omega), Heap.set_up (by rw [Heap.length_set]; exact hlt), Heap.set_set] at this
theorem deeds_loop {nm : Nm} (hlt : nm.1 < H.length) (t : Tab) (hs : Sm t) (hp : t.packets ≤ 1000000) (N : Nat) (hN : N ≤ 1000) (Q : GX → GSt → Prop)
    (hQ : ∀ (ds : List Deed) (w : Int), ds.length = N → Q (.exit 0) ⟨[(7, apS (H.length, 47) 4 (ds.map Deed.row))], apF 47 4 (ds.map Deed.row) [(4, tb t)] :: H.set nm (wbox w), 49⟩) :
    ∀ (i : Nat) (ds : List Deed) (w : Int), i + ds.length = N →
    WPL KC needT 37 (lp Try.f37 0) [0, 4, 7, 8] [7] Q [(0, .bptr nm 0), (4, .bptr (H.length, 4) 0), (7, apS (H.length, 47) 4 (ds.map Deed.row)), (8, .pure (.int .i64 (i : Nat)))] (apF 47 4 (ds.map Deed.row) [(4, tb t)] :: H.set nm (wbox w)) 49 := by
  have hle : nm.1 ≤ H.length := by omega
  have hl2 : ∀ w, (H.set nm (wbox w)).length = H.length := fun w => Heap.length_set _ _ _
  have hs1 := hs.1
  intro i
  induction i with
  | zero =>
    intro ds w hi
    apply WPL_step
    conv => arg 4; whnf
    simp [hl2]
    simpa using hQ ds w (by omega)
  | succ i ih =>
    intro ds w hi
    have e1 : (i : Int) + 1 - 1 = i := by omega
    have hw := w64 (x := (i : Int) + 1 - 1) (by omega) (by omega)
    rw [e1] at hw
    have k0 : (0 : Int) < (i : Int) + 1 := by omega
    have hw2 := w64 (x := (t.answers.length : Int) + 1) (by omega) (by omega)
    obtain ⟨x, w1, y1⟩ : ∃ x w1, anyR w 0 7 = (x, w1) := ⟨_, _, rfl⟩
    obtain ⟨k, w2, y2⟩ : ∃ k w2, pickR w1 [1, 1, 1, 2, 2, 2, 2, 2, 3, 4, 4, 5, 6, x] = (k, w2) := ⟨_, _, rfl⟩
    obtain ⟨g, w3, y3⟩ : ∃ g w3, upR w2 ((t.answers.length : Int) + 1) = (g, w3) := ⟨_, _, rfl⟩
    obtain ⟨p, w4, y4⟩ : ∃ p w4, upR w3 t.packets = (p, w4) := ⟨_, _, rfl⟩
    obtain ⟨n, w5, y5⟩ : ∃ n w5, anyR w4 (-1) 8 = (n, w5) := ⟨_, _, rfl⟩
    obtain ⟨o, w6, y6⟩ : ∃ o w6, oneR w5 15 = (o, w6) := ⟨_, _, rfl⟩
    have Y := fun c f1 f0 w (lo hi : Int) => any2 (c := c) (H := H) hlt f1 f0 w (lo := lo) (hi := hi)
    have K := fun c f1 f0 w => pick2 (c := c) (H := H) hlt f1 f0 w (l := [1, 1, 1, 2, 2, 2, 2, 2, 3, 4, 4, 5, 6, x]) (by simp)
    simp [irow] at K
    have U1 := fun c f1 f0 w => up2 (c := c) (H := H) hlt f1 f0 w (n := (t.answers.length : Int) + 1) (by omega)
    have U2 := fun c f1 f0 w => up2 (c := c) (H := H) hlt f1 f0 w (n := t.packets) (by omega)
    have O := fun c f1 f0 w => one2 (c := c) (H := H) hlt f1 f0 w (n := 15) (by omega)
    have hb : (ds.length + 1) * 32 ≤ 1099511627776 := by omega
    have A := fun f0 fr (hf : Fr.get fr 47 = none) (d : Deed) w' => apK_1 (H := H.set nm (wbox w')) (l := H.length) (key := 47) (es := 4) (bytes := 32) (rows := ds.map Deed.row) (r := d.row) (fr := fr) (f0 := f0) (hl2 _) hf (by simpa using hb)
    apply WPL_step
    conv => arg 4; whnf
    cases o with
    | false =>
      have ih' := ih (ds ++ [⟨k, g, p, n⟩]) w6 (by simp; omega)
      have A' := fun f0 fr hf w' => A f0 fr hf ⟨k, g, p, n⟩ w'
      simp only [Deed.row] at A'
      simp [tb, hl2, hle, k0, Y, y1, K, y2, U1, y3, U2, y4, y5, O, y6, hw2, A', hw, e1, Deed.row]
      simpa [tb, Deed.row] using ih'
    | true =>
      obtain ⟨p', w7, y7⟩ : ∃ p w7, anyR w6 (-1) 9 = (p, w7) := ⟨_, _, rfl⟩
      obtain ⟨n', w8, y8⟩ : ∃ p w8, anyR w7 (-2) 9 = (p, w8) := ⟨_, _, rfl⟩
      have ih' := ih (ds ++ [⟨k, g, p', n'⟩]) w8 (by simp; omega)
      have A' := fun f0 fr hf w' => A f0 fr hf ⟨k, g, p', n'⟩ w'
      simp only [Deed.row] at A'
      simp [tb, hl2, hle, k0, Y, y1, K, y2, U1, y3, U2, y4, y5, O, y6, y7, y8, hw2, A', hw, e1, Deed.row]
      simpa [tb, Deed.row] using ih'
/-- A heap with a row that a call left there. -/
def setR (H : Heap) (nm : Nm) (es : Nat) (rows : List (List PV)) : Heap := if rows = [] then H else H.set nm (.arr es rows 0 false)
theorem deeds_ok0 {nm : Nm} (hlt : nm.1 < H.length) (t : Tab) (hs : Sm t) (hp : t.packets ≤ 1000000) (w0 : Int) (most : Nat) (hm : most ≤ 999) (hf : H.get (H.length - 1, newKey c 47) = none) (hne : nm ≠ (H.length - 1, newKey c 47)) :
    ∃ (ds : List Deed) (wd : Int), ds.length ≤ most ∧ gcall KC (geval KC) 37 [.bptr nm 0, .pure (.agg t.row), .pure (.int .i64 (most : Nat))] c (H.set nm (wbox w0)) = some (apS (H.length - 1, newKey c 47) 4 (ds.map Deed.row), setR (H.set nm (wbox wd)) (H.length - 1, newKey c 47) 4 (ds.map Deed.row)) := by
  have hle : nm.1 ≤ H.length := by omega
  have hl2 : ∀ w, (H.set nm (wbox w)).length = H.length := fun w => Heap.length_set _ _ _
  suffices hs : WPv (gcall KC (geval KC) 37 [.bptr nm 0, .pure (.agg t.row), .pure (.int .i64 (most : Nat))] c (H.set nm (wbox w0))) (fun x => ∃ (ds : List Deed) (wd : Int), ds.length ≤ most ∧ x = (apS (H.length - 1, newKey c 47) 4 (ds.map Deed.row), setR (H.set nm (wbox wd)) (H.length - 1, newKey c 47) 4 (ds.map Deed.row))) by
    obtain ⟨x, hx, ds, wd, h1, e⟩ := hs
    exact ⟨ds, wd, h1, by rw [hx, e]⟩
  refine call_enter KC needT Try.func37 rfl rfl good37 rfl rfl rfl (by simp) (by rw [hl2]; omega) ?_
  obtain ⟨n, w1, e1, n1⟩ := upR_get w0 ((most : Int) + 1) (by omega) (by omega)
  have hw := w64 (x := (most : Int) + 1) (by omega) (by omega)
  have U := fun c f0 w => up1 (c := c) (H := H) hlt f0 w (n := (most : Int) + 1) (by omega)
  have L := fun Q hQ => deeds_loop (H := H) hlt t hs hp n (by omega) Q hQ n [] w1 (by simp)
  simp [tb, apS_nil, apF_nil] at L
  simp [Tab.row, hl2, hle, U, e1, hw]
  refine L _ (fun ds w hl => ?_)
  have hfw : (H.set nm (wbox w)).get (H.length - 1, newKey c 47) = none := by rw [Heap.get_set_other _ (Ne.symm hne)]; exact hf
  simp [hl2]
  by_cases hd : ds = []
  · subst hd
    simp [apS_nil, apF_nil, gleave_keep, KC_keep, refs, refs2, refs1, deepRefs, dedup, moveOut, ren, ren2, ren1]
    exact ⟨[], by simp, by simp [apS_nil], w, by simp [setR]⟩
  · have hd' : ds.map Deed.row ≠ [] := by simpa using hd
    have e1 : apS (H.length, 47) 4 (ds.map Deed.row) = .hdr (H.length, 47) 4 ds.length 0 ds.length := by unfold apS; rw [if_neg hd']; simp
    have e2 := apF_self (key := 47) (es := 4) (fr := [(4, tb t)]) hd'
    simp only [tb] at e2
    rw [e1]
    simp [gleave_keep, KC_keep, refs, refs2, refs1, deepRefs, boxRefs, e2, dedup, moveOut, cleanBlk, hl2, hfw, ren, ren2, ren1]
    exact ⟨ds, by omega, by unfold apS; simp [hd], w, by unfold setR; simp [hd]⟩
theorem deeds_ok {nm : Nm} (hB : isBox H nm) (t : Tab) (hs : Sm t) (hp : t.packets ≤ 1000000) (most : Nat) (hm : most ≤ 999) (hf : H.get (H.length - 1, newKey c 47) = none) (hne : nm ≠ (H.length - 1, newKey c 47)) :
    ∃ (ds : List Deed) (wd : Int), ds.length ≤ most ∧ gcall KC (geval KC) 37 [.bptr nm 0, .pure (.agg t.row), .pure (.int .i64 (most : Nat))] c H = some (apS (H.length - 1, newKey c 47) 4 (ds.map Deed.row), setR (H.set nm (wbox wd)) (H.length - 1, newKey c 47) 4 (ds.map Deed.row)) := by
  obtain ⟨ds, wd, h1, h2⟩ := deeds_ok0 (isBox_lt hB) t hs hp (wordAt H nm) most hm hf hne
  rw [isBox_set hB] at h2
  exact ⟨ds, wd, h1, h2⟩
end Go.Gh


/- A table at work: its rows are its own. -/
namespace Go.Gh
open Go.Proofs
set_option linter.unusedSimpArgs false
set_option linter.unusedVariables false
set_option linter.unnecessarySimpa false
set_option maxRecDepth 100000
set_option maxHeartbeats 4000000
variable {c : Nat} {H : Heap}
theorem clone_okR (l : List Int) (h0 : l ≠ []) (hn : l.length ≤ 1000000) (hH : 0 < H.length) (hf : H.get (H.length - 1, newKey c 7) = none) :
    gcall KC (geval KC) 108 [.pure (.slice (l.map irow))] c H = some (.hdr (H.length - 1, newKey c 7) 1 l.length 0 l.length, H.set (H.length - 1, newKey c 7) (.arr 1 (l.map irow) 0 false)) := by
  have he : (KC.cln 108 && emptyArg [.pure (.slice (l.map irow))]) = false := by
    obtain ⟨x, r, rfl⟩ := List.exists_cons_of_ne_nil h0
    have : emptyArg [.pure (.slice ((x :: r).map irow))] = false := rfl
    rw [this]; simp
  rw [gcall_frz' he rfl rfl]
  exact clone_ok0 l h0 hn hH hf
def rowV (nm : Nm) (es top : Nat) (x : Option (Nat × Heap)) : Option (GV × Heap) := match x with | some (i, H) => some (.rhdr nm es i top, H) | none => none
@[congr] theorem rowV_cg {nm : Nm} {es top : Nat} {x x' : Option (Nat × Heap)} (h : ∀ _ : Unit, x = x') : rowV nm es top x = rowV nm es top x' := by rw [h ()]
@[simp] theorem rowV_some {nm : Nm} {es top i : Nat} : rowV nm es top (some (i, H)) = some (.rhdr nm es i top, H) := .trans rfl rfl
/-- A call's block that becomes a row. -/
theorem gliftRow_hdr {H0 Hr : Heap} {nm : Nm} {o key es top k : Nat} {f0 : Fr} {elems : List (List PV)} (h1 : H0.length = Hr.length + 1) (h2 : nm.1 < Hr.length) (h3 : H0.get (Hr.length, k) = none) (h4 : noRefF (Hr.length, k) f0 = true)
    (h5 : f0.get k = some (.arr es elems 0 false)) (h6 : top = elems.length) (h7 : 0 < top) :
    gliftRow H0 (.bptr nm o) key (.hdr (Hr.length, k) es top 0 top, f0 :: Hr) = rowV (nm.1, key) es top (addRow (delAll [k] f0 :: Hr) nm key es elems) := by
  subst h6
  have e : allNew H0 Hr.length f0 [k] = true := by simp [allNew, h3, h4]
  unfold gliftRow
  simp only [h1, h2, h5, e, decide_true, Bool.and_self, if_true, Nat.zero_le, true_and, and_true, h7]
  rfl
theorem lift_row {F : Fr} {b q : Nat} {a : List Int} (hal : 0 < a.length) : gliftRow ([] :: F :: H) (.bptr (H.length, b) 0) 77 (.hdr (H.length + 1, q) 1 a.length 0 a.length, [(q, .arr 1 (a.map irow) 0 false)] :: F :: H) =
    rowV (H.length, 77) 1 a.length (addRow ([] :: F :: H) (H.length, b) 77 1 (a.map irow)) := by
  have := gliftRow_hdr (H0 := [] :: F :: H) (Hr := F :: H) (nm := (H.length, b)) (o := 0) (key := 77) (es := 1) (top := a.length) (k := q) (f0 := [(q, .arr 1 (a.map irow) 0 false)]) (elems := a.map irow) (by simp) (by simp) (by simp [Fr.get]) (by simp [noRefF, noRefB]) (by simp [Fr.get]) (by simp) hal
  simpa only [delAll, Fr.del, if_true, List.length_cons] using this
def mrow (a : List Int) : List (List PV) := a.map irow
/-- The frame of workOf behind so many rows. -/
def wFr (L : Nat) (t : Tab) (i : Nat) : Fr :=
  if i = 0 then [(1, tb t), (8, .box [.pure (.int .i64 t.packets), .pure (.int .i64 t.passed), .pure (.int .i64 t.state), .nils])]
  else [(1, tb t), (8, .box [.pure (.int .i64 t.packets), .pure (.int .i64 t.passed), .pure (.int .i64 t.state), .hdr (L, 77) 1 i 0 i]), (77, .mat 1 ((t.answers.take i).map mrow) i)]
theorem work_loop (t : Tab) (hs : Sm t) (hne : ∀ a ∈ t.answers, a ≠ []) (Q : GX → GSt → Prop) (hH : 0 < H.length)
    (hQ : Q (.exit 0) ⟨[(3, .bptr (H.length, 8) 0)], wFr H.length t t.answers.length :: H, 35⟩) : ∀ k i : Nat, i + k = t.answers.length →
    WPL KC needT 82 (lp Try.f82 0) [3, 14, 15, 16] [3] Q [(3, .bptr (H.length, 8) 0), (14, .pure (.slice (t.answers.map arow))), (15, .pure (.int .i64 t.answers.length)), (16, .pure (.int .i64 (i : Nat)))] (wFr H.length t i :: H) 35 := by
  have hs1 := hs.1
  intro k
  induction k with
  | zero =>
    intro i hi
    obtain rfl : i = t.answers.length := by omega
    apply WPL_step
    conv => arg 4; whnf
    simp
    exact hQ
  | succ k ih =>
    intro i hi
    have hia : i < t.answers.length := by omega
    have hw := w64 (x := (i : Int) + 1) (by omega) (by omega)
    have hla := hs.2 _ (List.getElem_mem hia)
    have hn := hne _ (List.getElem_mem hia)
    have ih' := ih (i + 1) (by omega)
    obtain ⟨a, ha⟩ : ∃ a, t.answers[i] = a := ⟨_, rfl⟩
    rw [ha] at hla hn
    have C := fun (H : Heap) (hH : 0 < H.length) hf => clone_okR (c := 27) (H := H) a hn hla hH hf
    have hal : 0 < a.length := by cases a; simp at hn; simp
    have htk : (t.answers.take (i + 1)).map mrow = (t.answers.take i).map mrow ++ [mrow a] := by rw [List.take_succ_eq_append_getElem hia, ha]; simp
    have hb : (i + 1) * 24 ≤ 1099511627776 := by omega
    apply WPL_step
    conv => arg 4; whnf
    by_cases h0 : i = 0
    · subst h0
      have C0 := C ([] :: wFr H.length t 0 :: H) (by simp) (by simp [wFr])
      have G : gliftRow ([] :: wFr H.length t 0 :: H) (.bptr (H.length, 8) 0) 77 (.hdr (H.length + 1, newKey 27 7) 1 a.length 0 a.length, [(newKey 27 7, .arr 1 (a.map irow) 0 false)] :: wFr H.length t 0 :: H) =
          some (.rhdr (H.length, 77) 1 0 a.length, [] :: [(1, tb t), (8, .box [.pure (.int .i64 t.packets), .pure (.int .i64 t.passed), .pure (.int .i64 t.state), .nils]), (77, .mat 1 [mrow a] 0)] :: H) := by
        rw [lift_row hal]
        simp [wFr, mrow]
      simp [wFr, tb] at C0 G
      simp [wFr, htk, mrow] at ih'
      simp [hia, ha, arow, wFr, C0, G, mrow, hw, tb]
      simpa [tb, arow] using ih'
    · have C0 := C ([] :: wFr H.length t i :: H) (by simp) (by simp [wFr, h0])
      have hlt : ((t.answers.take i).map mrow).length = i := by simp; omega
      have hmin : min i t.answers.length = i := by omega
      have G : gliftRow ([] :: wFr H.length t i :: H) (.bptr (H.length, 8) 0) 77 (.hdr (H.length + 1, newKey 27 7) 1 a.length 0 a.length, [(newKey 27 7, .arr 1 (a.map irow) 0 false)] :: wFr H.length t i :: H) =
          some (.rhdr (H.length, 77) 1 i a.length, [] :: [(1, tb t), (8, .box [.pure (.int .i64 t.packets), .pure (.int .i64 t.passed), .pure (.int .i64 t.state), .hdr (H.length, 77) 1 i 0 i]), (77, .mat 1 ((t.answers.take i).map mrow ++ [mrow a]) i)] :: H) := by
        rw [lift_row hal]
        simp [wFr, h0, hlt, hmin, mrow]
      have hi1 : ¬ i + 1 = 0 := by omega
      have hgd : ((t.answers.take i).map mrow ++ [mrow a]).getD i [] = mrow a := by rw [List.getD_eq_getElem?_getD, List.getElem?_append_right (by omega)]; simp [hlt, hmin]
      have hgl : (mrow a).length = a.length := by simp [mrow]
      simp [wFr, h0, tb] at C0 G
      simp only [wFr, if_neg hi1, htk] at ih'
      have hcnd : ((List.map mrow (List.take i t.answers)).length + 1) = i + 1 := by rw [hlt]
      simp [hia, ha, arow, wFr, h0, C0, G, hw, tb, hlt, hmin, hgl, hb]
      simpa [tb, hi1] using ih'
/-- A table at work, as it lies in a scope: a box, its rows. -/
def wBox (L k : Nat) (t : Tab) : Blk := .box [.pure (.int .i64 t.packets), .pure (.int .i64 t.passed), .pure (.int .i64 t.state), .hdr (L, k) 1 t.answers.length 0 t.answers.length]
def wMat (t : Tab) : Blk := .mat 1 (t.answers.map mrow) t.answers.length
theorem workOf_ok (t : Tab) (hs : Sm t) (h0 : t.answers ≠ []) (hne : ∀ a ∈ t.answers, a ≠ []) (hH : 0 < H.length) (hf1 : H.get (H.length - 1, newKey c 8) = none) (hf2 : H.get (H.length - 1, newKey c 77) = none) :
    gcall KC (geval KC) 82 [.pure (.agg t.row)] c H = some (.bptr (H.length - 1, newKey c 8) 0, (H.set (H.length - 1, newKey c 8) (wBox (H.length - 1) (newKey c 77) t)).set (H.length - 1, newKey c 77) (wMat t)) := by
  refine WPv_eq (call_enter KC needT Try.func82 rfl rfl good82 rfl rfl rfl (by simp) hH ?_)
  have L := fun Q hQ => work_loop (H := H) t hs hne Q hH hQ t.answers.length 0 (by omega)
  simp [wFr, tb] at L
  simp [Tab.row]
  refine L _ ?_
  have hl0 : ¬ t.answers.length = 0 := fun e => h0 (List.length_eq_zero_iff.1 e)
  have hk : newKey c 77 ≠ newKey c 8 := by unfold newKey; omega
  simp [h0]
  simp [gleave_keep, KC_keep, refs, refs2, refs1, deepRefs, boxRefs, matRefs, dedup, moveOut, cleanBlk, clM, isMat, ren, ren2, ren1, hf1, hf2, hk, Heap.get_set_other, wBox, wMat]
end Go.Gh


/- Deeds at a table at work. -/
namespace Go.Gh
open Go.Proofs
set_option linter.unusedSimpArgs false
set_option linter.unusedVariables false
set_option linter.unnecessarySimpa false
set_option maxRecDepth 100000
set_option maxHeartbeats 4000000
variable {c : Nat} {H : Heap}
structure isW (H : Heap) (l kb km : Nat) (t : Tab) : Prop where
  gb : H.get (l, kb) = some (wBox l km t)
  gm : H.get (l, km) = some (wMat t)
  sb : H.set (l, kb) (wBox l km t) = H
  sm : H.set (l, km) (wMat t) = H
  ne : kb ≠ km
  lt : l < H.length
def wSet (H : Heap) (l kb km : Nat) (t : Tab) : Heap := (H.set (l, kb) (wBox l km t)).set (l, km) (wMat t)
theorem isW.self {l kb km : Nat} {t : Tab} (h : isW H l kb km t) : wSet H l kb km t = H := by unfold wSet; rw [h.sb, h.sm]
theorem isW.up {l kb km : Nat} {t : Tab} (h : isW H l kb km t) (f : Fr) : isW (f :: H) l kb km t := by
  have hl := h.lt
  have hn : ¬ l = H.length := by omega
  exact ⟨by simp [hn, h.gb], by simp [hn, h.gm], by simp [hn, h.sb], by simp [hn, h.sm], h.ne, by simp; omega⟩
theorem wSet_up {l kb km : Nat} {t : Tab} (f : Fr) (hl : l < H.length) : wSet (f :: H) l kb km t = f :: wSet H l kb km t := by
  have hn : ¬ l = H.length := by omega
  simp [wSet, hn]
theorem Heap.set_comm {a b : Nm} (x y : Blk) (h : a ≠ b) : ∀ {H : Heap}, (H.set a x).set b y = (H.set b y).set a x
  | [] => rfl
  | f :: H => by
    by_cases h1 : a.1 = H.length
    · by_cases h2 : b.1 = H.length
      · have hk : b.2 ≠ a.2 := fun e => h (Prod.ext (by omega) e.symm)
        simp only [Heap.set, h1, h2, if_true]
        rw [Fr.ins_comm _ _ hk]
      · simp only [Heap.set, h1, h2, if_true, if_false, Heap.length_set]
    · by_cases h2 : b.1 = H.length
      · simp only [Heap.set, h1, h2, if_true, if_false, Heap.length_set]
      · simp only [Heap.set, h1, h2, if_false, Heap.length_set, Heap.set_comm x y h]
/-- The box alone is turned. -/
theorem isW.box {l kb km : Nat} {t t' : Tab} (h : isW H l kb km t) (he : t'.answers = t.answers) : wSet H l kb km t' = H.set (l, kb) (wBox l km t') := by
  have hne : ((l, kb) : Nm) ≠ (l, km) := fun e => h.ne (Prod.mk.inj e).2
  have hm : wMat t' = wMat t := by unfold wMat; rw [he]
  unfold wSet
  rw [hm, Heap.set_comm _ _ hne, h.sm]
/-- The rows alone. -/
theorem isW.mat {l kb km : Nat} {t t' : Tab} (h : isW H l kb km t) (h1 : t'.packets = t.packets) (h2 : t'.passed = t.passed) (h3 : t'.state = t.state) (h4 : t'.answers.length = t.answers.length) : wSet H l kb km t' = H.set (l, km) (wMat t') := by
  have hb : wBox l km t' = wBox l km t := by unfold wBox; rw [h1, h2, h3, h4]
  unfold wSet
  rw [hb, h.sb]
/-- What is done. -/
def wrT (t : Tab) (d : Deed) : Tab := { t with answers := t.answers.set d.guest.toNat ((t.answers.getD d.guest.toNat []).set d.packet.toNat d.number) }
theorem pass_ok {l kb km : Nat} {t : Tab} (hW : isW H l kb km t) (d : Deed) (hp : t.passed ≤ 1000000) (hp0 : -1000000 ≤ t.passed) (hH : 0 < H.length) : gcall KC (geval KC) 121 [.bptr (l, kb) 0, .pure (.agg d.row)] c H =
    some (.pure (.int .i64 (if t.state ≠ 1 then 10 else if t.passed = t.packets then 8 else 0)), wSet H l kb km (if t.state ≠ 1 then t else if t.passed = t.packets then t else { t with passed := t.passed + 1 })) := by
  refine WPv_eq (call_enter KC needT Try.func121 rfl rfl good121 rfl rfl rfl (by simp) hH ?_)
  have hl := hW.lt
  have hn : ¬ l = H.length := by omega
  have hle : l ≤ H.length := by omega
  have hb := hW.gb
  unfold wBox at hb
  by_cases h1 : t.state = 1
  · by_cases h2 : t.passed = t.packets
    · simp [h1, h2, hW.self, Deed.row, hn, hle, hb, gleave_free]
    · have h2' : (t.passed == t.packets) = false := by simpa using h2
      have hw := w64 (x := t.passed + 1) (by omega) (by omega)
      rw [if_neg (by simpa using h1), if_neg h2, if_neg (by simpa using h1), if_neg h2, hW.box (t' := { t with passed := t.passed + 1 }) rfl]
      simp [h1, h2', Deed.row, hn, hle, hb, hw, gleave_free, wBox]
  · have h1' : (t.state != 1) = true := by simpa using h1
    simp [h1, h1', hW.self, Deed.row, hn, hle, hb, gleave_free]
theorem turn_okW {l kb km : Nat} {t : Tab} (hW : isW H l kb km t) (a b : Int) (hH : 0 < H.length) : gcall KC (geval KC) 149 [.bptr (l, kb) 0, .pure (.int .i64 a), .pure (.int .i64 b)] c H =
    some (.pure (.int .i64 (if t.state ≠ a then 10 else 0)), wSet H l kb km (if t.state ≠ a then t else { t with state := b })) := by
  refine WPv_eq (call_enter KC needT Try.func149 rfl rfl good149 rfl rfl rfl (by simp) hH ?_)
  have hl := hW.lt
  have hn : ¬ l = H.length := by omega
  have hle : l ≤ H.length := by omega
  have hb := hW.gb
  unfold wBox at hb
  by_cases h1 : t.state = a
  · rw [if_neg (by simpa using h1), if_neg (by simpa using h1), hW.box (t' := { t with state := b }) rfl]
    simp [h1, hn, hle, hb, gleave_free, wBox]
  · have h1' : (t.state != a) = true := by simpa using h1
    simp [h1, h1', hW.self, hn, hle, hb, gleave_free]
theorem pause_ok {l kb km : Nat} {t : Tab} (hW : isW H l kb km t) (d : Deed) (hH : 0 < H.length) : gcall KC (geval KC) 123 [.bptr (l, kb) 0, .pure (.agg d.row)] c H =
    some (.pure (.int .i64 (if t.state ≠ 1 then 10 else 0)), wSet H l kb km (if t.state ≠ 1 then t else { t with state := 2 })) := by
  refine WPv_eq (call_enter KC needT Try.func123 rfl rfl good123 rfl rfl rfl (by simp) hH ?_)
  have T := fun c f => turn_okW (c := c) (hW.up f) 1 2 (by simp)
  simp only [wSet_up _ hW.lt] at T
  simp [T, Deed.row, gleave_free]
theorem resume_ok {l kb km : Nat} {t : Tab} (hW : isW H l kb km t) (d : Deed) (hH : 0 < H.length) : gcall KC (geval KC) 124 [.bptr (l, kb) 0, .pure (.agg d.row)] c H =
    some (.pure (.int .i64 (if t.state ≠ 2 then 10 else 0)), wSet H l kb km (if t.state ≠ 2 then t else { t with state := 1 })) := by
  refine WPv_eq (call_enter KC needT Try.func124 rfl rfl good124 rfl rfl rfl (by simp) hH ?_)
  have T := fun c f => turn_okW (c := c) (hW.up f) 2 1 (by simp)
  simp only [wSet_up _ hW.lt] at T
  simp [T, Deed.row, gleave_free]
theorem open_ok {l kb km : Nat} {t : Tab} (hW : isW H l kb km t) (d : Deed) (hH : 0 < H.length) : gcall KC (geval KC) 126 [.bptr (l, kb) 0, .pure (.agg d.row)] c H =
    some (.pure (.int .i64 (if t.state ≠ 3 then 10 else 0)), wSet H l kb km (if t.state ≠ 3 then t else { t with state := 4 })) := by
  refine WPv_eq (call_enter KC needT Try.func126 rfl rfl good126 rfl rfl rfl (by simp) hH ?_)
  have T := fun c f => turn_okW (c := c) (hW.up f) 3 4 (by simp)
  simp only [wSet_up _ hW.lt] at T
  simp [T, Deed.row, gleave_free]
theorem close_ok {l kb km : Nat} {t : Tab} (hW : isW H l kb km t) (d : Deed) (hH : 0 < H.length) : gcall KC (geval KC) 125 [.bptr (l, kb) 0, .pure (.agg d.row)] c H =
    some (.pure (.int .i64 (if t.state = 1 ∧ t.passed < t.packets then 6 else if t.state ≠ 1 then 10 else 0)), wSet H l kb km (if t.state = 1 ∧ t.passed < t.packets then t else if t.state ≠ 1 then t else { t with state := 3 })) := by
  refine WPv_eq (call_enter KC needT Try.func125 rfl rfl good125 rfl rfl rfl (by simp) hH ?_)
  have hl := hW.lt
  have hn : ¬ l = H.length := by omega
  have hle : l ≤ H.length := by omega
  have hb := hW.gb
  unfold wBox at hb
  have T := fun c f => turn_okW (c := c) (hW.up f) 1 3 (by simp)
  simp only [wSet_up _ hl] at T
  by_cases h1 : t.state = 1
  · by_cases h2 : t.passed < t.packets
    · simp [h1, h2, hW.self, Deed.row, hn, hle, hb, gleave_free]
    · simp [h1] at T
      simp [h1, h2, Deed.row, hn, hle, hb, T, gleave_free]
  · have h1' : (t.state == 1) = false := by simpa using h1
    simp [h1] at T
    simp [h1, h1', Deed.row, hn, hle, hb, T, gleave_free]
def wrE (t : Tab) (d : Deed) : Int :=
  if t.state ≠ 1 then 10 else if inB d.guest 0 ((t.answers.length : Int) - 1) = false then 7 else if inB d.packet 0 (t.packets - 1) = false then 7 else if t.passed ≤ d.packet then 13 else if inB d.number (-1) 8 = false then 2 else 0
theorem write_ok {l kb km : Nat} {t : Tab} (hW : isW H l kb km t) (d : Deed) (hs : Sm t) (hp : 0 ≤ t.packets ∧ t.packets ≤ 1000000) (ha : ∀ a ∈ t.answers, (a.length : Int) = t.packets) (hH : 0 < H.length) :
    gcall KC (geval KC) 122 [.bptr (l, kb) 0, .pure (.agg d.row)] c H = some (.pure (.int .i64 (wrE t d)), wSet H l kb km (if wrE t d ≠ 0 then t else wrT t d)) := by
  refine WPv_eq (call_enter KC needT Try.func122 rfl rfl good122 rfl rfl rfl (by simp) hH ?_)
  have hl := hW.lt
  have hn : ¬ l = H.length := by omega
  have hle : l ≤ H.length := by omega
  have hb := hW.gb
  have hm := hW.gm
  unfold wBox at hb
  unfold wMat at hm
  have hs1 := hs.1
  have W := fun c (H : Heap) (hH : 0 < H.length) (x lo hi : Int) => withinP_ok (c := c) (x := x) (lo := lo) (hi := hi) (H := H) hH
  have w1 := w64 (x := (t.answers.length : Int) - 1) (by omega) (by omega)
  have w2 := w64 (x := t.packets - 1) (by omega) (by omega)
  unfold wrE
  by_cases h1 : t.state = 1
  · by_cases h2 : inB d.guest 0 ((t.answers.length : Int) - 1) = false
    · simp [h1, h2, hW.self, Deed.row, hn, hle, hb, W, w1, gleave_free]
    have h2' : inB d.guest 0 ((t.answers.length : Int) - 1) = true := by simpa using h2
    by_cases h3 : inB d.packet 0 (t.packets - 1) = false
    · simp [h1, h2', h3, hW.self, Deed.row, hn, hle, hb, W, w1, w2, gleave_free]
    have h3' : inB d.packet 0 (t.packets - 1) = true := by simpa using h3
    by_cases h4 : t.passed ≤ d.packet
    · simp [h1, h2', h3', h4, hW.self, Deed.row, hn, hle, hb, W, w1, w2, gleave_free]
    by_cases h5 : inB d.number (-1) 8 = false
    · simp [h1, h2', h3', h4, h5, hW.self, Deed.row, hn, hle, hb, W, w1, w2, gleave_free]
    have h5' : inB d.number (-1) 8 = true := by simpa using h5
    have r2 := inB_iff.1 h2'
    have r3 := inB_iff.1 h3'
    have hg : d.guest.toNat < t.answers.length := by omega
    have hg0 : ¬ d.guest < 0 := by omega
    have hgl : d.guest < (t.answers.length : Int) := by omega
    obtain ⟨a, hae⟩ : ∃ a, t.answers[d.guest.toNat] = a := ⟨_, rfl⟩
    have hal := ha _ (List.getElem_mem hg)
    rw [hae] at hal
    have hk : d.packet.toNat < a.length := by omega
    have hk0 : ¬ d.packet < 0 := by omega
    have hkl : d.packet < (a.length : Int) := by omega
    have e : wrT t d = { t with answers := t.answers.set d.guest.toNat (a.set d.packet.toNat d.number) } := by
      unfold wrT; rw [getD_lt hg, hae]
    simp only [h1, h2', h3', h5', if_neg h4, ne_eq, not_true_eq_false, if_false, Bool.true_eq_false]
    rw [hW.mat (t' := wrT t d) rfl rfl rfl (by simp [wrT])]
    have ed : wMat (wrT t d) = .mat 1 ((t.answers.map mrow).set d.guest.toNat ((mrow a).set d.packet.toNat [.int .i64 d.number])) t.answers.length := by
      rw [e]; unfold wMat; simp [mrow, irow, List.map_set]
    rw [ed]
    have hmr : (mrow a)[d.packet.toNat]? = some [.int .i64 a[d.packet.toNat]] := by simp [mrow, irow, hk]
    have hml : (mrow a).length = a.length := by simp [mrow]
    simp [h1, h2', h3', h4, h5', Deed.row, hn, hle, hb, hm, W, w1, w2, hg, hg0, hgl, hae, hk0, hkl, hmr, hml, gleave_free]
  · have h1' : (t.state != 1) = true := by simpa using h1
    simp [h1, h1', hW.self, Deed.row, hn, hle, hb, gleave_free]
end Go.Gh


/- A deed of any kind. -/
namespace Go.Gh
open Go.Proofs
set_option linter.unusedSimpArgs false
set_option linter.unusedVariables false
set_option linter.unnecessarySimpa false
set_option maxRecDepth 100000
set_option maxHeartbeats 4000000
variable {c : Nat} {H : Heap}
@[simp] theorem gstep_insert {K : Ctx} {fn : FuncId} {rec : Rec} {dst : Option Tmp} {ty : TypeId} {pos : String} {af : Array Edge} {gu : Option (Nat × Bool)} {s : Slots} (t : TypeId) (m k v : Operand) :
    gstep K rec fn ⟨dst, .insert t m k v, ty, pos, af, gu⟩ s H = rh (muV K (tmap K.P t) H (ev s m) (ev s k) (ev s v)) := by
  have := gop_mapUpdate (K := K) (fn := fn) (dst := dst) (ty := ty) (pos := pos) (af := af) (gu := gu) (s := s) (H := H) (t := t) (m := m) (k := k) (v := v)
  rw [← this]
  rfl
@[simp] theorem lowerVal_func {l0 : Nat} {f : Nat} {a b : List GV} : lowerVal H l0 (.func f a b) = some (if allLe l0 a && allLe l0 b then .func f a b else gdead, H) := .trans rfl rfl
def doE (t : Tab) (d : Deed) : Int :=
  if d.kind = 1 then (if t.state ≠ 1 then 10 else if t.passed = t.packets then 8 else 0)
  else if d.kind = 2 then wrE t d
  else if d.kind = 3 then (if t.state ≠ 1 then 10 else 0)
  else if d.kind = 4 then (if t.state ≠ 2 then 10 else 0)
  else if d.kind = 5 then (if t.state = 1 ∧ t.passed < t.packets then 6 else if t.state ≠ 1 then 10 else 0)
  else if d.kind = 6 then (if t.state ≠ 3 then 10 else 0)
  else 4
def doN (t : Tab) (d : Deed) : Tab :=
  if d.kind = 1 then { t with passed := t.passed + 1 }
  else if d.kind = 2 then wrT t d
  else if d.kind = 3 then { t with state := 2 }
  else if d.kind = 4 then { t with state := 1 }
  else if d.kind = 5 then { t with state := 3 }
  else { t with state := 4 }
def doT (t : Tab) (d : Deed) : Tab := if doE t d ≠ 0 then t else doN t d
/-- A valid table's bounds. -/
structure Vd (t : Tab) : Prop where
  pk : 1 ≤ t.packets ∧ t.packets ≤ 9
  ps : 0 ≤ t.passed ∧ t.passed ≤ t.packets
  n : 1 ≤ t.answers.length ∧ t.answers.length ≤ 12
  row : ∀ a ∈ t.answers, (a.length : Int) = t.packets
theorem Vd.sm {t : Tab} (h : Vd t) : Sm t := ⟨by have := h.n; omega, fun a ha => by have := h.row a ha; have := h.pk; omega⟩
theorem do_ok {l kb km : Nat} {t : Tab} (hW : isW H l kb km t) (d : Deed) (hV : Vd t) (hH : 0 < H.length) :
    gcall KC (geval KC) 83 [.bptr (l, kb) 0, .pure (.agg d.row)] c H = some (.pure (.int .i64 (doE t d)), wSet H l kb km (doT t d)) := by
  refine WPv_eq (call_enter KC needT Try.func83 rfl rfl good83 rfl rfl rfl (by simp) hH ?_)
  have hl := hW.lt
  have hn : ¬ l = H.length := by omega
  have hle : l ≤ H.length := by omega
  have hp := hV.pk
  have hps := hV.ps
  have M1 := fun c f => pass_ok (c := c) (hW.up f) d (by omega) (by omega) (by simp)
  have M2 := fun c f => write_ok (c := c) (hW.up f) d hV.sm (by omega) hV.row (by simp)
  have M3 := fun c f => pause_ok (c := c) (hW.up f) d (by simp)
  have M4 := fun c f => resume_ok (c := c) (hW.up f) d (by simp)
  have M5 := fun c f => close_ok (c := c) (hW.up f) d (by simp)
  have M6 := fun c f => open_ok (c := c) (hW.up f) d (by simp)
  obtain ⟨k, g, p, n⟩ := d
  simp only [wSet_up _ hl, Deed.row] at M1 M2 M3 M4 M5 M6
  unfold doT doE doN
  by_cases k1 : k = 1
  · subst k1
    simp [Deed.row, hn, hle, findEntry, keyEq, M1, gleave_free]
    by_cases a : t.state = 1 <;> by_cases b : t.passed = t.packets <;> simp [a, b]
  by_cases k2 : k = 2
  · subst k2
    simp [Deed.row, hn, hle, findEntry, keyEq, M2, gleave_free]
  by_cases k3 : k = 3
  · subst k3
    simp [Deed.row, hn, hle, findEntry, keyEq, M3, gleave_free]
  by_cases k4 : k = 4
  · subst k4
    simp [Deed.row, hn, hle, findEntry, keyEq, M4, gleave_free]
  by_cases k5 : k = 5
  · subst k5
    simp [Deed.row, hn, hle, findEntry, keyEq, M5, gleave_free]
    by_cases a : t.state = 1 <;> by_cases b : t.passed < t.packets <;> simp [a, b]
  by_cases k6 : k = 6
  · subst k6
    simp [Deed.row, hn, hle, findEntry, keyEq, M6, gleave_free]
  have e1 : (k == 1) = false := by simpa using k1
  have e2 : (k == 2) = false := by simpa using k2
  have e3 : (k == 3) = false := by simpa using k3
  have e4 : (k == 4) = false := by simpa using k4
  have e5 : (k == 5) = false := by simpa using k5
  have e6 : (k == 6) = false := by simpa using k6
  simp [Deed.row, hn, hle, findEntry, keyEq, e1, e2, e3, e4, e5, e6, k1, k2, k3, k4, k5, k6, hW.self, gleave_free]
end Go.Gh


/- One deed at a table, by the program. -/
namespace Go.Gh
open Go.Proofs
set_option linter.unusedSimpArgs false
set_option linter.unusedVariables false
set_option linter.unnecessarySimpa false
set_option maxRecDepth 100000
set_option maxHeartbeats 4000000
variable {c : Nat} {H : Heap}
def zeroT : Tab := ⟨0, 0, 0, []⟩
/-- What is told for a deed: a table and an error. -/
def DoV (t : Tab) (d : Deed) : Tab × Int := if chkT t ≠ 0 then (zeroT, chkT t) else if doE t d ≠ 0 then (zeroT, doE t d) else (doN t d, 0)
theorem rowsE_all {p q : Int} : ∀ {l : List (List Int)}, rowsE p q l = 0 → ∀ a ∈ l, rowE p q a = 0
  | [], _, a, ha => by simp at ha
  | b :: r, h, a, ha => by
    unfold rowsE at h
    by_cases e : rowE p q b = 0
    · rw [if_neg (not_not_intro e)] at h
      rcases List.mem_cons.1 ha with rfl | ha
      · exact e
      · exact rowsE_all h a ha
    · rw [if_pos e] at h; exact absurd h e
theorem chkT_vd {t : Tab} (h : chkT t = 0) : Vd t := by
  unfold chkT at h
  split at h
  · simp at h
  · rename_i h1
    split at h
    · simp at h
    · rename_i h2
      split at h
      · simp at h
      · split at h
        · simp at h
        · rename_i h4
          split at h
          · simp at h
          · rename_i h5
            split at h
            · rename_i h6; exact absurd h h6
            · rename_i h6
              have r1 := inB_iff.1 (by simpa using h1 : inB t.packets 1 9 = true)
              have r2 := inB_iff.1 (by simpa using h2 : inB t.passed 0 t.packets = true)
              refine ⟨by omega, by omega, by omega, fun a ha => ?_⟩
              have := rowsE_all (by simpa using h6) a ha
              unfold rowE at this
              split at this
              · rename_i e; exact absurd this e
              · rename_i e; exact wrF_len (by simpa using e)
theorem Vd.ne {t : Tab} (h : Vd t) : t.answers ≠ [] := fun e => by have := h.n; rw [e] at this; simp at this
theorem Vd.ne' {t : Tab} (h : Vd t) : ∀ a ∈ t.answers, a ≠ [] := fun a ha e => by have := h.row a ha; rw [e] at this; have := h.pk; simp at *; omega
end Go.Gh


/- A copy of a table, and one deed, by the reference. -/
namespace Go.Gh
open Go.Proofs
set_option linter.unusedSimpArgs false
set_option linter.unusedVariables false
set_option linter.unnecessarySimpa false
set_option maxRecDepth 100000
set_option maxHeartbeats 4000000
variable {c : Nat} {H : Heap}
/-- The frame of own behind so many rows. -/
def nFr (L : Nat) (t : Tab) (i : Nat) : Fr :=
  if i = 0 then [(1, .box [.pure (.int .i64 t.packets), .pure (.int .i64 t.passed), .pure (.int .i64 t.state), .nils]), (2, zb64)]
  else [(1, .box [.pure (.int .i64 t.packets), .pure (.int .i64 t.passed), .pure (.int .i64 t.state), .hdr (L, 77) 1 i 0 i]), (2, zb64), (77, .mat 1 ((t.answers.take i).map mrow) i)]
theorem ownR_loop (t : Tab) (hs : Sm t) (hne : ∀ a ∈ t.answers, a ≠ []) (Q : GX → GSt → Prop) (hH : 0 < H.length)
    (hQ : Q (.exit 0) ⟨[(1, .bptr (H.length, 1) 0), (2, .bptr (H.length, 2) 0)], nFr H.length t t.answers.length :: H, 26⟩) : ∀ k i : Nat, i + k = t.answers.length →
    WPL KC needT 89 (lp Try.f89 0) [1, 2, 3, 4] [1, 2] Q [(1, .bptr (H.length, 1) 0), (2, .bptr (H.length, 2) 0), (3, .pure (.slice (t.answers.map arow))), (4, .pure (.int .i64 (i : Nat)))] (nFr H.length t i :: H) 26 := by
  have hs1 := hs.1
  intro k
  induction k with
  | zero =>
    intro i hi
    obtain rfl : i = t.answers.length := by omega
    apply WPL_step
    conv => arg 4; whnf
    simp
    exact hQ
  | succ k ih =>
    intro i hi
    have hia : i < t.answers.length := by omega
    have hw := w64 (x := (i : Int) + 1) (by omega) (by omega)
    have hla := hs.2 _ (List.getElem_mem hia)
    have hn := hne _ (List.getElem_mem hia)
    have ih' := ih (i + 1) (by omega)
    obtain ⟨a, ha⟩ : ∃ a, t.answers[i] = a := ⟨_, rfl⟩
    rw [ha] at hla hn
    have hn' : a.isEmpty = false := by cases a; simp at hn; rfl
    have hall : ∀ x : Int, (irow x).length = 1 := fun x => rfl
    have htk : (t.answers.take (i + 1)).map mrow = (t.answers.take i).map mrow ++ [mrow a] := by rw [List.take_succ_eq_append_getElem hia, ha]; simp
    have hb : (i + 1) * 24 ≤ 1099511627776 := by omega
    have hb2 : a.length * 8 ≤ 1099511627776 := by omega
    have hlt : ((t.answers.take i).map mrow).length = i := by simp; omega
    have hmin : min i t.answers.length = i := by omega
    have hgl : (mrow a).length = a.length := by simp [mrow]
    have hi1 : ¬ i + 1 = 0 := by omega
    have hmr : a.map irow = mrow a := rfl
    apply WPL_step
    conv => arg 4; whnf
    by_cases h0 : i = 0
    · subst h0
      simp [nFr, htk, mrow] at ih'
      simp [hia, ha, arow, nFr, hw, zb64, hn, hn', hall, hb2]
      simpa [zb64] using ih'
    · simp only [nFr, if_neg hi1, htk] at ih'
      have hal2 : ∀ x ∈ mrow a, x.length = 1 := fun x hx => by
        obtain ⟨y, _, rfl⟩ := List.mem_map.1 hx; rfl
      have hmn : ¬ mrow a = [] := by simpa [mrow] using hn
      simp [hia, ha, arow, nFr, h0, hw, zb64, hn, hn', hall, hb2, hlt, hmin, hmr, hgl, hb, eq_true hal2, hmn]
      simpa [zb64] using ih'
theorem ownR_ok (t : Tab) (hs : Sm t) (h0 : t.answers ≠ []) (hne : ∀ a ∈ t.answers, a ≠ []) (hH : 0 < H.length) (hf : H.get (H.length - 1, newKey c 77) = none) :
    gcall KC (geval KC) 89 [.pure (.agg t.row)] c H = some (.agg [.pure (.int .i64 t.packets), .pure (.int .i64 t.passed), .pure (.int .i64 t.state), .hdr (H.length - 1, newKey c 77) 1 t.answers.length 0 t.answers.length], H.set (H.length - 1, newKey c 77) (wMat t)) := by
  refine WPv_eq (call_enter KC needT Try.func89 rfl rfl good89 rfl rfl rfl (by simp) hH ?_)
  have L := fun Q hQ => ownR_loop (H := H) t hs hne Q hH hQ t.answers.length 0 (by omega)
  simp [nFr, zb64] at L
  simp [Tab.row]
  refine L _ ?_
  simp [h0]
  simp [gleave_keep, KC_keep, refs, refs2, refs1, deepRefs, boxRefs, matRefs, dedup, moveOut, cleanBlk, clM, isMat, ren, ren2, ren1, hf, wMat]
theorem needed_ok (k : Int) (hH : 0 < H.length) : gcall KC (geval KC) 127 [.pure (.int .i64 k)] c H = some (.pure (.int .i64 (if k = 4 then 2 else if k = 6 then 3 else 1)), H) := by
  refine WPv_eq (call_enter KC needT Try.func127 rfl rfl good127 rfl rfl rfl (by simp) hH ?_)
  by_cases h4 : k = 4
  · simp [h4, gleave_free]
  · have h4' : (k == 4) = false := by simpa using h4
    by_cases h6 : k = 6
    · simp [h6, gleave_free]
    · have h6' : (k == 6) = false := by simpa using h6
      simp [h4, h4', h6, h6', gleave_free]
end Go.Gh


/- One deed, by the reference. -/
namespace Go.Gh
open Go.Proofs
set_option linter.unusedSimpArgs false
set_option linter.unusedVariables false
set_option linter.unnecessarySimpa false
set_option maxRecDepth 100000
set_option maxHeartbeats 4000000
variable {c : Nat} {H : Heap}
def doV (t : Tab) (d : Deed) : Tab × Int := if doE t d ≠ 0 then (zeroT, doE t d) else (doN t d, 0)
theorem doR_ok (t : Tab) (k g p n : Int) (hV : Vd t) (hk : 1 ≤ k ∧ k ≤ 6) (hH : 0 < H.length) : gcall KC (geval KC) 84 [.pure (.agg t.row), .pure (.agg (Deed.mk k g p n).row)] c H = some (.pure (.tuple [.agg (doV t ⟨k, g, p, n⟩).1.row, .int .i64 (doV t ⟨k, g, p, n⟩).2]), H) := by
  refine WPv_eq (call_enter KC needT Try.func84 rfl rfl good84 rfl rfl rfl (by simp) hH ?_)
  have N := fun c (H : Heap) (hH : 0 < H.length) k => needed_ok (c := c) (H := H) k hH
  have k1 : newKey 14 77 = 315407 := by decide
  have O := fun F => ownR_ok (c := 14) (H := F :: H) t hV.sm hV.ne hV.ne' (by simp)
  simp only [k1] at O
  have O2 := O [(2, tb t), (3, .box [.pure (.int .i64 k), .pure (.int .i64 g), .pure (.int .i64 p), .pure (.int .i64 n)]), (4, zb64)] (by simp)
  simp [tb, Tab.row, zb64, wMat] at O2
  have hnl : ¬ H.length ≤ H.length - 1 := by omega
  have hcm : ((fun r => [PV.slice r]) ∘ mrow) = arow := rfl
  have htk : (t.answers.map arow).take t.answers.length = t.answers.map arow := List.take_of_length_le (by simp)
  have hp := hV.pk
  have hps := hV.ps
  have hn := hV.n
  have W := fun c (H : Heap) (hH : 0 < H.length) (x lo hi : Int) => withinR_ok (c := c) (x := x) (lo := lo) (hi := hi) (H := H) hH
  have w1 := w64 (x := (t.answers.length : Int) - 1) (by omega) (by omega)
  have w2 := w64 (x := t.packets - 1) (by omega) (by omega)
  have w3 := w64 (x := t.passed + 1) (by omega) (by omega)
  have hk' : k = 1 ∨ k = 2 ∨ k = 3 ∨ k = 4 ∨ k = 5 ∨ k = 6 := by omega
  rcases hk' with rfl | rfl | rfl | rfl | rfl | rfl
  · by_cases a : t.state = 1
    · by_cases b : t.passed = t.packets
      · simp [a, b] at O2
        simp [doV, doE, a, b, N, O2, Tab.row, Deed.row, zb64, zeroT, gleave_free]
      · have b' : (t.passed == t.packets) = false := by simpa using b
        simp [a] at O2
        simp [doV, doE, doN, a, b, b', N, O2, w3, Tab.row, Deed.row, zb64, zeroT, gleave_free, hnl, hcm, htk]
    · have a' : (t.state != 1) = true := by simpa using a
      simp [doV, doE, a, a', N, Tab.row, Deed.row, zb64, zeroT, gleave_free]
  · by_cases a : t.state = 1
    · simp [a] at O2
      by_cases b1 : inB g 0 ((t.answers.length : Int) - 1) = false
      · simp [doV, doE, wrE, a, b1, N, O2, W, w1, Tab.row, Deed.row, zb64, zeroT, gleave_free]
      have b1' : inB g 0 ((t.answers.length : Int) - 1) = true := by simpa using b1
      by_cases b2 : inB p 0 (t.packets - 1) = false
      · simp [doV, doE, wrE, a, b1', b2, N, O2, W, w1, w2, Tab.row, Deed.row, zb64, zeroT, gleave_free]
      have b2' : inB p 0 (t.packets - 1) = true := by simpa using b2
      by_cases b3 : t.passed ≤ p
      · simp [doV, doE, wrE, a, b1', b2', b3, N, O2, W, w1, w2, Tab.row, Deed.row, zb64, zeroT, gleave_free]
      by_cases b4 : inB n (-1) 8 = false
      · simp [doV, doE, wrE, a, b1', b2', b3, b4, N, O2, W, w1, w2, Tab.row, Deed.row, zb64, zeroT, gleave_free]
      have b4' : inB n (-1) 8 = true := by simpa using b4
      have r2 := inB_iff.1 b1'
      have r3 := inB_iff.1 b2'
      have hg : g.toNat < t.answers.length := by omega
      have hg0 : ¬ g < 0 := by omega
      have hgl : g < (t.answers.length : Int) := by omega
      obtain ⟨x, hae⟩ : ∃ x, t.answers[g.toNat] = x := ⟨_, rfl⟩
      have hal := hV.row _ (List.getElem_mem hg)
      rw [hae] at hal
      have hk : p.toNat < x.length := by omega
      have hk0 : ¬ p < 0 := by omega
      have hkl : p < (x.length : Int) := by omega
      have hmr : (mrow x)[p.toNat]? = some [.int .i64 x[p.toNat]] := by simp [mrow, irow, hk]
      have hml : (mrow x).length = x.length := by simp [mrow]
      have e : (wrT t ⟨2, g, p, n⟩).answers.map arow = ((t.answers.map mrow).set g.toNat ((mrow x).set p.toNat [.int .i64 n])).map fun r => [.slice r] := by
        unfold wrT; rw [getD_lt hg, hae]
        simp only
        rw [← hcm, ← List.map_map, List.map_set, List.map_set]
        simp [mrow, irow, List.map_set]
      simp [doV, doE, wrE, doN, a, b1', b2', b3, b4', N, O2, W, w1, w2, Tab.row, Deed.row, zb64, gleave_free, hnl, hg, hg0, hgl, hae, hk0, hkl, hmr, hml]
      refine ⟨rfl, rfl, a.symm, ?_⟩
      rw [e, List.take_of_length_le (by simp), List.map_set, List.map_map]
    · have a' : (t.state != 1) = true := by simpa using a
      simp [doV, doE, wrE, a, a', N, Tab.row, Deed.row, zb64, zeroT, gleave_free]
  · by_cases a : t.state = 1
    · simp [a] at O2
      simp [doV, doE, doN, a, N, O2, Tab.row, Deed.row, zb64, gleave_free, hnl, hcm, htk]
    · have a' : (t.state != 1) = true := by simpa using a
      simp [doV, doE, a, a', N, Tab.row, Deed.row, zb64, zeroT, gleave_free]
  · by_cases a : t.state = 2
    · simp [a] at O2
      simp [doV, doE, doN, a, N, O2, Tab.row, Deed.row, zb64, gleave_free, hnl, hcm, htk]
    · have a' : (t.state != 2) = true := by simpa using a
      simp [doV, doE, a, a', N, Tab.row, Deed.row, zb64, zeroT, gleave_free]
  · by_cases a : t.state = 1
    · simp [a] at O2
      by_cases b : t.passed < t.packets
      · simp [doV, doE, doN, a, b, N, O2, Tab.row, Deed.row, zb64, zeroT, gleave_free]
      · simp [doV, doE, doN, a, b, N, O2, Tab.row, Deed.row, zb64, gleave_free, hnl, hcm, htk]
    · have a' : (t.state != 1) = true := by simpa using a
      simp [doV, doE, a, a', N, Tab.row, Deed.row, zb64, zeroT, gleave_free]
  · by_cases a : t.state = 3
    · simp [a] at O2
      simp [doV, doE, doN, a, N, O2, Tab.row, Deed.row, zb64, gleave_free, hnl, hcm, htk]
    · have a' : (t.state != 3) = true := by simpa using a
      simp [doV, doE, a, a', N, Tab.row, Deed.row, zb64, zeroT, gleave_free]
theorem DoR_ok (t : Tab) (d : Deed) (hs : Sm t) (hH : 0 < H.length) : gcall KC (geval KC) 40 [.pure (.agg t.row), .pure (.agg d.row)] c H = some (.pure (.tuple [.agg (DoV t d).1.row, .int .i64 (DoV t d).2]), H) := by
  refine WPv_eq (call_enter KC needT Try.func40 rfl rfl good40 rfl rfl rfl (by simp) hH ?_)
  have C := fun c (H : Heap) (hH : 0 < H.length) => chkTR_ok (c := c) (H := H) t hs hH
  have W := fun c (H : Heap) (hH : 0 < H.length) (x lo hi : Int) => withinR_ok (c := c) (x := x) (lo := lo) (hi := hi) (H := H) hH
  simp only [Tab.row] at C
  unfold DoV
  by_cases h1 : chkT t = 0
  · have hV := chkT_vd h1
    obtain ⟨k, g, p, n⟩ := d
    by_cases hk : inB k 1 6 = false
    · have hk' : ¬ (1 ≤ k ∧ k ≤ 6) := fun h => by rw [inB_iff.2 h] at hk; cases hk
      have e : doE t ⟨k, g, p, n⟩ = 4 := by
        unfold doE
        simp only
        rw [if_neg (by omega), if_neg (by omega), if_neg (by omega), if_neg (by omega), if_neg (by omega), if_neg (by omega)]
      simp [h1, e, hk, Tab.row, Deed.row, C, W, zeroT, gleave_free]
    · have hk' : inB k 1 6 = true := by simpa using hk
      have D := fun c (H : Heap) (hH : 0 < H.length) => doR_ok (c := c) (H := H) t k g p n hV (inB_iff.1 hk') hH
      simp only [Tab.row, Deed.row, doV] at D
      by_cases e : doE t ⟨k, g, p, n⟩ = 0
      · simp [e] at D
        simp [h1, e, hk', Tab.row, Deed.row, C, W, D, gleave_free]
      · simp [e, zeroT] at D
        simp [h1, e, hk', Tab.row, Deed.row, C, W, D, zeroT, gleave_free]
  · have h1' : (chkT t != 0) = true := by simpa using h1
    simp [h1, h1', Tab.row, Deed.row, C, zeroT, gleave_free]
end Go.Gh

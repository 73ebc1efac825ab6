/- When coals truly begin. -/
import Derived.Test.YtldhcphijclmdaaFb
import Derived.Test.YtldhcphijclmdaaPa
namespace Go.Gh
open Go.Proofs
set_option linter.unusedSimpArgs false
set_option linter.unusedVariables false
set_option maxRecDepth 100000
set_option maxHeartbeats 4000000

variable {keep : Nat → Bool} (hk : ∀ f, kept f = false → keep f = false) {c : Nat} {H : Heap}

def ini (cs : List Coal) (i : Nat) : List Int := lits (cs.take i) ++ List.replicate (cs.length - i) 0
theorem ini_len (cs : List Coal) (i : Nat) (h : i ≤ cs.length) : (ini cs i).length = cs.length := by simp [ini, lits_len]; omega
theorem ini_set (cs : List Coal) (i : Nat) (h : i < cs.length) : (ini cs i).set i (if cs[i].lit = true then 0 else 1000000) = ini cs (i + 1) := by
  unfold ini
  have hl : (lits (cs.take i)).length = i := by simp [lits_len]; omega
  rw [lits_take cs i h, List.set_append_right _ _ (by omega), hl, Nat.sub_self, show cs.length - i = (cs.length - (i + 1)) + 1 by omega, List.replicate_succ, List.set_cons_zero, List.append_assoc]
  rfl
theorem truly_loop0 (cs : List Coal) (ts : List Touch) (ca bu : List Int) (hn : cs.length ≤ 1000) (Q : GX → GSt → Prop) (hH : 0 < H.length) : ∀ (k i vf : Nat), i + k = cs.length → vf ≤ cs.length →
    (∀ vf', vf' ≤ cs.length → Q (.exit 0) ⟨[(2, .bptr (H.length, 2) 0), (3, .bptr (H.length, 3) 0), (5, .hdr (H.length, 16) 1 cs.length 0 cs.length)], tfr cs ts ca bu 16 vf' (lits cs) :: H, 114⟩) →
    WPL (KC keep) needT 38 (lp Try.f38 0) [2, 3, 5, 6] [2, 3, 5] Q [(2, .bptr (H.length, 2) 0), (3, .bptr (H.length, 3) 0), (5, .hdr (H.length, 16) 1 cs.length 0 cs.length), (6, .pure (.int .i64 i))] (tfr cs ts ca bu 16 vf (ini cs i) :: H) 114 := by
  intro k
  induction k with
  | zero =>
    intro i vf hi hv h1
    have e : i = cs.length := by omega
    subst e
    have e2 : ini cs cs.length = lits cs := by simp [ini]
    rw [e2]
    apply WPL_step
    conv => arg 4; whnf
    simp [hH, tfr]
    simpa [tfr] using h1 vf hv
  | succ k ih =>
    intro i vf hi hv h1
    have hia : i < cs.length := by omega
    have hw := w64 (x := (i : Int) + 1) (by omega) (by omega)
    have ih' := fun vf hv => ih (i + 1) vf (by omega) hv h1
    have hlen := ini_len cs i (by omega)
    have hse := ini_set cs i hia
    rw [← hse] at ih'
    generalize ini cs i = t at *
    apply WPL_step
    conv => arg 4; whnf
    by_cases hx : cs[i].lit = true
    · simp [hia, hH, Coal.row, hx, hw, tfr, hlen, hv, irow]
      simp [hx, tfr, irow] at ih'
      exact ih' _ (Nat.le_refl _)
    · simp [hia, hH, Coal.row, hx, hw, tfr, hlen, hv, irow]
      simp [hx, tfr, irow] at ih'
      exact ih' _ (Nat.le_refl _)

/-- The frame of a round over the touches, with its two ends. -/
def efr (a b : Nat) : Fr := [(9, .box [.pure (.int .i64 a), .pure (.int .i64 b)])]

section
variable (cs : List Coal) (ts : List Touch) (ca bu : List Int) {n : Nat} (hn : n ≤ 1000) (hla : ca.length = n) (hlb : bu.length = n) (hca : ∀ i, i < n → 0 ≤ ca.getD i 0 ∧ ca.getD i 0 ≤ 300)
include hn hla hlb hca
/-- One look: from a to b. -/
theorem truly_look (m : Int) (hm : 0 ≤ m ∧ m ≤ 1000) (i : Int) (Q : GX → GSt → Prop) (hH : 0 < H.length) (a b a0 b0 : Nat) (ha : a < n) (hb : b < n) (kk : Nat) (hk0 : kk = 0 ∧ a = a0 ∧ b = b0 ∨ kk = 1 ∧ a = b0 ∧ b = a0) (t : List Int) (vf : Nat) (hg : G2 n t) (hv : vf ≤ n)
    (h1 : ∀ vf', vf' ≤ n → WPL (KC keep) needT 38 (lp Try.f38 3) [2, 3, 5, 7, 8, 9, 10] [2, 3, 5, 7, 8] Q [(2, .bptr (H.length, 2) 0), (3, .bptr (H.length, 3) 0), (5, .hdr (H.length, 16) 1 n 0 n), (7, .pure (.int .i64 m)), (8, .pure (.int .i64 i)), (9, .bptr (H.length + 1 + 1, 9) 0), (10, .pure (.int .i64 ((kk + 1 : Nat) : Int)))]
      (efr a0 b0 :: [] :: tfr cs ts ca bu 16 vf' (sp1 ca bu t m a b) :: H) 114) :
    WPL (KC keep) needT 38 (lp Try.f38 3) [2, 3, 5, 7, 8, 9, 10] [2, 3, 5, 7, 8] Q [(2, .bptr (H.length, 2) 0), (3, .bptr (H.length, 3) 0), (5, .hdr (H.length, 16) 1 n 0 n), (7, .pure (.int .i64 m)), (8, .pure (.int .i64 i)), (9, .bptr (H.length + 1 + 1, 9) 0), (10, .pure (.int .i64 (kk : Int)))]
      (efr a0 b0 :: [] :: tfr cs ts ca bu 16 vf t :: H) 114 := by
  have _ := hn
  have hat : a < t.length := by rw [hg.len]; exact ha
  have hbt : b < t.length := by rw [hg.len]; exact hb
  have hac : b < ca.length := by omega
  have hbc : a < bu.length := by omega
  have v1 := hg.val a ha
  have v2 := hca b hb
  have hlen := hg.len
  unfold sp1 at h1
  rw [getD_eq hat] at h1 v1
  rw [getD_eq hbt] at h1
  rw [getD_eq hac] at h1 v2
  rw [getD_eq hbc] at h1
  apply WPL_step
  conv => arg 4; whnf
  have hw := w64 (x := t[a] + ca[b]) (by omega) (by omega)
  have hwm := w64 (x := m) (by omega) (by omega)
  have w0 : IntKind.i64.wrap 1 = 1 := rfl
  have w1 : IntKind.i64.wrap 0 = 0 := rfl
  have w2 : IntKind.i64.wrap 2 = 2 := rfl
  by_cases c1 : t[b] = 1000000
  · by_cases c2 : t[a] < 1000000
    · by_cases c3 : t[a] + ca[b] = m
      · by_cases c4 : ca[b] ≤ bu[a]
        · rcases hk0 with ⟨rfl, rfl, rfl⟩ | ⟨rfl, rfl, rfl⟩
          · simp (config := { maxSteps := 1000000 }) [hH, efr, tfr, irow, c1, c2, c3, c4, hat, hbt, hac, hbc, hlen, hv, hwm, ha, hb, w0, w1, w2]
            simp [c1, c2, c3, c4, efr, tfr, irow] at h1
            exact h1 _ (Nat.le_refl _)
          · simp (config := { maxSteps := 1000000 }) [hH, efr, tfr, irow, c1, c2, c3, c4, hat, hbt, hac, hbc, hlen, hv, hwm, ha, hb, w0, w1, w2]
            simp [c1, c2, c3, c4, efr, tfr, irow] at h1
            exact h1 _ (Nat.le_refl _)
        · rcases hk0 with ⟨rfl, rfl, rfl⟩ | ⟨rfl, rfl, rfl⟩
          · simp (config := { maxSteps := 1000000 }) [hH, efr, tfr, irow, c1, c2, c3, c4, hwm, hat, hbt, hac, hbc, hlen, hv, ha, hb, w0, w1, w2]
            simp [c1, c2, c3, c4, efr, tfr, irow] at h1
            exact h1 _ hv
          · simp (config := { maxSteps := 1000000 }) [hH, efr, tfr, irow, c1, c2, c3, c4, hwm, hat, hbt, hac, hbc, hlen, hv, ha, hb, w0, w1, w2]
            simp [c1, c2, c3, c4, efr, tfr, irow] at h1
            exact h1 _ hv
      · rcases hk0 with ⟨rfl, rfl, rfl⟩ | ⟨rfl, rfl, rfl⟩
        · simp (config := { maxSteps := 1000000 }) [hH, efr, tfr, irow, c1, c2, c3, hw, hat, hbt, hac, hbc, hlen, hv, ha, hb, w0, w1, w2]
          simp [c1, c2, c3, efr, tfr, irow] at h1
          exact h1 _ hv
        · simp (config := { maxSteps := 1000000 }) [hH, efr, tfr, irow, c1, c2, c3, hw, hat, hbt, hac, hbc, hlen, hv, ha, hb, w0, w1, w2]
          simp [c1, c2, c3, efr, tfr, irow] at h1
          exact h1 _ hv
    · rcases hk0 with ⟨rfl, rfl, rfl⟩ | ⟨rfl, rfl, rfl⟩
      · simp (config := { maxSteps := 1000000 }) [hH, efr, tfr, irow, c1, c2, hat, hbt, hac, hbc, hlen, hv, ha, hb, w0, w1, w2]
        simp [c1, c2, efr, tfr, irow] at h1
        exact h1 _ hv
      · simp (config := { maxSteps := 1000000 }) [hH, efr, tfr, irow, c1, c2, hat, hbt, hac, hbc, hlen, hv, ha, hb, w0, w1, w2]
        simp [c1, c2, efr, tfr, irow] at h1
        exact h1 _ hv
  · rcases hk0 with ⟨rfl, rfl, rfl⟩ | ⟨rfl, rfl, rfl⟩
    · simp (config := { maxSteps := 1000000 }) [hH, efr, tfr, irow, c1, hat, hbt, hac, hbc, hlen, hv, ha, hb, w0, w1, w2]
      simp [c1, efr, tfr, irow] at h1
      exact h1 _ hv
    · simp (config := { maxSteps := 1000000 }) [hH, efr, tfr, irow, c1, hat, hbt, hac, hbc, hlen, hv, ha, hb, w0, w1, w2]
      simp [c1, efr, tfr, irow] at h1
      exact h1 _ hv

theorem truly_loop3 (m : Int) (hm : 0 ≤ m ∧ m ≤ 1000) (i : Int) (Q : GX → GSt → Prop) (hH : 0 < H.length) (a b : Nat) (ha : a < n) (hb : b < n) (t : List Int) (vf : Nat) (hg : G2 n t) (hv : vf ≤ n)
    (h1 : ∀ vf', vf' ≤ n → Q (.exit 6) ⟨[(2, .bptr (H.length, 2) 0), (3, .bptr (H.length, 3) 0), (5, .hdr (H.length, 16) 1 n 0 n), (7, .pure (.int .i64 m)), (8, .pure (.int .i64 i))],
      efr a b :: [] :: tfr cs ts ca bu 16 vf' (sp1 ca bu (sp1 ca bu t m a b) m b a) :: H, 114⟩) :
    WPL (KC keep) needT 38 (lp Try.f38 3) [2, 3, 5, 7, 8, 9, 10] [2, 3, 5, 7, 8] Q [(2, .bptr (H.length, 2) 0), (3, .bptr (H.length, 3) 0), (5, .hdr (H.length, 16) 1 n 0 n), (7, .pure (.int .i64 m)), (8, .pure (.int .i64 i)), (9, .bptr (H.length + 1 + 1, 9) 0), (10, .pure (.int .i64 0))]
      (efr a b :: [] :: tfr cs ts ca bu 16 vf t :: H) 114 := by
  refine truly_look cs ts ca bu hn hla hlb hca m hm i Q hH a b a b ha hb 0 (.inl ⟨rfl, rfl, rfl⟩) t vf hg hv (fun vf1 hv1 => ?_)
  refine truly_look cs ts ca bu hn hla hlb hca m hm i Q hH b a a b hb ha 1 (.inr ⟨rfl, rfl, rfl⟩) _ vf1 (sp1_g2 hm hg) hv1 (fun vf2 hv2 => ?_)
  have h2 := h1 vf2 hv2
  apply WPL_step
  conv => arg 4; whnf
  simp [hH, efr, tfr]
  simpa [efr, tfr] using h2

theorem truly_loop2 (hts : ∀ x ∈ ts, 0 ≤ x.a ∧ x.a < n ∧ 0 ≤ x.b ∧ x.b < n) (htl : ts.length ≤ 1000) (m : Int) (hm : 0 ≤ m ∧ m ≤ 1000) (Q : GX → GSt → Prop) (hH : 0 < H.length) : ∀ (k i : Nat) (t : List Int) (vf : Nat), i + k = ts.length → G2 n t → vf ≤ n →
    (∀ vf', vf' ≤ n → Q (.exit 4) ⟨[(2, .bptr (H.length, 2) 0), (3, .bptr (H.length, 3) 0), (5, .hdr (H.length, 16) 1 n 0 n), (7, .pure (.int .i64 m))], [] :: tfr cs ts ca bu 16 vf' (mnt ca bu m (ts.drop i) t) :: H, 114⟩) →
    WPL (KC keep) needT 38 (lp Try.f38 2) [2, 3, 5, 7, 8] [2, 3, 5, 7] Q [(2, .bptr (H.length, 2) 0), (3, .bptr (H.length, 3) 0), (5, .hdr (H.length, 16) 1 n 0 n), (7, .pure (.int .i64 m)), (8, .pure (.int .i64 i))] ([] :: tfr cs ts ca bu 16 vf t :: H) 114 := by
  intro k
  induction k with
  | zero =>
    intro i t vf hi hg hv h1
    have e1 : ts.drop i = [] := List.drop_of_length_le (by omega)
    rw [e1] at h1
    apply WPL_step
    conv => arg 4; whnf
    have : ¬ i < ts.length := by omega
    simp [hH, tfr, this]
    simpa [tfr, mnt] using h1 vf hv
  | succ k ih =>
    intro i t vf hi hg hv h1
    have hia : i < ts.length := by omega
    have hw := w64 (x := (i : Int) + 1) (by omega) (by omega)
    have hx := hts ts[i] (List.getElem_mem hia)
    rw [mnt_drop ca bu m ts t i hia] at h1
    obtain ⟨a, ha⟩ : ∃ a : Nat, ts[i].a = a := ⟨ts[i].a.toNat, by omega⟩
    obtain ⟨b, hb⟩ : ∃ b : Nat, ts[i].b = b := ⟨ts[i].b.toNat, by omega⟩
    have han : a < n := by omega
    have hbn : b < n := by omega
    have ih' := fun vf hv => ih (i + 1) _ vf (by omega) (tch_g2 hm hg) hv h1
    unfold tch at ih'
    rw [ha, hb] at ih'
    simp only [Int.toNat_natCast] at ih'
    have L := fun Q hq => truly_loop3 (keep := keep) (H := H) cs ts ca bu hn hla hlb hca m hm i Q hH a b han hbn t vf hg hv hq
    simp [efr, tfr] at L
    generalize sp1 ca bu (sp1 ca bu t m a b) m b a = t' at *
    apply WPL_step
    conv => arg 4; whnf
    simp [hia, hH, Touch.row, ha, hb, tfr]
    refine L _ (fun vf' hv' => ?_)
    simp [hw, hH]
    simpa [tfr] using ih' vf' hv'

theorem truly_loop1 (hts : ∀ x ∈ ts, 0 ≤ x.a ∧ x.a < n ∧ 0 ≤ x.b ∧ x.b < n) (htl : ts.length ≤ 1000) (Q : GX → GSt → Prop) (hH : 0 < H.length) : ∀ (k i : Nat) (t : List Int) (vf : Nat), i + k = 201 → G2 n t → vf ≤ n →
    (∀ vf', vf' ≤ n → Q (.exit 2) ⟨[(5, .hdr (H.length, 16) 1 n 0 n)], tfr cs ts ca bu 16 vf' (mins ca bu ts k i t) :: H, 114⟩) →
    WPL (KC keep) needT 38 (lp Try.f38 1) [2, 3, 5, 7] [5] Q [(2, .bptr (H.length, 2) 0), (3, .bptr (H.length, 3) 0), (5, .hdr (H.length, 16) 1 n 0 n), (7, .pure (.int .i64 i))] (tfr cs ts ca bu 16 vf t :: H) 114 := by
  intro k
  induction k with
  | zero =>
    intro i t vf hi hg hv h1
    obtain rfl : i = 201 := by omega
    apply WPL_step
    conv => arg 4; whnf
    simp [hH, tfr]
    simpa [tfr, mins] using h1 vf hv
  | succ k ih =>
    intro i t vf hi hg hv h1
    have hia : (i : Int) ≤ 200 := by omega
    have hw := w64 (x := (i : Int) + 1) (by omega) (by omega)
    simp only [mins] at h1
    have ih' := fun vf hv => ih (i + 1) _ vf (by omega) (mnt_g2 (ca := ca) (bu := bu) (m := i) (by omega) ts t hg) hv h1
    have L := fun Q hq => truly_loop2 (keep := keep) (H := H) cs ts ca bu hn hla hlb hca hts htl i (by omega) Q hH ts.length 0 t vf (by omega) hg hv hq
    simp [tfr] at L
    generalize mnt ca bu i ts t = t' at *
    apply WPL_step
    conv => arg 4; whnf
    simp [hia, hH, tfr]
    refine L _ (fun vf' hv' => ?_)
    simp [hw, hH]
    simpa [tfr] using ih' vf' hv'
end
include hk in
theorem truly_ok (cs : List Coal) (ts : List Touch) (ca bu : List Int) (hn : cs.length ≤ 1000) (hla : ca.length = cs.length) (hlb : bu.length = cs.length) (hca : ∀ i, i < cs.length → 0 ≤ ca.getD i 0 ∧ ca.getD i 0 ≤ 300)
    (hts : ∀ x ∈ ts, 0 ≤ x.a ∧ x.a < cs.length ∧ 0 ≤ x.b ∧ x.b < cs.length) (htl : ts.length ≤ 1000) (hH : 0 < H.length) :
    gcall (KC keep) (geval (KC keep)) 38 [.pure (.agg [.slice (cs.map Coal.row), .slice (ts.map Touch.row)]), .pure (.agg [.slice (ca.map irow), .slice (bu.map irow)])] c H = some (.pure (.slice ((trulyL ca bu ts cs).map irow)), H) := by
  refine WPv_eq (call_enter (KC keep) needT Try.func38 rfl rfl good38 rfl (by simp) hH ?_)
  have hlt : ¬ H.length ≤ H.length - 1 := by omega
  have h0 := fun Q hq => truly_loop0 (keep := keep) (H := H) cs ts ca bu hn Q hH cs.length 0 0 (by omega) (by omega) hq
  have h1 := fun Q vf hv hq => truly_loop1 (keep := keep) (H := H) cs ts ca bu hn hla hlb hca hts htl Q hH 201 0 (lits cs) vf (by omega) (lits_g2 cs) hv hq
  have hL := (truly_g2 (ca := ca) (bu := bu) (ts := ts) cs).len
  have e0 : ini cs 0 = List.replicate cs.length 0 := by simp [ini, lits]
  rw [e0] at h0
  simp only [trulyL] at *
  simp [tfr, List.map_replicate, irow] at h0 h1
  have hb : (cs.length : Int) * 8 ≤ 1099511627776 := by omega
  simp [hb]
  refine h0 _ (fun vf hv => ?_)
  simp
  refine h1 _ vf hv (fun vf' hv' => ?_)
  simp [gleave_free, hk, kept, hlt, hL, hv']
  exact List.take_of_length_le (by simp [hL])
end Go.Gh


/- What is made of a box is valid. -/
namespace Go.Gh
open Go.Proofs
set_option linter.unusedSimpArgs false
set_option linter.unusedVariables false
set_option maxRecDepth 100000
set_option maxHeartbeats 4000000

theorem spanR_rng (w lo hi : Int) (h0 : -1000000 ≤ lo) (h : lo ≤ hi) (h1 : hi ≤ 1000000) : lo ≤ (spanR w lo hi).1.lo ∧ (spanR w lo hi).1.lo ≤ (spanR w lo hi).1.hi ∧ (spanR w lo hi).1.hi ≤ hi := by
  rw [spanR_def]
  have a1 := anyR_rng w lo hi (by omega) (by omega) h
  generalize anyR w lo hi = n at *
  simp only
  have hw := w64 (x := n.1 + 2) (by omega) (by omega)
  rw [hw]
  split
  · simp only; omega
  · split
    · simp only
      have a2 := anyR_rng (upR n.2 3).2 n.1 (if n.1 + 2 < hi then n.1 + 2 else hi) (by omega) (by split <;> omega) (by split <;> omega)
      split at a2 <;> rename_i hlt <;> simp only [hlt, if_true, if_false] <;> omega
    · simp only
      have a2 := anyR_rng (upR n.2 3).2 n.1 hi (by omega) (by omega) (by omega)
      omega
theorem inR_rng (w : Int) (x : Span) (h0 : -1000000 ≤ x.lo) (h : x.lo ≤ x.hi) (h1 : x.hi ≤ 1000000) : x.lo ≤ (inR w x).1 ∧ (inR w x).1 ≤ x.hi := by
  rw [inR_def]
  simp only
  split
  · simp only; omega
  · split
    · simp only; omega
    · exact anyR_rng _ _ _ (by omega) (by omega) h
theorem pick2_mem (w a b : Int) : (pickR w [a, b]).1 = a ∨ (pickR w [a, b]).1 = b := by
  rw [pickR_def]
  have h := upR_rng w 2 (by omega)
  simp only [List.length_cons, List.length_nil]
  rw [if_neg (by omega)]
  have e : (((0 + 1 + 1 : Nat) : Int)) = 2 := rfl
  rw [e]
  simp only
  have hc : (upR w 2).1.toNat = 0 ∨ (upR w 2).1.toNat = 1 := by omega
  rcases hc with e | e <;> rw [e] <;> simp
theorem pick3_mem (w a b d : Int) : (pickR w [a, b, d]).1 = a ∨ (pickR w [a, b, d]).1 = b ∨ (pickR w [a, b, d]).1 = d := by
  rw [pickR_def]
  have h := upR_rng w 3 (by omega)
  simp only [List.length_cons, List.length_nil]
  rw [if_neg (by omega)]
  have e : (((0 + 1 + 1 + 1 : Nat) : Int)) = 3 := rfl
  rw [e]
  simp only
  have hc : (upR w 3).1.toNat = 0 ∨ (upR w 3).1.toNat = 1 ∨ (upR w 3).1.toNat = 2 := by omega
  rcases hc with e | e | e <;> rw [e] <;> simp

/-- A coal that was made. -/
structure CMade (x : Coal) : Prop where
  k : 1 ≤ x.katch.lo ∧ x.katch.lo ≤ x.katch.hi ∧ x.katch.hi ≤ 8
  b : 1 ≤ x.burn.lo ∧ x.burn.lo ≤ x.burn.hi ∧ x.burn.hi ≤ 12
  h : 0 ≤ x.heat.lo ∧ x.heat.lo ≤ x.heat.hi ∧ x.heat.hi ≤ 40
structure FMade (m : Nat) (f : Fire) : Prop where
  n : f.coals.length ≤ m
  tn : f.touches.length ≤ 2 * f.coals.length
  coal : ∀ x ∈ f.coals, CMade x
  touch : ∀ x ∈ f.touches, 0 ≤ x.a ∧ x.a < f.coals.length ∧ 0 ≤ x.b ∧ x.b < f.coals.length ∧ x.a ≠ x.b
theorem coalR_made (w : Int) : CMade (coalR w).1 := by
  rw [coalR_def]
  refine ⟨spanR_rng _ _ _ (by omega) (by omega) (by omega), spanR_rng _ _ _ (by omega) (by omega) (by omega), ?_⟩
  simp only
  have hp := pick2_mem (spanR (spanR w 1 8).2 1 12).2 5 40
  generalize pickR (spanR (spanR w 1 8).2 1 12).2 [5, 40] = p at *
  have := spanR_rng p.2 0 p.1 (by omega) (by omega) (by omega)
  omega
theorem coalsR_made : ∀ (n : Nat) (w : Int), ∀ x ∈ (coalsR n w).1, CMade x
  | 0, w, x, hx => by simp [coalsR] at hx
  | n + 1, w, x, hx => by
    rcases List.mem_cons.1 hx with rfl | hx
    · exact coalR_made w
    · exact coalsR_made n _ x hx
theorem touchR_made (n w : Int) (hn : 2 ≤ n) (hn2 : n ≤ 1000000) : 0 ≤ (touchR n w).1.a ∧ (touchR n w).1.a < n ∧ 0 ≤ (touchR n w).1.b ∧ (touchR n w).1.b < n ∧ (touchR n w).1.a ≠ (touchR n w).1.b := by
  rw [touchR_def]
  simp only
  have h1 := upR_rng w n (by omega)
  generalize upR w n = a at *
  have hw := w64 (x := n - 1) (by omega) (by omega)
  rw [hw]
  have h2 := anyR_rng a.2 1 (n - 1) (by omega) (by omega) (by omega)
  generalize anyR a.2 1 (n - 1) = b at *
  have hw2 := w64 (x := a.1 + b.1) (by omega) (by omega)
  rw [hw2, fitF_def, if_neg (by omega)]
  have e : (a.1 + b.1).tmod n = if a.1 + b.1 < n then a.1 + b.1 else a.1 + b.1 - n := by
    rw [Int.tmod_eq_emod_of_nonneg (by omega)]
    split
    · exact Int.emod_eq_of_lt (by omega) (by omega)
    · rw [← Int.sub_emod_right]
      exact Int.emod_eq_of_lt (by omega) (by omega)
  rw [e]
  by_cases hlt : a.1 + b.1 < n
  · rw [if_pos hlt, if_neg (by omega)]; omega
  · rw [if_neg hlt, if_neg (by omega)]; omega
theorem touchesR_made (m : Int) (hm : 2 ≤ m) (hm2 : m ≤ 1000000) : ∀ (n : Nat) (w : Int), ∀ x ∈ (touchesR m n w).1, 0 ≤ x.a ∧ x.a < m ∧ 0 ≤ x.b ∧ x.b < m ∧ x.a ≠ x.b
  | 0, w, x, hx => by simp [touchesR] at hx
  | n + 1, w, x, hx => by
    rcases List.mem_cons.1 hx with rfl | hx
    · exact touchR_made m w hm hm2
    · exact touchesR_made m hm hm2 n _ x hx
theorem fireR_made (m : Nat) (w : Int) (hm : m ≤ 100) : FMade m (fireR m w).1 := by
  rw [fireR_def]
  simp only
  have hw := w64 (x := (m : Int) + 1) (by omega) (by omega)
  rw [hw]
  have h1 := upR_rng w (m + 1) (by omega)
  generalize upR w (m + 1) = k at *
  have hl := coalsR_len k.1.toNat k.2
  have hc := coalsR_made k.1.toNat k.2
  generalize coalsR k.1.toNat k.2 = cs at *
  have h2 := upR_rng cs.2 (2 * (cs.1.length : Int) + 1) (by omega)
  generalize upR cs.2 (2 * (cs.1.length : Int) + 1) = q at *
  have htl := touchesR_len cs.1.length (if 1 < cs.1.length then q.1.toNat else 0) q.2
  refine ⟨by simp only; omega, by simp only; rw [htl]; split <;> omega, hc, fun x hx => ?_⟩
  simp only at hx ⊢
  by_cases hn : 1 < cs.1.length
  · exact touchesR_made _ (by omega) (by omega) _ _ x hx
  · rw [if_neg hn] at hx
    simp [touchesR] at hx
theorem firstErr_ok {α : Type} {g : α → Int} : ∀ {l : List α}, (∀ x ∈ l, g x = 0) → firstErr g l = 0
  | [], _ => rfl
  | x :: r, h => by
    simp only [firstErr]
    rw [if_neg (by simpa using h x (List.mem_cons_self ..))]
    exact firstErr_ok fun y hy => h y (List.mem_cons_of_mem _ hy)
theorem faultF_ok {a b lo hi : Int} (h : lo ≤ a ∧ a ≤ b ∧ b ≤ hi) : faultF a b lo hi = 0 := by
  rw [faultF_def, if_pos (by simp [inB]; omega), if_neg (by omega)]
theorem made_check {m : Nat} {f : Fire} (h : FMade m f) (hm : m ≤ 12) : checkF f.coals f.touches = 0 := by
  rw [checkF_def]
  have hn := h.n
  have htn := h.tn
  rw [if_neg (by omega), if_neg (by
    rw [firstErr_ok]; · simp
    intro x hx
    obtain ⟨h1, h2, h3⟩ := h.coal x hx
    rw [coalF_def, faultF_ok (by omega), faultF_ok (by omega), faultF_ok (by omega)]; simp), if_neg (by omega)]
  refine firstErr_ok fun x hx => ?_
  obtain ⟨h1, h2, h3, h4, h5⟩ := h.touch x hx
  rw [touchF_def]
  simp [inB]
  omega
end Go.Gh


/- Which functions keep blocks of their results. -/
namespace Go.Gh
open Go.Proofs
set_option linter.unusedSimpArgs false
set_option linter.unusedVariables false
@[simp] theorem clean_gdead {H : Heap} {l0 : Nat} : clean H l0 gdead = gdead := .trans rfl rfl
theorem kp0_ok : ∀ f, kept f = false → kp0 f = false := by
  intro f h
  unfold kept at h
  unfold kp0
  simp at h ⊢
  omega
end Go.Gh

/- Plain: the search finds the first of the fewest. -/
import Derived.Test.YtldhcphijclmdaaFn
import Derived.Test.YtldhcphijclmdaaGl
namespace Go.Gh
set_option linter.unusedSimpArgs false
set_option linter.unusedVariables false

def lessL : List Int → List Int → Bool
  | a :: r, b :: s => if a = b then lessL r s else decide (a < b)
  | _, _ => false
theorem lessL_asymm : ∀ {x z : List Int}, lessL x z = true → lessL z x = false
  | [], z, h => by simp [lessL] at h
  | a :: r, [], h => by simp [lessL] at h
  | a :: r, b :: s, h => by
    simp only [lessL] at h ⊢
    by_cases e : a = b
    · rw [if_pos e] at h
      rw [if_pos e.symm]
      exact lessL_asymm h
    · rw [if_neg e] at h
      rw [if_neg (fun e2 => e e2.symm)]
      have : a < b := by simpa using h
      simp; omega
def asc (n : Nat) : Nat → List Int → Prop
  | _, [] => True
  | fr, a :: r => ∃ i : Nat, a = i ∧ fr ≤ i ∧ i < n ∧ asc n (i + 1) r
theorem asc.weak {n fr fr' : Nat} (h : fr' ≤ fr) : ∀ {z : List Int}, asc n fr z → asc n fr' z
  | [], _ => trivial
  | a :: r, ⟨i, h1, h2, h3, h4⟩ => ⟨i, h1, by omega, h3, h4⟩
theorem asc_len {n : Nat} : ∀ {fr : Nat} {z : List Int}, fr ≤ n → asc n fr z → z.length + fr ≤ n
  | fr, [], h, _ => by simpa using h
  | fr, a :: r, h, ⟨i, h1, h2, h3, h4⟩ => by
    have := asc_len (by omega) h4
    simp only [List.length_cons]; omega
theorem asc.mem {n : Nat} : ∀ {fr : Nat} {z : List Int}, asc n fr z → ∀ x ∈ z, 0 ≤ x ∧ x < n
  | fr, [], _, x, hx => by cases hx
  | fr, a :: r, ⟨i, h1, h2, h3, h4⟩, x, hx => by
    rcases List.mem_cons.1 hx with rfl | hx
    · omega
    · exact asc.mem h4 x hx

/-- What is found below a choice. -/
def Found (P : List Int → Bool) (n len : Nat) (ch : List Int) (fr : Nat) (r : Option (List Int)) : Prop :=
  (∀ x, r = some x → ∃ y, asc n fr y ∧ y.length = len ∧ x = ch ++ y ∧ P x = true ∧ ∀ z, asc n fr z → z.length = len → P (ch ++ z) = true → z = y ∨ lessL y z = true) ∧
  (r = none → ∀ z, asc n fr z → z.length = len → P (ch ++ z) = false)
theorem found_loop {P : List Int → Bool} {n left : Nat} (ih : ∀ ch fr, fr ≤ n → Found P n left ch fr (findS P n left ch fr)) (ch : List Int) : ∀ (j i : Nat), i + j = n → Found P n (left + 1) ch i (findLoop (findS P n left) ch j i)
  | 0, i, hi => by
    refine ⟨fun x h => by simp [findLoop] at h, fun _ z hz hl => ?_⟩
    cases z with
    | nil => simp at hl
    | cons a r => obtain ⟨k, h1, h2, h3, h4⟩ := hz; omega
  | j + 1, i, hi => by
    obtain ⟨q1, q2⟩ := ih (ch ++ [(i : Int)]) (i + 1) (by omega)
    obtain ⟨p1, p2⟩ := found_loop ih ch j (i + 1) (by omega)
    simp only [findLoop]
    cases e : findS P n left (ch ++ [(i : Int)]) (i + 1) with
    | some x =>
      obtain ⟨y, y1, y2, y3, y4, y5⟩ := q1 x e
      refine ⟨fun x' hx' => ?_, fun h => by cases h⟩
      obtain rfl := Option.some.inj hx'
      refine ⟨(i : Int) :: y, ⟨i, rfl, Nat.le_refl _, by omega, y1⟩, by simp [y2], by rw [y3]; simp, y4, fun z hz hl hp => ?_⟩
      cases z with
      | nil => simp at hl
      | cons a r =>
        obtain ⟨k, h1, h2, h3, h4⟩ := hz
        by_cases hk : k = i
        · subst hk
          subst h1
          have hp' : P ((ch ++ [(k : Int)]) ++ r) = true := by simpa using hp
          rcases y5 r h4 (by simpa using hl) hp' with e2 | e2
          · left; rw [e2]
          · right; simp [lessL, e2]
        · right
          have : ¬ ((i : Int) = a) := by omega
          simp only [lessL, if_neg this]
          simp; omega
    | none =>
      have hnone := q2 e
      have key : ∀ z, asc n i z → z.length = left + 1 → P (ch ++ z) = true → asc n (i + 1) z := by
        intro z hz hl hp
        cases z with
        | nil => trivial
        | cons a r =>
          obtain ⟨k, h1, h2, h3, h4⟩ := hz
          by_cases hk : k = i
          · subst hk
            subst h1
            have := hnone r h4 (by simpa using hl)
            have hp' : P ((ch ++ [(k : Int)]) ++ r) = true := by simpa using hp
            rw [this] at hp'
            cases hp'
          · exact ⟨k, h1, by omega, h3, h4⟩
      refine ⟨fun x hx => ?_, fun hx z hz hl => ?_⟩
      · obtain ⟨y, y1, y2, y3, y4, y5⟩ := p1 x hx
        exact ⟨y, y1.weak (by omega), y2, y3, y4, fun z hz hl hp => y5 z (key z hz hl hp) hl hp⟩
      · cases hp : P (ch ++ z) with
        | false => rfl
        | true => rw [← hp]; exact p2 hx z (key z hz hl hp) hl
theorem found_all (P : List Int → Bool) (n : Nat) : ∀ (left : Nat) (ch : List Int) (fr : Nat), fr ≤ n → Found P n left ch fr (findS P n left ch fr)
  | 0, ch, fr, h => by
    simp only [findS]
    cases e : P ch with
    | true =>
      refine ⟨fun x hx => ?_, fun hx => by simp at hx⟩
      have : x = ch := by simpa using hx.symm
      subst this
      refine ⟨[], trivial, rfl, by simp, e, fun z hz hl hp => ?_⟩
      left; exact List.length_eq_zero_iff.1 hl
    | false =>
      refine ⟨fun x hx => by simp at hx, fun _ z hz hl => ?_⟩
      rw [List.length_eq_zero_iff.1 hl]
      simpa using e
  | left + 1, ch, fr, h => by
    simp only [findS]
    exact found_loop (found_all P n left) ch (n - fr) fr (by omega)
theorem size_spec (P : List Int → Bool) (n : Nat) : ∀ (j s : Nat), s + j = n + 1 →
    (∀ x, sizeLoop P n j s = some x → asc n 0 x ∧ P x = true ∧ s ≤ x.length ∧ ∀ z, asc n 0 z → P z = true → s ≤ z.length → z = x ∨ x.length < z.length ∨ (x.length = z.length ∧ lessL x z = true)) ∧
    (sizeLoop P n j s = none → ∀ z, asc n 0 z → s ≤ z.length → P z = false)
  | 0, s, h => by
    refine ⟨fun x hx => by simp [sizeLoop] at hx, fun _ z hz hl => ?_⟩
    have := asc_len (Nat.zero_le n) hz
    omega
  | j + 1, s, h => by
    obtain ⟨q1, q2⟩ := found_all P n s [] 0 (Nat.zero_le n)
    obtain ⟨p1, p2⟩ := size_spec P n j (s + 1) (by omega)
    simp only [sizeLoop]
    cases e : findS P n s [] 0 with
    | some x =>
      obtain ⟨y, y1, y2, y3, y4, y5⟩ := q1 x e
      simp only [List.nil_append] at y3 y5
      subst y3
      refine ⟨fun x' hx' => ?_, fun hx => by cases hx⟩
      obtain rfl := Option.some.inj hx'
      refine ⟨y1, y4, by omega, fun z hz hp hl => ?_⟩
      by_cases hs : z.length = s
      · rcases y5 z hz hs hp with e2 | e2
        · exact .inl e2
        · exact .inr (.inr ⟨by omega, e2⟩)
      · exact .inr (.inl (by omega))
    | none =>
      have hnone := q2 e
      simp only [List.nil_append] at hnone
      refine ⟨fun x hx => ?_, fun hx z hz hl => ?_⟩
      · obtain ⟨y1, y2, y3, y4⟩ := p1 x hx
        refine ⟨y1, y2, by omega, fun z hz hp hl => ?_⟩
        by_cases hs : z.length = s
        · have := hnone z hz hs
          rw [this] at hp; cases hp
        · exact y4 z hz hp (by omega)
      · by_cases hs : z.length = s
        · exact hnone z hz hs
        · exact p2 hx z hz (by omega)

/-! ### all choices, by their bits -/
def bitsR : Nat → Nat → Nat → List Int
  | _, 0, _ => []
  | m, j + 1, i => if m % 2 = 1 then (i : Int) :: bitsR (m / 2) j (i + 1) else bitsR (m / 2) j (i + 1)
theorem bitsR_asc : ∀ (j m i n : Nat), i + j = n → asc n i (bitsR m j i)
  | 0, m, i, n, h => trivial
  | j + 1, m, i, n, h => by
    have ih := bitsR_asc j (m / 2) (i + 1) n (by omega)
    simp only [bitsR]
    split
    · exact ⟨i, rfl, Nat.le_refl _, by omega, ih⟩
    · exact ih.weak (by omega)
theorem bitsR_sur : ∀ (j i n : Nat) (y : List Int), i + j = n → asc n i y → ∃ m, m < 2 ^ j ∧ bitsR m j i = y
  | 0, i, n, y, h, hy => by
    cases y with
    | nil => exact ⟨0, by simp, rfl⟩
    | cons a r => obtain ⟨k, h1, h2, h3, h4⟩ := hy; omega
  | j + 1, i, n, y, h, hy => by
    have low : asc n (i + 1) y → ∃ m, m < 2 ^ (j + 1) ∧ bitsR m (j + 1) i = y := by
      intro hy'
      obtain ⟨m, h1, h2⟩ := bitsR_sur j (i + 1) n y (by omega) hy'
      refine ⟨2 * m, by rw [Nat.pow_succ]; omega, ?_⟩
      have e1 : 2 * m % 2 = 0 := by omega
      have e2 : 2 * m / 2 = m := by omega
      simp only [bitsR, e1, e2, h2]
      rfl
    cases y with
    | nil => exact low trivial
    | cons a r =>
      obtain ⟨k, h1, h2, h3, h4⟩ := hy
      by_cases hk : k = i
      · subst hk
        obtain ⟨m, m1, m2⟩ := bitsR_sur j (k + 1) n r (by omega) h4
        refine ⟨2 * m + 1, by rw [Nat.pow_succ]; omega, ?_⟩
        have e1 : (2 * m + 1) % 2 = 1 := by omega
        have e2 : (2 * m + 1) / 2 = m := by omega
        simp only [bitsR, e1, e2, m2, if_true, h1]
      · exact low ⟨k, h1, by omega, h3, h4⟩
/-- The law of the fewest. -/
theorem fewest_some {P : List Int → Bool} {n : Nat} {x : List Int} (h : sizeLoop P n (n + 1) 0 = some x) : asc n 0 x ∧ P x = true ∧ (∃ m, m < 2 ^ n ∧ bitsR m n 0 = x) ∧
    ∀ y, asc n 0 y → P y = true → y ≠ x → ¬ y.length < x.length ∧ (y.length = x.length → lessL y x = false) := by
  obtain ⟨h1, h2, h3, h4⟩ := (size_spec P n (n + 1) 0 (by omega)).1 x h
  refine ⟨h1, h2, bitsR_sur n 0 n x (by omega) h1, fun y hy hp hne => ?_⟩
  rcases h4 y hy hp (Nat.zero_le _) with e | e | ⟨e1, e2⟩
  · exact absurd e hne
  · exact ⟨by omega, fun e2 => by omega⟩
  · exact ⟨by omega, fun _ => lessL_asymm e2⟩
theorem fewest_none {P : List Int → Bool} {n : Nat} (h : sizeLoop P n (n + 1) 0 = none) : ∀ y, asc n 0 y → P y = false :=
  fun y hy => (size_spec P n (n + 1) 0 (by omega)).2 h y hy (Nat.zero_le _)
end Go.Gh


/- Has, less; a fire of some coals is valid. -/
namespace Go.Gh
open Go.Proofs
set_option linter.unusedSimpArgs false
set_option linter.unusedVariables false
set_option maxRecDepth 100000
set_option maxHeartbeats 4000000

variable {keep : Nat → Bool} (hk : ∀ f, kept f = false → keep f = false) {c : Nat} {H : Heap}

def hasL (v : Int) : List Int → Bool
  | [] => false
  | a :: r => if a = v then true else hasL v r
theorem has_loop (l : List Int) (v : Int) (hn : l.length ≤ 100000) (Q : GX → GSt → Prop) (hH : 0 < H.length) : ∀ (j i : Nat), i + j = l.length →
    (hasL v (l.drop i) = false → Q (.exit 0) ⟨[(4, gdead)], [] :: H, 18⟩) →
    (hasL v (l.drop i) = true → Q .ret ⟨[(4, .pure (.bool true))], [] :: H, 18⟩) →
    WPL (KC keep) needT 61 (lp Try.f61 0) [0, 1, 5] [4] Q [(0, .pure (.slice (l.map irow))), (1, .pure (.int .i64 v)), (5, .pure (.int .i64 i))] ([] :: H) 18 := by
  intro j
  induction j with
  | zero =>
    intro i hi h1 h2
    have hia : ¬ i < l.length := by omega
    rw [List.drop_of_length_le (by omega)] at h1
    have h1' := h1 rfl
    apply WPL_step
    conv => arg 4; whnf
    simp [hia]
    exact h1'
  | succ j ih =>
    intro i hi h1 h2
    have hia : i < l.length := by omega
    have hw := w64 (x := (i : Int) + 1) (by omega) (by omega)
    rw [List.drop_eq_getElem_cons hia, hasL] at h1 h2
    by_cases e : l[i] = v
    · rw [if_pos e] at h2
      have h2' := h2 rfl
      apply WPL_step
      conv => arg 4; whnf
      simp [hia, irow, e]
      exact h2'
    · rw [if_neg e] at h1 h2
      have ih' := ih (i + 1) (by omega) h1 h2
      have e' : (l[i] == v) = false := by simpa using e
      apply WPL_step
      conv => arg 4; whnf
      simp [hia, irow, e, e', hw]
      exact ih'
include hk in
theorem has_ok (l : List Int) (v : Int) (hn : l.length ≤ 100000) (hH : 0 < H.length) : gcall (KC keep) (geval (KC keep)) 61 [.pure (.slice (l.map irow)), .pure (.int .i64 v)] c H = some (.pure (.bool (hasL v l)), H) := by
  refine WPv_eq (call_enter (KC keep) needT Try.func61 rfl rfl good61 rfl (by simp) hH ?_)
  have h0 := fun Q h1 h2 => has_loop (keep := keep) (H := H) l v hn Q hH l.length 0 (by omega) h1 h2
  simp only [List.drop_zero] at h0
  simp
  refine h0 _ (fun e => ?_) (fun e => ?_)
  · rw [e]; simp [gleave_free, hk, kept]
  · rw [e]; simp [gleave_free, hk, kept]
theorem less_loop (a b : List Int) (hn : a.length ≤ 100000) (hn2 : b.length ≤ 100000) (Q : GX → GSt → Prop) (hH : 0 < H.length) : ∀ (j i : Nat), i + j = a.length →
    (lessL (a.drop i) (b.drop i) = false → Q (.exit 0) ⟨[(4, gdead)], [] :: H, 36⟩) →
    (Q .ret ⟨[(4, .pure (.bool (lessL (a.drop i) (b.drop i))))], [] :: H, 36⟩) →
    WPL (KC keep) needT 62 (lp Try.f62 0) [0, 1, 5] [4] Q [(0, .pure (.slice (a.map irow))), (1, .pure (.slice (b.map irow))), (5, .pure (.int .i64 i))] ([] :: H) 36 := by
  intro j
  induction j with
  | zero =>
    intro i hi h1 h2
    have hia : ¬ i < a.length := by omega
    rw [List.drop_of_length_le (by omega)] at h1
    have h1' := h1 rfl
    apply WPL_step
    conv => arg 4; whnf
    simp [hia]
    exact h1'
  | succ j ih =>
    intro i hi h1 h2
    have hia : i < a.length := by omega
    have hw := w64 (x := (i : Int) + 1) (by omega) (by omega)
    by_cases hib : i < b.length
    · rw [List.drop_eq_getElem_cons hia, List.drop_eq_getElem_cons hib, lessL] at h1 h2
      by_cases e : a[i] = b[i]
      · rw [if_pos e] at h1 h2
        have ih' := ih (i + 1) (by omega) h1 h2
        apply WPL_step
        conv => arg 4; whnf
        simp [hia, hib, irow, e, hw]
        exact ih'
      · rw [if_neg e] at h1 h2
        have e' : (a[i] != b[i]) = true := by simpa using e
        apply WPL_step
        conv => arg 4; whnf
        simp [hia, hib, irow, e, e', hw]
        simpa using h2
    · rw [List.drop_of_length_le (show b.length ≤ i by omega)] at h1
      have e1 : lessL (a.drop i) [] = false := by cases a.drop i <;> rfl
      have h1' := h1 e1
      apply WPL_step
      conv => arg 4; whnf
      simp [hia, hib]
      exact h1'
include hk in
theorem less_ok (a b : List Int) (hn : a.length ≤ 100000) (hn2 : b.length ≤ 100000) (hH : 0 < H.length) : gcall (KC keep) (geval (KC keep)) 62 [.pure (.slice (a.map irow)), .pure (.slice (b.map irow))] c H = some (.pure (.bool (lessL a b)), H) := by
  refine WPv_eq (call_enter (KC keep) needT Try.func62 rfl rfl good62 rfl (by simp) hH ?_)
  have h0 := fun Q h1 h2 => less_loop (keep := keep) (H := H) a b hn hn2 Q hH a.length 0 (by omega) h1 h2
  simp only [List.drop_zero] at h0
  simp
  refine h0 _ (fun e => ?_) ?_
  · rw [e]; simp [gleave_free, hk, kept]
  · generalize lessL a b = z
    simp [gleave_free, hk, kept]

/-! ### plain -/
theorem works_aux (k : Kettle) (fro : Nat) : ∀ (R : List Span) (m : Nat), fro ≤ m → (!hasL 2 (R.map (verd k)) && !hasL 3 (R.map (verd k))) = enoughL k fro m R
  | [], m, h => rfl
  | s :: R, m, h => by
    have ih := works_aux k fro R (m + 1) (by omega)
    have hv : verd k s = singsF k.sing k.boil s.lo s.hi := rfl
    have h3 : singsF k.sing k.boil s.lo s.hi = 1 ∨ singsF k.sing k.boil s.lo s.hi = 2 ∨ singsF k.sing k.boil s.lo s.hi = 3 := by
      rw [singsF_def]
      split
      · exact .inl rfl
      · split
        · exact .inr (.inl rfl)
        · exact .inr (.inr rfl)
    simp only [List.map_cons, hasL, enoughL, hv]
    generalize singsF k.sing k.boil s.lo s.hi = v at *
    rcases h3 with rfl | rfl | rfl
    · simpa using ih
    · simp [h]
    · simp [h]
theorem works_eq (k : Kettle) (fro : Nat) (R : List Span) : (!hasL 2 ((R.map (verd k)).drop fro) && !hasL 3 ((R.map (verd k)).drop fro)) = enoughL k fro 0 R := by
  rw [enoughL_skip k fro fro 0 R (by omega), ← List.map_drop]
  exact works_aux k fro (R.drop fro) fro (Nat.le_refl _)
theorem posI_val (ch : List Int) : ∀ (i : Nat) (v p : Int), mget (posI ch i) v = some p → ch.getD p.toNat 0 = v
  | 0, v, p, h => by simp [posI, mget, mfind] at h
  | i + 1, v, p, h => by
    simp only [posI, mget_mset] at h
    split at h
    · rename_i e
      simp only [Option.some.injEq] at h
      subst h
      simpa using e.symm
    · exact posI_val ch i v p h
theorem only_check {m : Nat} {cs : List Coal} {ts : List Touch} (hm : FMade m ⟨cs, ts⟩) (hm12 : m ≤ 12) {ch : List Int} (hch : ∀ x ∈ ch, 0 ≤ x ∧ x < cs.length) (hn : ch.length ≤ 12) : checkF (onlyF cs ts ch).coals (onlyF cs ts ch).touches = 0 := by
  have htl := touchesO_len (posI ch ch.length) ts
  have h1 := hm.n
  have h2 := hm.tn
  simp only at h1 h2
  rw [onlyF_def, checkF_def]
  simp only
  rw [if_neg (by simp; omega), if_neg (by
    rw [firstErr_ok]; · simp
    intro x hx
    obtain ⟨a, ha, rfl⟩ := List.mem_map.1 hx
    have := hch a ha
    have hl : a.toNat < cs.length := by omega
    have e : coalAt cs a = cs[a.toNat] := by simp [coalAt, List.getD_eq_getElem?_getD, hl]
    obtain ⟨h1, h2, h3⟩ := hm.coal cs[a.toNat] (List.getElem_mem hl)
    rw [e, coalF_def, faultF_ok (by omega), faultF_ok (by omega), faultF_ok (by omega)]; simp), if_neg (by omega)]
  refine firstErr_ok fun x hx => ?_
  simp only [touchesO, List.mem_flatMap] at hx
  obtain ⟨t, ht, hx⟩ := hx
  have ht5 := (hm.touch t ht).2.2.2.2
  unfold touchO at hx
  split at hx
  · rename_i a b e1 e2
    simp only [List.mem_singleton] at hx
    subst hx
    have l1 := posI_lt _ _ _ _ e1
    have l2 := posI_lt _ _ _ _ e2
    have v1 := posI_val _ _ _ _ e1
    have v2 := posI_val _ _ _ _ e2
    have hab : a ≠ b := by
      intro e
      subst e
      rw [v1] at v2
      exact ht5 v2
    rw [touchF_def]
    simp [inB]
    omega
  · simp at hx
end Go.Gh


/- HearthFewest: the rounds. -/
namespace Go.Gh
open Go.Proofs
set_option linter.unusedSimpArgs false
set_option linter.unusedVariables false
set_option maxRecDepth 100000
set_option maxHeartbeats 4000000

theorem shr_fact : ∀ m < 32, ∀ i < 5, ((m : Nat) : Int).fdiv (2 ^ (min i 64)) = ((m / 2 ^ i : Nat) : Int) := by decide +kernel
theorem and_fact : ∀ q < 32, band .i64 ((q : Nat) : Int) 1 = ((q % 2 : Nat) : Int) := by decide +kernel
theorem shl_fact : ∀ n < 6, IntKind.i64.wrap (2 ^ (min n 64)) = ((2 ^ n : Nat) : Int) := by decide +kernel

theorem few_inner (cs : List Coal) (ts : List Touch) (hn : cs.length ≤ 5) (m : Nat) (hm : m < 32) (F : Fr) (h4 : F.get 4 = some (.box [.pure (.slice (cs.map Coal.row)), .pure (.slice (ts.map Touch.row))])) (l : List Pour) (t7 t8 code : Int) (x : List Int) (b11 : Bool) (Q : GX → GSt → Prop) : ∀ (j i : Nat) (rows : List (List PV)), i + j = cs.length → rows.length ≤ i →
    Q (.exit 2) ⟨[(4, .bptr (1, 4) 0), (5, .bptr (1, 5) 0), (6, .pure (.slice (l.map Pour.row))), (7, .pure (.int .i64 t7)), (8, .pure (.int .i64 t8)), (9, .pure (.slice (x.map irow))), (10, .pure (.int .i64 code)), (11, .pure (.bool b11)), (12, .pure (.int .i64 m)), (13, apS (2, 81) 1 (rows ++ (bitsR (m / 2 ^ i) j i).map irow))], apF 81 1 (rows ++ (bitsR (m / 2 ^ i) j i).map irow) [] :: [F, []], 162⟩ →
    WPL (KC kp0) needT 12 (lp Try.f12 1) [4, 5, 6, 7, 8, 9, 10, 11, 12, 13, 14] [4, 5, 6, 7, 8, 9, 10, 11, 12, 13] Q
      [(4, .bptr (1, 4) 0), (5, .bptr (1, 5) 0), (6, .pure (.slice (l.map Pour.row))), (7, .pure (.int .i64 t7)), (8, .pure (.int .i64 t8)), (9, .pure (.slice (x.map irow))), (10, .pure (.int .i64 code)), (11, .pure (.bool b11)), (12, .pure (.int .i64 m)), (13, apS (2, 81) 1 rows), (14, .pure (.int .i64 i))]
      (apF 81 1 rows [] :: [F, []]) 162 := by
  intro j
  induction j with
  | zero =>
    intro i rows hi hr h1
    have hia : ¬ i < cs.length := by omega
    simp only [bitsR, List.map_nil, List.append_nil] at h1
    apply WPL_step
    conv => arg 4; whnf
    simp [h4, hia]
    exact h1
  | succ j ih =>
    intro i rows hi hr h1
    have hia : i < cs.length := by omega
    have hw := w64 (x := (i : Int) + 1) (by omega) (by omega)
    have hb : (rows.length + 1) * 8 ≤ 1099511627776 := by omega
    have hq : m / 2 ^ i < 32 := Nat.lt_of_le_of_lt (Nat.div_le_self _ _) hm
    have f1 := shr_fact m hm i (by omega)
    have f2 := and_fact (m / 2 ^ i) hq
    have ed : m / 2 ^ i / 2 = m / 2 ^ (i + 1) := by rw [Nat.div_div_eq_div_mul, Nat.pow_succ]
    simp only [bitsR] at h1
    rw [ed] at h1
    by_cases hb1 : m / 2 ^ i % 2 = 1
    · rw [if_pos hb1] at h1
      have ih' := ih (i + 1) (rows ++ [irow (i : Int)]) (by omega) (by simp; omega) (by simpa using h1)
      rw [hb1] at f2
      generalize m / 2 ^ i = q at *
      apply WPL_step
      conv => arg 4; whnf
      simp [h4, hia, hw, hb, f1, f2]
      simpa [irow] using ih'
    · have hb0 : m / 2 ^ i % 2 = 0 := by omega
      rw [if_neg hb1] at h1
      have ih' := ih (i + 1) rows (by omega) (by omega) h1
      rw [hb0] at f2
      generalize m / 2 ^ i = q at *
      apply WPL_step
      conv => arg 4; whnf
      simp [h4, hia, hw, hb, f1, f2]
      simpa [irow] using ih'

/-- What the calls of a round answer. -/
structure RFew (k : Kettle) (cs : List Coal) (ts : List Touch) (l : List Pour) (t7 t8 : Nat) (y : List Int) (b : Bool) (o : Fire) (vs : List Int) : Prop where
  on : ∀ H c, 0 < H.length → gcall (KC kp0) (geval (KC kp0)) 60 [.pure (.agg [.slice (cs.map Coal.row), .slice (ts.map Touch.row)]), .pure (.slice (y.map irow))] c H = some (.pure (.agg o.row), H)
  si : ∀ H c, 0 < H.length → gcall (KC kp0) (geval (KC kp0)) 46 [.pure (.agg k.row), .pure (.agg o.row), .pure (.slice (l.map Pour.row)), .pure (.int .i64 t8)] c H = some (.pure (.tuple [.slice (vs.map irow), .int .i64 0]), H)
  len : vs.length = t8 + 1
  wk : (!hasL 2 (vs.drop t7) && !hasL 3 (vs.drop t7)) = b
theorem rfew {k : Kettle} {cs : List Coal} {ts : List Touch} {l : List Pour} {t7 t8 : Nat} (hko : KOk k) (hm : FMade 5 ⟨cs, ts⟩) (hps : psOk k.water 0 l) (hpl : l.length ≤ 20) (h8 : t8 ≤ 300) {y : List Int} (hy : asc cs.length 0 y) :
    ∃ o vs, RFew k cs ts l t7 t8 y (layP k ⟨cs, ts⟩ l t7 t8 y) o vs := by
  have hn := hm.n
  have htn := hm.tn
  simp only at hn htn
  have hyl := asc_len (Nat.zero_le _) hy
  have hch := hy.mem
  have hc0 := made_check hm (by omega)
  simp only at hc0
  have hf := fireOk_of hc0
  have hoc := only_check hm (by omega) hch (by omega)
  have O := fun (H : Heap) (c : Nat) hH => onlyR_ok (keep := kp0) (H := H) (c := c) kp0_ok cs ts y hch hf.touch (by omega) (by omega) (by omega) hH
  have ha := asked_ok0 (k := k) (f := onlyF cs ts y) (l := l) (n := t8) hko hoc hpl hps (by omega)
  have S := fun (H : Heap) (c : Nat) hH => Sings_ok (keep := kp0) (H := H) (c := c) kp0_ok rfl rfl k (onlyF cs ts y) l t8 hH
  have eR := runA_def k (onlyF cs ts y) l t8
  rw [if_pos ha] at eR
  rw [eR] at S
  have hl := runL_len k (fun m => heatL (onlyF cs ts y).coals (beginsL (onlyF cs ts y).coals (onlyF cs ts y).touches) m) ((t8 : Int).toNat + 1) 0 ⟨k.water, k.warm.lo, k.warm.hi⟩ l
  rw [layP_def]
  simp only [Int.toNat_natCast] at S hl
  exact ⟨onlyF cs ts y, _, O, S, by simp [hl], works_eq k t7 _⟩
def anyB (P : List Int → Bool) (n : Nat) : Nat → Bool
  | 0 => false
  | m + 1 => anyB P n m || P (bitsR m n 0)
theorem anyB_true {P : List Int → Bool} {n : Nat} : ∀ {m j : Nat}, j < m → P (bitsR j n 0) = true → anyB P n m = true
  | 0, j, h, _ => by omega
  | m + 1, j, h, hp => by
    simp only [anyB]
    by_cases e : j = m
    · rw [← e, hp]; simp
    · rw [anyB_true (show j < m by omega) hp]; simp
theorem anyB_false {P : List Int → Bool} {n : Nat} (h : ∀ j, P (bitsR j n 0) = false) : ∀ m, anyB P n m = false
  | 0 => rfl
  | m + 1 => by simp [anyB, anyB_false h m, h m]

def outS (l : List Pour) (t7 t8 code : Int) (x : List Int) (b11 : Bool) (m : Int) : Slots := [(4, .bptr (1, 4) 0), (5, .bptr (1, 5) 0), (6, .pure (.slice (l.map Pour.row))), (7, .pure (.int .i64 t7)), (8, .pure (.int .i64 t8)), (9, .pure (.slice (x.map irow))), (10, .pure (.int .i64 code)), (11, .pure (.bool b11)), (12, .pure (.int .i64 m))]
theorem few_step {k : Kettle} {cs : List Coal} {ts : List Touch} {l : List Pour} {t7 t8 : Nat} {o : Fire} {vs : List Int} {b b11 : Bool} {x : List Int} {code : Int} {m : Nat} {F : Fr} (hn : cs.length ≤ 5) (hm : m < 2 ^ cs.length) (h78 : t7 ≤ t8) (h8 : t8 ≤ 300) (hxl : x.length ≤ 100)
    (h4 : F.get 4 = some (.box [.pure (.slice (cs.map Coal.row)), .pure (.slice (ts.map Touch.row))])) (h5 : F.get 5 = some (.box (k.row.map .pure)))
    (R : RFew k cs ts l t7 t8 (bitsR m cs.length 0) b o vs)
    (hcase : (code = 0 ∧ ((bitsR m cs.length 0 = x ∧ b = true) ∨ (bitsR m cs.length 0 ≠ x ∧ (b = true → ¬ (bitsR m cs.length 0).length < x.length ∧ ((bitsR m cs.length 0).length = x.length → lessL (bitsR m cs.length 0) x = false))))) ∨ (code = 7 ∧ b = false)) (Q : GX → GSt → Prop)
    (h : WPL (KC kp0) needT 12 (lp Try.f12 0) [4, 5, 6, 7, 8, 9, 10, 11, 12] [2, 10, 11] Q (outS l t7 t8 code x (b11 || b) (m + 1)) [F, []] 162) :
    WPL (KC kp0) needT 12 (lp Try.f12 0) [4, 5, 6, 7, 8, 9, 10, 11, 12] [2, 10, 11] Q (outS l t7 t8 code x b11 m) [F, []] 162 := by
  have h32 : 2 ^ cs.length ≤ 2 ^ 5 := Nat.pow_le_pow_right (by omega) hn
  have hm32 : m < 32 := by have : (2 : Nat) ^ 5 = 32 := rfl; omega
  have hsl := shl_fact cs.length (by omega)
  have hw := w64 (x := (m : Int) + 1) (by omega) (by omega)
  have hin := fun Q hq => few_inner cs ts hn m hm32 F h4 l t7 t8 code x b11 Q cs.length 0 [] (by omega) (by simp) hq
  have hyl := asc_len (Nat.zero_le cs.length) (bitsR_asc cs.length m 0 cs.length (by omega))
  have hd0 : m / 2 ^ 0 = m := by simp
  rw [hd0] at hin
  simp only [List.nil_append] at hin
  have hmi : (m : Int) < ((2 ^ cs.length : Nat) : Int) := by omega
  generalize ((2 ^ cs.length : Nat) : Int) = p2 at *
  generalize bitsR m cs.length 0 = y at *
  obtain ⟨rows, hrows⟩ : ∃ rows, rows = y.map irow := ⟨_, rfl⟩
  obtain ⟨fT, hfT⟩ : ∃ fT : Fr, fT = if rows = [] then [] else [(81, .arr 1 rows 0 true)] := ⟨_, rfl⟩
  have z1 : frzVal [apF 81 1 rows [], F, []] (apS (2, 81) 1 rows) = (frzS rows, [fT, F, []]) := by
    rw [frzVal_apS' (vf := 0) (ro := false) (fun hr => by simp [apF, hr]) (by omega), frzH, hfT]
    by_cases hr : rows = []
    · simp [hr, apF]
    · simp [hr, apF]
  have z2 : frzVal [fT, F, []] (apS (2, 81) 1 rows) = (frzS rows, [fT, F, []]) := by
    rw [frzVal_apS' (vf := 0) (ro := true) (fun hr => by simp [hfT, hr]) (by omega), frzH, hfT]
    by_cases hr : rows = []
    · simp [hr]
    · simp [hr]
  have T1 := fun (c : Nat) => (gcall_g3 (K := KC kp0) (rec := geval (KC kp0)) (f := 60) (c := c) (q := .agg [.slice (cs.map Coal.row), .slice (ts.map Touch.row)]) rfl z1 (canon_frzS rows)).trans (show gcall (KC kp0) (geval (KC kp0)) 60 [.pure (.agg [.slice (cs.map Coal.row), .slice (ts.map Touch.row)]), .pure (.slice rows)] c [fT, F, []] = some (.pure (.agg o.row), [fT, F, []]) from by rw [hrows]; exact R.on _ c (by simp))
  have T2 := R.si
  have T3 := fun (H : Heap) (c : Nat) v hH => has_ok (keep := kp0) (H := H) (c := c) kp0_ok (vs.drop t7) v (by have := R.len; simp; omega) hH
  have T4 := fun (c : Nat) => (gcall_g2 (K := KC kp0) (rec := geval (KC kp0)) (f := 57) (c := c) (q := .slice (x.map irow)) rfl z2 (canon_frzS rows)).trans (show gcall (KC kp0) (geval (KC kp0)) 57 [.pure (.slice rows), .pure (.slice (x.map irow))] c [fT, F, []] = some (.pure (.bool (decide (y = x))), [fT, F, []]) from by rw [hrows]; exact eqInts_ok (keep := kp0) kp0_ok y x (by simp) (by omega))
  have T5 := fun (c : Nat) => (gcall_g2 (K := KC kp0) (rec := geval (KC kp0)) (f := 62) (c := c) (q := .slice (x.map irow)) rfl z2 (canon_frzS rows)).trans (show gcall (KC kp0) (geval (KC kp0)) 62 [.pure (.slice rows), .pure (.slice (x.map irow))] c [fT, F, []] = some (.pure (.bool (lessL y x)), [fT, F, []]) from by rw [hrows]; exact less_ok (keep := kp0) kp0_ok y x (by omega) (by omega) (by simp))
  have hrl : rows.length = y.length := by rw [hrows]; simp
  have hvl := R.len
  have hvl' : (vs.length : Int) = (t8 : Int) + 1 := by omega
  have hw8 := w64 (x := (t8 : Int) + 1) (by omega) (by omega)
  have hwk := R.wk
  rw [← hrows] at hin
  clear z1 z2 hfT
  generalize hh2 : hasL 2 (vs.drop t7) = q2 at *
  generalize hh3 : hasL 3 (vs.drop t7) = q3 at *
  have T32 := fun (H : Heap) (c : Nat) hH => (T3 H c 2 hH).trans (by rw [hh2])
  have T33 := fun (H : Heap) (c : Nat) hH => (T3 H c 3 hH).trans (by rw [hh3])
  have ht7 : t7 ≤ vs.length := by omega
  simp only [List.map_drop] at T32 T33
  have tk : List.take vs.length (vs.map irow) = vs.map irow := List.take_of_length_le (by simp)
  have r1 : ∀ x : Int, (irow x).length = 1 := fun _ => rfl
  have hbb : b = (!q2 && !q3) := hwk.symm
  subst hbb
  unfold outS at h ⊢
  simp [apS_nil, apF_nil] at hin
  simp only [Fire.row, Kettle.row] at T1 T2
  rcases hcase with ⟨hc, hcase⟩ | ⟨hc, hbf⟩
  · subst hc
    rcases hcase with ⟨hyx, hbt⟩ | ⟨hyx, hlt⟩
    · have hq2 : q2 = false := by cases q2 <;> simp_all
      have hq3 : q3 = false := by cases q3 <;> simp_all
      subst hq2
      subst hq3
      cases b11 <;>
        (apply WPL_step
         conv => arg 4; whnf
         simp [h4, hsl, hmi]
         refine hin _ ?_
         simp [h4, h5, T1, T2, T32, T33, T4, T5, hrl, hvl', hw8, ht7, tk, r1, Kettle.row, Fire.row, hw, hyx]
         simpa using h)
    · have hyx' : decide (y = x) = false := by simpa using hyx
      cases q2 with
      | true =>
        cases b11 <;>
          (apply WPL_step
           conv => arg 4; whnf
           simp [h4, hsl, hmi]
           refine hin _ ?_
           simp [h4, h5, T1, T2, T32, T33, T4, T5, hrl, hvl', hw8, ht7, tk, r1, Kettle.row, Fire.row, hw, hyx, hyx']
           simpa using h)
      | false =>
        cases q3 with
        | true =>
          cases b11 <;>
            (apply WPL_step
             conv => arg 4; whnf
             simp [h4, hsl, hmi]
             refine hin _ ?_
             simp [h4, h5, T1, T2, T32, T33, T4, T5, hrl, hvl', hw8, ht7, tk, r1, Kettle.row, Fire.row, hw, hyx, hyx']
             simpa using h)
        | false =>
          obtain ⟨g1, g2⟩ := hlt rfl
          by_cases hle : y.length = x.length
          · have g3 := g2 hle
            have hle' : ((y.length : Int) == (x.length : Int)) = true := by rw [hle]; simp
            cases b11 <;>
              (apply WPL_step
               conv => arg 4; whnf
               simp [h4, hsl, hmi]
               refine hin _ ?_
               simp [h4, h5, T1, T2, T32, T33, T4, T5, hrl, hvl', hw8, ht7, tk, r1, Kettle.row, Fire.row, hw, hyx, hyx', g1, g3, hle, hle']
               simpa using h)
          · have hle' : ((y.length : Int) == (x.length : Int)) = false := by simp; omega
            cases b11 <;>
              (apply WPL_step
               conv => arg 4; whnf
               simp [h4, hsl, hmi]
               refine hin _ ?_
               simp [h4, h5, T1, T2, T32, T33, T4, T5, hrl, hvl', hw8, ht7, tk, r1, Kettle.row, Fire.row, hw, hyx, hyx', g1, hle, hle']
               simpa using h)
  · subst hc
    cases q2 with
    | true =>
      cases b11 <;>
        (apply WPL_step
         conv => arg 4; whnf
         simp [h4, hsl, hmi]
         refine hin _ ?_
         simp [h4, h5, T1, T2, T32, T33, T4, T5, hrl, hvl', hw8, ht7, tk, r1, Kettle.row, Fire.row, hw]
         simpa using h)
    | false =>
      cases q3 with
      | true =>
        cases b11 <;>
          (apply WPL_step
           conv => arg 4; whnf
           simp [h4, hsl, hmi]
           refine hin _ ?_
           simp [h4, h5, T1, T2, T32, T33, T4, T5, hrl, hvl', hw8, ht7, tk, r1, Kettle.row, Fire.row, hw]
           simpa using h)
      | false => simp at hbf
theorem few_findLoop_len {f : List Int → Nat → Option (List Int)} {m : Nat} (hf : ∀ ch fr x, f ch fr = some x → x.length = ch.length + m) (ch : List Int) : ∀ (j i : Nat) (x : List Int), findLoop f ch j i = some x → x.length = ch.length + (m + 1)
  | 0, i, x, h => by simp [findLoop] at h
  | j + 1, i, x, h => by
    simp only [findLoop] at h
    cases e : f (ch ++ [(i : Int)]) (i + 1) with
    | some y =>
      rw [e] at h
      simp only [Option.some.injEq] at h
      subst h
      have := hf _ _ _ e
      simp at this
      omega
    | none =>
      rw [e] at h
      exact few_findLoop_len hf ch j (i + 1) x h
theorem few_findS_len (P : List Int → Bool) (n : Nat) : ∀ (left : Nat) (ch : List Int) (fr : Nat) (x : List Int), findS P n left ch fr = some x → x.length = ch.length + left
  | 0, ch, fr, x, h => by
    simp only [findS] at h
    split at h
    · rw [← Option.some.inj h]; rfl
    · cases h
  | left + 1, ch, fr, x, h => by
    simp only [findS] at h
    exact few_findLoop_len (few_findS_len P n left) ch _ _ x h
theorem few_sizeLoop_len (P : List Int → Bool) (n : Nat) : ∀ (j s : Nat) (x : List Int), sizeLoop P n j s = some x → x.length < s + j
  | 0, s, x, h => by simp [sizeLoop] at h
  | j + 1, s, x, h => by
    simp only [sizeLoop] at h
    cases e : findS P n s [] 0 with
    | some y =>
      rw [e] at h
      simp only [Option.some.injEq] at h
      subst h
      have := few_findS_len P n s [] 0 _ e
      simp at this
      omega
    | none =>
      rw [e] at h
      have := few_sizeLoop_len P n j (s + 1) x h
      omega
theorem few_layA_len (k : Kettle) (f : Fire) (l : List Pour) (fro to : Int) : (layA k f l fro to).1.length ≤ 100 := by
  rw [layA_def]
  split
  · simp
  · split
    · simp
    · split
      · simp
      · split
        · simp
        · split
          · rename_i x e
            have := few_sizeLoop_len _ _ _ _ _ e
            simp only; omega
          · simp

end Go.Gh

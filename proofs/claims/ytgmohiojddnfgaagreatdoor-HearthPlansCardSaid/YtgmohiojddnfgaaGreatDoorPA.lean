/- The reference's words, parts and numbers. -/
import Derived.Test.YtgmohiojddnfgaaGreatDoorWA
import Derived.Test.YtgmohiojddnfgaaGreatDoorWC
import Derived.Test.YtgmohiojddnfgaaGreatDoorCtx
import Derived.Test.YtgmohiojddnfgaaGreatDoorRows
namespace Go.Gh
open Go.Proofs
set_option linter.unusedSimpArgs false
set_option linter.unusedVariables false
set_option maxRecDepth 100000
set_option maxHeartbeats 2000000

variable {c : Nat} {H : Heap}
/-! ### row -/
theorem row_loop (ns : List Int) (hn : ns.length ≤ 1000000) (hr : ∀ n ∈ ns, -9223372036854775808 ≤ n ∧ n ≤ 9223372036854775807) (Q : GX → GSt → Prop) (hH : 0 < H.length) : ∀ (k i : Nat) (w : List UInt8), i + k = ns.length → (w ++ numsS (ns.drop i)).length ≤ 1099511627776 →
    (Q (.exit 0) ⟨[(0, .pure (.str (w ++ numsS (ns.drop i))))], H, 21⟩) →
    WPL KC needT 54 (lp Tryz.f54 0) [0, 1, 5] [0] Q [(0, .pure (.str w)), (1, .pure (.slice (ns.map irow))), (5, .pure (.int .i64 i))] H 21 := by
  intro k
  induction k with
  | zero =>
    intro i w hi hb h1
    have hia : ¬ i < ns.length := by omega
    have e1 : ns.drop i = [] := List.drop_of_length_le (by omega)
    rw [e1] at h1
    have e2 : numsS [] = [] := rfl
    rw [e2, List.append_nil] at h1
    apply WPL_step
    conv => arg 4; whnf
    simp [hia, hH]
    exact h1
  | succ k ih =>
    intro i w hi hb h1
    have hia : i < ns.length := by omega
    have hw := w64 (x := (i : Int) + 1) (by omega) (by omega)
    have hd : ns.drop i = ns[i] :: ns.drop (i + 1) := List.drop_eq_getElem_cons hia
    have hs : numsS (ns.drop i) = (32 :: itoaL ns[i]) ++ numsS (ns.drop (i + 1)) := by rw [hd]; rfl
    have hri := hr ns[i] (List.getElem_mem hia)
    rw [hs, ← List.append_assoc] at hb h1
    have ih' := ih (i + 1) (w ++ 32 :: itoaL ns[i]) (by omega) hb h1
    have hI : ∀ c G, 0 < List.length G → gcall KC (geval KC) 51 [.pure (.int .i64 ns[i])] c G = some (.pure (.str (itoaL ns[i])), G) := fun c G hG => itoa_ok hri.1 hri.2 hG
    have l1 : w.length + 1 ≤ 4611686018427387904 := by simp at hb; omega
    have l2 : w.length + 1 + (itoaL ns[i]).length ≤ 4611686018427387904 := by simp at hb; omega
    apply WPL_step
    conv => arg 4; whnf
    simp [hia, irow, hI, hw, l1, l2, hH]
    simpa using ih'
theorem row_ok {w : List UInt8} {ns : List Int} (hn : ns.length ≤ 1000000) (hr : ∀ n ∈ ns, -9223372036854775808 ≤ n ∧ n ≤ 9223372036854775807) (hb : (wordS w ns).length ≤ 1099511627776) (hH : 0 < H.length) :
    gcall KC (geval KC) 54 [.pure (.str w), .pure (.slice (ns.map irow))] c H = some (.pure (.str (wordS w ns)), H) := by
  refine WPv_eq (call_enter KC needT Tryz.func54 rfl rfl good54 rfl rfl rfl (by simp) hH ?_)
  have h0 := fun Q hq => row_loop (H := [] :: H) ns hn hr Q (by simp) ns.length 0 w (by omega) (by simpa [wordS] using hb) hq
  simp at h0
  simp
  refine h0 _ ?_
  simp [gleave_free, wordS]

/-! ### number -/
theorem byte_lt (b : UInt8) : (b.toNat : Int) < 256 := by have := b.toNat_lt; omega
theorem num_loopR (w : List UInt8) (hn : w.length ≤ 6) (Q : GX → GSt → Prop) (hH : 0 < H.length) : ∀ (k i : Nat) (acc : Int), i + k = w.length → 0 ≤ acc → acc < 10 ^ i →
    (∀ n, numD acc (w.drop i) = some n → Q (.exit 0) ⟨[(2, gdead), (3, gdead), (4, .pure (.int .i64 n))], H, 49⟩) →
    (∀ v, numD acc (w.drop i) = none → Q .ret ⟨[(2, .pure (.int .i64 0)), (3, .pure (.bool false)), (4, v)], H, 49⟩) →
    WPL KC needT 96 (lp Tryz.f96 0) [0, 4, 5] [2, 3, 4] Q [(0, .pure (.str w)), (4, .pure (.int .i64 acc)), (5, .pure (.int .i64 i))] H 49 := by
  intro k
  induction k with
  | zero =>
    intro i acc hi h0 hlt h1 h2
    have hia : ¬ i < w.length := by omega
    have e1 : w.drop i = [] := List.drop_of_length_le (by omega)
    rw [e1] at h1
    have h1' := h1 acc rfl
    apply WPL_step
    conv => arg 4; whnf
    simp [hia, hH]
    exact h1'
  | succ k ih =>
    intro i acc hi h0 hlt h1 h2
    have hia : i < w.length := by omega
    have hw := w64 (x := (i : Int) + 1) (by omega) (by omega)
    have hd : w.drop i = w[i] :: w.drop (i + 1) := List.drop_eq_getElem_cons hia
    have hb := byte_lt w[i]
    have h10 : (10 : Int) ^ i ≤ 10 ^ 5 := by
      have := Nat.pow_le_pow_right (n := 10) (by omega) (show i ≤ 5 by omega)
      exact_mod_cast this
    rw [hd] at h1 h2
    apply WPL_step
    conv => arg 4; whnf
    by_cases c1 : w[i].toNat < 48
    · have h2' := h2 (.pure (.int .i64 acc)) (by rw [numD, if_pos (.inl c1)])
      have c1' : (w[i].toNat : Int) < 48 := by omega
      simp [hia, hH, c1, c1']
      exact h2'
    · by_cases c2 : 57 < w[i].toNat
      · have h2' := h2 (.pure (.int .i64 acc)) (by rw [numD, if_pos (.inr c2)])
        have c1' : ¬ (w[i].toNat : Int) < 48 := by omega
        have c2' : (57 : Int) < w[i].toNat := by omega
        simp [hia, hH, c1, c1', c2, c2']
        exact h2'
      · have c1' : ¬ (w[i].toNat : Int) < 48 := by omega
        have c2' : ¬ (57 : Int) < w[i].toNat := by omega
        have e1 : numD acc (w[i] :: w.drop (i + 1)) = numD (10 * acc + ((w[i].toNat : Int) - 48)) (w.drop (i + 1)) := by
          rw [numD, if_neg (by omega)]
        rw [e1] at h1 h2
        have hu : IntKind.u8.wrap ((w[i].toNat : Int) - 48) = (w[i].toNat : Int) - 48 := by rw [IntKind.wrap_u8]; omega
        have hw1 := w64 (x := (w[i].toNat : Int) - 48) (by omega) (by omega)
        have hw2 := w64 (x := 10 * acc) (by omega) (by omega)
        have hw3 := w64 (x := 10 * acc + ((w[i].toNat : Int) - 48)) (by omega) (by omega)
        have ih' := ih (i + 1) (10 * acc + ((w[i].toNat : Int) - 48)) (by omega) (by omega) (by rw [Int.pow_succ]; omega) h1 h2
        simp [hia, hH, c1, c1', c2, c2', hu, hw, hw1, hw2, hw3]
        simpa using ih'

def numRG : Option Int → PV
  | some n => .tuple [.int .i64 n, .bool true]
  | none => .tuple [.int .i64 0, .bool false]
theorem numberR_ok (w : List UInt8) (hn : w.length ≤ 9223372036854775807) (hH : 0 < H.length) : gcall KC (geval KC) 96 [.pure (.str w)] c H = some (.pure (numRG (numV w)), H) := by
  rw [← numR_eq]
  refine WPv_eq (call_enter KC needT Tryz.func96 rfl rfl good96 rfl rfl rfl (by simp) hH ?_)
  by_cases c1 : w.length < 1
  · have hv : numR w = none := by unfold numR; rw [if_pos (.inl c1)]
    have c1' : (w.length : Int) < 1 := by omega
    rw [hv]
    simp [c1, c1', numRG, gleave_free]
  · by_cases c2 : 6 < w.length
    · have hv : numR w = none := by unfold numR; rw [if_pos (.inr (.inl c2))]
      have c1' : ¬ (w.length : Int) < 1 := by omega
      have c2' : (6 : Int) < w.length := by omega
      rw [hv]
      simp [c1, c1', c2, c2', numRG, gleave_free]
    · obtain ⟨b0, r, rfl⟩ : ∃ b0 r, w = b0 :: r := by
        cases w with
        | nil => exact absurd (by simp) c1
        | cons b0 r => exact ⟨b0, r, rfl⟩
      have c1' : ¬ ((b0 :: r).length : Int) < 1 := by omega
      have c2' : ¬ (6 : Int) < (b0 :: r).length := by omega
      have h48 : ∀ x : UInt8, ((x.toNat : Int) == 48) = decide (x = 48) := fun x => by
        rw [Bool.eq_iff_iff]
        simp only [beq_iff_eq, decide_eq_true_eq]
        constructor
        · intro h
          apply UInt8.toNat_inj.1
          have e : (48 : UInt8).toNat = 48 := rfl
          omega
        · intro h
          subst h
          rfl
      have hL := fun Q h1 h2 => num_loopR (H := [] :: H) (b0 :: r) (by omega) Q (by simp) (b0 :: r).length 0 0 (by omega) (by omega) (by omega) h1 h2
      have hx : numR (b0 :: r) = if b0 = 48 ∧ 1 < (b0 :: r).length then none else numD 0 (b0 :: r) := by
        unfold numR
        by_cases c3 : b0 = 48 ∧ 1 < (b0 :: r).length
        · rw [if_pos c3, if_pos (.inr (.inr ⟨by rw [c3.1]; rfl, c3.2⟩))]
        · rw [if_neg c3, if_neg (fun h => by
            rcases h with h | h | ⟨h, h2⟩
            · exact c1 h
            · exact c2 h
            · exact c3 ⟨by simpa using h, h2⟩)]
      rw [hx]
      clear hx
      simp only [List.length_cons] at c1 c1' c2 c2'
      have d1 : ¬ (r.length : Int) + 1 < 1 := by omega
      have d2 : ¬ (6 : Int) < (r.length : Int) + 1 := by omega
      have d3 : ¬ (r.length : Int) < 0 := by omega
      have d4 : ¬ (r.length : Int) + 1 ≤ 0 := by omega
      by_cases c3 : b0 = 48
      · by_cases c4 : 1 < (b0 :: r).length
        · rw [if_pos ⟨c3, c4⟩]
          simp only [List.length_cons] at c4
          have c4' : (1 : Int) < (r.length : Int) + 1 := by omega
          simp (maxSteps := 20000) [d1, d2, d3, d4, h48, c3, c4', numRG, gleave_free]
        · rw [if_neg (fun h => c4 h.2)]
          simp only [List.length_cons] at c4
          have c4' : ¬ (1 : Int) < (r.length : Int) + 1 := by omega
          have d5 : ¬ (0 : Int) < (r.length : Int) := by omega
          subst c3
          simp at hL
          simp (maxSteps := 20000) [d1, d2, d3, d4, d5, h48, c4']
          refine hL _ (fun n h => ?_) (fun v h => ?_)
          · rw [h]; simp [numRG, gleave_free]
          · rw [h]; simp [numRG, gleave_free]
      · rw [if_neg (fun h => c3 h.1)]
        simp at hL
        simp (maxSteps := 20000) [d1, d2, d3, d4, h48, c3]
        refine hL _ (fun n h => ?_) (fun v h => ?_)
        · rw [h]; simp [numRG, gleave_free]
        · rw [h]; simp [numRG, gleave_free]

/-! ### split -/
theorem split_loopR (s : List UInt8) (b : UInt8) (hs : s.length ≤ 100000) (T : List (List UInt8)) (Q : GX → GSt → Prop) (hH : 0 < H.length)
    (hq : Q (.exit 0) ⟨[(5, apS (H.length, 31) 1 (T.map srow))], apF 31 1 (T.map srow) [] :: H, 35⟩) : ∀ (k i fr : Nat) (out : List (List UInt8)), i + k = s.length → fr ≤ i → out.length ≤ i → b ∉ (s.take i).drop fr → out ++ splitL b (s.drop fr) = T →
    WPL KC needT 58 (lp Tryz.f58 0) [0, 1, 5, 6, 7] [5] Q [(0, .pure (.str s)), (1, .pure (.int .u8 b.toNat)), (5, apS (H.length, 31) 1 (out.map srow)), (6, .pure (.int .i64 fr)), (7, .pure (.int .i64 i))] (apF 31 1 (out.map srow) [] :: H) 35 := by
  intro k
  induction k with
  | zero =>
    intro i fr out hi hf ho hb hT
    have hil : i = s.length := by omega
    have hw := w64 (x := (i : Int) + 1) (by omega) (by omega)
    have hb2 : (out.length + 1) * 16 ≤ 1099511627776 := by omega
    apply WPL_step
    conv => arg 4; whnf
    have hfs : fr ≤ s.length := by omega
    have htk : s.take i = s := List.take_of_length_le (by omega)
    rw [htk] at hb
    rw [split_word hb] at hT
    subst hT
    have hw' : IntKind.i64.wrap ((s.length : Int) + 1) = (s.length : Int) + 1 := by rw [← hil]; exact hw
    have hnl : ¬ (s.length : Int) + 1 ≤ s.length := by omega
    simp [srow] at hq
    simp [hil, hw', hb2, srow, hfs, hH]
    apply WPL_step
    conv => arg 4; whnf
    simp [hnl, hH]
    exact hq
  | succ k ih =>
    intro i fr out hi hf ho hb hT
    have hia : i < s.length := by omega
    have hw := w64 (x := (i : Int) + 1) (by omega) (by omega)
    have hb2 : (out.length + 1) * 16 ≤ 1099511627776 := by omega
    have hle : (i : Int) ≤ s.length := by omega
    have hle2 : i ≤ s.length := by omega
    have hne : ¬ (i : Int) = s.length := by omega
    have hne2 : ((i : Int) == s.length) = false := by simpa using hne
    have hts : s.take (i + 1) = s.take i ++ [s[i]] := List.take_succ_eq_append_getElem hia
    have hlen : (s.take i).length = i := by rw [List.length_take]; omega
    have hsp : s.drop fr = (s.take i).drop fr ++ s[i] :: s.drop (i + 1) := by
      have h1 : s = s.take i ++ s.drop i := (List.take_append_drop i s).symm
      have h2 : s.drop i = s[i] :: s.drop (i + 1) := List.drop_eq_getElem_cons hia
      rw [h2] at h1
      have h3 := congrArg (List.drop fr) h1
      rw [List.drop_append_of_le_length (by omega)] at h3
      exact h3
    apply WPL_step
    conv => arg 4; whnf
    by_cases c1 : s[i] = b
    · have ih' := ih (i + 1) (i + 1) (out ++ [(s.take i).drop fr]) (by omega) (by omega) (by simp; omega) (by rw [List.drop_of_length_le (by rw [List.length_take]; omega)]; simp) (by
        rw [← hT, hsp, c1, split_app _ hb]; simp)
      simp [srow] at ih'
      simp [hia, hw, hb2, srow, c1, hle, hle2, hne, hf, hH]
      simpa using ih'
    · have ih' := ih (i + 1) fr out (by omega) (by omega) (by omega) (by
        rw [hts, List.drop_append_of_le_length (by omega)]
        intro hm
        rcases List.mem_append.1 hm with hm | hm
        · exact hb hm
        · rw [List.mem_singleton] at hm; exact c1 hm.symm) hT
      have c1' : ((s[i].toNat : Int) == b.toNat) = false := by
        rw [beq_eq_false_iff_ne]
        intro h
        exact c1 (UInt8.toNat_inj.1 (by omega))
      simp [hia, hw, hle, hle2, hne, hne2, c1', hH]
      simpa using ih'
theorem splitR_ok (s : List UInt8) (b : UInt8) (hs : s.length ≤ 100000) (hH : 0 < H.length) : gcall KC (geval KC) 58 [.pure (.str s), .pure (.int .u8 b.toNat)] c H = some (.pure (.slice ((splitL b s).map srow)), H) := by
  refine WPv_eq (call_enter KC needT Tryz.func58 rfl rfl good58 rfl rfl rfl (by simp) hH ?_)
  have h0 := fun Q hq => split_loopR (H := H) s b hs (splitL b s) Q hH hq s.length 0 0 [] (by omega) (by omega) (by simp) (by simp) (by simp)
  simp [apS_nil, apF_nil] at h0
  simp
  refine h0 _ ?_
  simp [gleave_free]
  exact cc_apS rfl (by omega)
end Go.Gh


/- The reference's lists of numbers. -/
namespace Go.Gh
open Go.Proofs
set_option linter.unusedSimpArgs false
set_option linter.unusedVariables false
set_option maxRecDepth 100000
set_option maxHeartbeats 2000000

variable {c : Nat} {H : Heap}
theorem nums_loopR (ws : List (List UInt8)) (hn : ws.length ≤ 1000000) (hsz : ∀ w ∈ ws, w.length ≤ 281474976710656) (Q : GX → GSt → Prop) (hH : 0 < H.length) : ∀ (k i : Nat) (acc : List Int), i + k = ws.length → acc.length + k ≤ 1000000 →
    (∀ ns, allNum (ws.drop i) = some ns → Q (.exit 0) ⟨[(4, gdead), (5, gdead), (6, apS (H.length, 33) 1 ((acc ++ ns).map irow))], apF 33 1 ((acc ++ ns).map irow) [] :: H, 35⟩) →
    (∀ rows, allNum (ws.drop i) = none → Q .ret ⟨[(4, .nils), (5, .pure (.bool false)), (6, apS (H.length, 33) 1 rows)], apF 33 1 rows [] :: H, 35⟩) →
    WPL KC needT 59 (lp Tryz.f59 0) [0, 6, 7] [4, 5, 6] Q [(0, .pure (.slice (ws.map srow))), (6, apS (H.length, 33) 1 (acc.map irow)), (7, .pure (.int .i64 i))] (apF 33 1 (acc.map irow) [] :: H) 35 := by
  intro k
  induction k with
  | zero =>
    intro i acc hi hb h1 h2
    have hia : ¬ i < ws.length := by omega
    have e1 : ws.drop i = [] := List.drop_of_length_le (by omega)
    rw [e1] at h1
    have h1' := h1 [] rfl
    rw [List.append_nil] at h1'
    apply WPL_step
    conv => arg 4; whnf
    simp [hia]
    exact h1'
  | succ k ih =>
    intro i acc hi hb h1 h2
    have hia : i < ws.length := by omega
    have hw := w64 (x := (i : Int) + 1) (by omega) (by omega)
    have hd : ws.drop i = ws[i] :: ws.drop (i + 1) := List.drop_eq_getElem_cons hia
    have hsi := hsz ws[i] (List.getElem_mem hia)
    have hN := fun c G (hG : 0 < List.length G) => numberR_ok (c := c) (H := G) ws[i] (by omega) hG
    have hb' : (acc.length + 1) * 8 ≤ 1099511627776 := by omega
    rw [hd] at h1 h2
    apply WPL_step
    conv => arg 4; whnf
    cases hA : numV ws[i] with
    | none =>
      rw [hA] at hN
      simp only [numRG] at hN
      have h2' := h2 (acc.map irow) (by simp only [allNum, hA])
      simp [hia, srow, hN, hw]
      exact h2'
    | some n =>
      rw [hA] at hN
      simp only [numRG] at hN
      have ih' := ih (i + 1) (acc ++ [n]) (by omega) (by simp; omega) (fun ns h => by
        rw [List.append_assoc]
        exact h1 (n :: ns) (by simp only [allNum, hA, h])) (fun rows h => h2 rows (by simp only [allNum, hA, h]))
      simp [irow] at ih'
      simp [hia, srow, hN, hw, hb', irow]
      exact ih'
theorem numbersR_ok (ws : List (List UInt8)) (k : Int) (hn : ws.length ≤ 1000000) (hsz : ∀ w ∈ ws, w.length ≤ 281474976710656) (hH : 0 < H.length) :
    gcall KC (geval KC) 59 [.pure (.slice (ws.map srow)), .pure (.int .i64 k)] c H = some (.pure (numsG (numsV ws k)), H) := by
  refine WPv_eq (call_enter KC needT Tryz.func59 rfl rfl good59 rfl rfl rfl (by simp) hH ?_)
  by_cases hk : (ws.length : Int) = k
  · subst hk
    rw [numsV, if_pos rfl]
    have h0 := fun Q h1 h2 => nums_loopR (H := H) ws hn hsz Q hH ws.length 0 [] (by omega) (by simpa using hn) h1 h2
    simp [apS_nil, apF_nil] at h0
    simp
    refine h0 _ (fun ns h => ?_) (fun rows h => ?_)
    · rw [h]
      simp [numsG, gleave_free]
      cases ns with
      | nil => simp [apS_nil, apF_nil]
      | cons n r =>
        have e := clean1_apS (H := H) (key := 33) (es := 1) (rows := (n :: r).map irow) (l := H.length) (l0 := H.length - 1) (F := apF 33 1 ((n :: r).map irow) []) rfl (by omega) (fun h => apF_self h)
        have e2 : ∀ G l0, clean2 G l0 (apS (H.length, 33) 1 ((n :: r).map irow)) = clean1 G l0 (apS (H.length, 33) 1 ((n :: r).map irow)) := fun G l0 => by unfold apS; split <;> rfl
        rw [e2, e]
        simp
    · rw [h]
      simp [numsG, gleave_free]
  · rw [numsV, if_neg hk]
    have hk' : ((ws.length : Int) == k) = false := by simpa using hk
    simp [hk, hk', numsG, gleave_free, bne]
end Go.Gh


/- Fires that may be: the reference. -/
namespace Go.Gh
open Go.Proofs
set_option linter.unusedSimpArgs false
set_option linter.unusedVariables false
set_option maxRecDepth 100000
set_option maxHeartbeats 2000000

variable {c : Nat} {H : Heap}
theorem withinR_ok {x lo hi : Int} (hH : 0 < H.length) : gcall KC (geval KC) 93 [.pure (.int .i64 x), .pure (.int .i64 lo), .pure (.int .i64 hi)] c H = some (.pure (.bool (inB x lo hi)), H) := by
  refine WPv_eq (call_enter KC needT Tryz.func93 rfl rfl good93 rfl rfl rfl (by simp) hH ?_)
  by_cases h : lo ≤ x
  · simp [h, inB, gleave_free]
  · simp [h, inB, gleave_free]

theorem faultR_ok {a b lo hi : Int} (hH : 0 < H.length) : gcall KC (geval KC) 92 [.pure (.agg [.int .i64 a, .int .i64 b]), .pure (.int .i64 lo), .pure (.int .i64 hi)] c H = some (.pure (.int .i64 (faultF a b lo hi)), H) := by
  refine WPv_eq (call_enter KC needT Tryz.func92 rfl rfl good92 rfl rfl rfl (by simp) hH ?_)
  rw [faultF_def]
  by_cases h1 : inB a lo hi = true
  · by_cases h2 : inB b lo hi = true
    · by_cases h3 : b < a
      · simp [withinR_ok, h1, h2, h3, gleave_free]
      · simp [withinR_ok, h1, h2, h3, gleave_free]
    · simp [withinR_ok, h1, h2, gleave_free]
  · simp [withinR_ok, h1, gleave_free]

theorem checkR_loop1 (cs : List Coal) (ts : List Touch) (hn : cs.length ≤ 12) (Q : GX → GSt → Prop) (hH : 0 < H.length) : ∀ k i : Nat, i + k = cs.length →
    (firstErr coalF (cs.drop i) = 0 → Q (.exit 0) ⟨[(1, .bptr (H.length, 1) 0), (2, gdead)], [(1, .box [.pure (.slice (cs.map Coal.row)), .pure (.slice (ts.map Touch.row))])] :: H, 83⟩) →
    (firstErr coalF (cs.drop i) ≠ 0 → Q .ret ⟨[(1, .bptr (H.length, 1) 0), (2, .pure (.int .i64 (firstErr coalF (cs.drop i))))], [(1, .box [.pure (.slice (cs.map Coal.row)), .pure (.slice (ts.map Touch.row))])] :: H, 83⟩) →
    WPL KC needT 53 (lp Tryz.f53 0) [1, 3] [1, 2] Q [(1, .bptr (H.length, 1) 0), (3, .pure (.int .i64 i))] ([(1, .box [.pure (.slice (cs.map Coal.row)), .pure (.slice (ts.map Touch.row))])] :: H) 83 := by
  intro k
  induction k with
  | zero =>
    intro i hi h1 h2
    have e1 : cs.drop i = [] := List.drop_of_length_le (by omega)
    rw [e1] at h1
    apply WPL_step
    conv => arg 4; whnf
    have : ¬ i < cs.length := by omega
    simp [this, hH]
    exact h1 rfl
  | succ k ih =>
    intro i hi h1 h2
    have hia : i < cs.length := by omega
    have hw := w64 (x := (i : Int) + 1) (by omega) (by omega)
    rw [firstErr_drop coalF cs i hia] at h1 h2
    have ih' := ih (i + 1) (by omega)
    have hc := coalF_def cs[i]
    apply WPL_step
    conv => arg 4; whnf
    by_cases e1 : faultF cs[i].katch.lo cs[i].katch.hi 1 300 = 0
    · by_cases e2 : faultF cs[i].burn.lo cs[i].burn.hi 1 300 = 0
      · by_cases e3 : faultF cs[i].heat.lo cs[i].heat.hi 0 1000 = 0
        · simp [e1, e2, e3] at hc
          simp [hia, hH, Coal.row, faultR_ok, e1, e2, e3, hw]
          simp [hc] at h1 h2
          simpa using ih' h1 h2
        · have e3' : (faultF cs[i].heat.lo cs[i].heat.hi 0 1000 != 0) = true := by simpa using e3
          simp [e1, e2, e3] at hc
          simp [hia, hH, Coal.row, faultR_ok, e1, e2, e3, e3']
          simp [hc, e3] at h1 h2
          exact h2
      · have e2' : (faultF cs[i].burn.lo cs[i].burn.hi 1 300 != 0) = true := by simpa using e2
        simp [e1, e2] at hc
        simp [hia, hH, Coal.row, faultR_ok, e1, e2, e2']
        simp [hc, e2] at h1 h2
        exact h2
    · have e1' : (faultF cs[i].katch.lo cs[i].katch.hi 1 300 != 0) = true := by simpa using e1
      simp [e1] at hc
      simp [hia, hH, Coal.row, faultR_ok, e1, e1']
      simp [hc, e1] at h1 h2
      exact h2
theorem checkR_loop2 (cs : List Coal) (ts : List Touch) (hn : ts.length ≤ 40) (hc : cs.length ≤ 12) (Q : GX → GSt → Prop) (hH : 0 < H.length) : ∀ k i : Nat, i + k = ts.length →
    (firstErr (touchF cs.length) (ts.drop i) = 0 → Q (.exit 2) ⟨[(2, gdead)], [(1, .box [.pure (.slice (cs.map Coal.row)), .pure (.slice (ts.map Touch.row))])] :: H, 83⟩) →
    (firstErr (touchF cs.length) (ts.drop i) ≠ 0 → Q .ret ⟨[(2, .pure (.int .i64 (firstErr (touchF cs.length) (ts.drop i))))], [(1, .box [.pure (.slice (cs.map Coal.row)), .pure (.slice (ts.map Touch.row))])] :: H, 83⟩) →
    WPL KC needT 53 (lp Tryz.f53 1) [1, 8] [2] Q [(1, .bptr (H.length, 1) 0), (8, .pure (.int .i64 i))] ([(1, .box [.pure (.slice (cs.map Coal.row)), .pure (.slice (ts.map Touch.row))])] :: H) 83 := by
  intro k
  induction k with
  | zero =>
    intro i hi h1 h2
    have e1 : ts.drop i = [] := List.drop_of_length_le (by omega)
    rw [e1] at h1
    apply WPL_step
    conv => arg 4; whnf
    have : ¬ i < ts.length := by omega
    simp [this, hH]
    exact h1 rfl
  | succ k ih =>
    intro i hi h1 h2
    have hia : i < ts.length := by omega
    have hw := w64 (x := (i : Int) + 1) (by omega) (by omega)
    have hw2 := w64 (x := (cs.length : Int) - 1) (by omega) (by omega)
    rw [firstErr_drop (touchF cs.length) ts i hia] at h1 h2
    have ih' := ih (i + 1) (by omega)
    have ht := touchF_def cs.length ts[i]
    apply WPL_step
    conv => arg 4; whnf
    by_cases b1 : inB ts[i].a 0 (cs.length - 1) = true
    · by_cases b2 : inB ts[i].b 0 (cs.length - 1) = true
      · by_cases b3 : ts[i].a = ts[i].b
        · rw [b3] at b1
          simp only [b1, b2, b3, and_self, if_true] at ht
          simp [hia, hH, Touch.row, withinR_ok, b1, b2, b3, hw2]
          simp [ht] at h1 h2
          exact h2
        · have b3' : (ts[i].a == ts[i].b) = false := by simpa using b3
          simp only [b1, b2, b3, and_self, if_true, if_false] at ht
          simp [hia, hH, Touch.row, withinR_ok, b1, b2, b3', hw, hw2]
          simp [ht] at h1 h2
          simpa using ih' h1 h2
      · simp only [b1, b2, and_false, if_false] at ht
        simp [hia, hH, Touch.row, withinR_ok, b1, b2, hw2]
        simp [ht] at h1 h2
        exact h2
    · simp only [b1, false_and, if_false] at ht
      simp [hia, hH, Touch.row, withinR_ok, b1, hw2]
      simp [ht] at h1 h2
      exact h2
theorem checkR_ok (cs : List Coal) (ts : List Touch) (hH : 0 < H.length) : gcall KC (geval KC) 53 [.pure (.agg [.slice (cs.map Coal.row), .slice (ts.map Touch.row)])] c H = some (.pure (.int .i64 (checkF cs ts)), H) := by
  refine WPv_eq (call_enter KC needT Tryz.func53 rfl rfl good53 rfl rfl rfl (by simp) hH ?_)
  rw [checkF_def]
  by_cases h1 : 12 < cs.length
  · have h1' : (12 : Int) < cs.length := by omega
    simp [h1, h1', gleave_free]
  · have h1' : ¬ (12 : Int) < cs.length := by omega
    simp [h1, h1']
    refine checkR_loop1 cs ts (by omega) _ hH cs.length 0 (by omega) (fun h => ?_) (fun h => ?_)
    · simp at h
      by_cases h2 : 40 < ts.length
      · have h2' : (40 : Int) < ts.length := by omega
        simp [h, h2, h2', gleave_free]
      · have h2' : ¬ (40 : Int) < ts.length := by omega
        simp [h, h2, h2']
        refine checkR_loop2 cs ts (by omega) (by omega) _ hH ts.length 0 (by omega) (fun h3 => ?_) (fun h3 => ?_)
        · simp at h3
          simp [h3, gleave_free]
        · simp at h3
          simp [gleave_free]
    · simp at h
      simp [h, gleave_free]
theorem much_ok (cs : List Coal) (ts : List Touch) (l : List Pour) (hH : 0 < H.length) : gcall KC (geval KC) 7 [.pure (.agg [.slice (cs.map Coal.row), .slice (ts.map Touch.row)]), .pure (.slice (l.map Pour.row))] c H =
    some (.pure (.bool (decide (30 < cs.length ∨ 60 < ts.length ∨ 40 < l.length))), H) := by
  refine WPv_eq (call_enter KC needT Tryz.func7 rfl rfl good7 rfl rfl rfl (by simp) hH ?_)
  have e1 : ((30 : Int) < cs.length) = (30 < cs.length) := by simp; omega
  have e2 : ((60 : Int) < ts.length) = (60 < ts.length) := by simp; omega
  have e3 : ((40 : Int) < l.length) = (40 < l.length) := by simp; omega
  by_cases h1 : 30 < cs.length <;> by_cases h2 : 60 < ts.length <;> simp [e1, e2, e3, h1, h2, gleave_free]
end Go.Gh


/- The reference's writer. -/
namespace Go.Gh
open Go.Proofs
set_option linter.unusedSimpArgs false
set_option linter.unusedVariables false
set_option maxRecDepth 100000
set_option maxHeartbeats 2000000

variable {c : Nat} {H : Heap}
def wF (f : Fire) : Fr := [(1, .box [.pure (.slice (f.coals.map Coal.row)), .pure (.slice (f.touches.map Touch.row))])]
theorem coalS_len2 {x : Coal} : (coalS x).length ≤ 150 := coalS_len x
theorem wloopR1 (f : Fire) (hf : GoodF f) (Q : GX → GSt → Prop) : ∀ (k i : Nat) (l : List UInt8), i + k = f.coals.length → l.length ≤ 150 * i →
    Q (.exit 0) ⟨[(1, .bptr (H.length, 1) 0), (5, .pure (.str (l ++ (f.coals.drop i).flatMap coalS)))], wF f :: H, 85⟩ →
    WPL KC needT 12 (lp Tryz.f12 0) [1, 5, 6] [1, 5] Q [(1, .bptr (H.length, 1) 0), (5, .pure (.str l)), (6, .pure (.int .i64 i))] (wF f :: H) 85 := by
  have hcl := hf.cl
  intro k
  induction k with
  | zero =>
    intro i l hi hl h1
    have hia : ¬ i < f.coals.length := by omega
    have e1 : f.coals.drop i = [] := List.drop_of_length_le (by omega)
    rw [e1] at h1
    simp only [List.flatMap_nil, List.append_nil] at h1
    apply WPL_step
    conv => arg 4; whnf
    unfold wF at h1 ⊢
    simp [hia]
    exact h1
  | succ k ih =>
    intro i l hi hl h1
    have hia : i < f.coals.length := by omega
    have hw := w64 (x := (i : Int) + 1) (by omega) (by omega)
    have hd : f.coals.drop i = f.coals[i] :: f.coals.drop (i + 1) := List.drop_eq_getElem_cons hia
    have hri : ∀ n ∈ coalN f.coals[i], 0 ≤ n ∧ n ≤ 1000 := hf.cn f.coals[i] (List.getElem_mem hia)
    have hs : (f.coals.drop i).flatMap coalS = coalS f.coals[i] ++ (f.coals.drop (i + 1)).flatMap coalS := by rw [hd]; rfl
    rw [hs, ← List.append_assoc] at h1
    have hcs := coalS_len f.coals[i]
    have ih' := ih (i + 1) (l ++ coalS f.coals[i]) (by omega) (by simp; omega) h1
    have hwl : (wordS coalW (coalN f.coals[i])).length ≤ 150 := by unfold coalS at hcs; simp at hcs ⊢; omega
    have hR := fun c G (hG : 0 < List.length G) => row_ok (c := c) (H := G) (w := coalW) (ns := coalN f.coals[i]) (by simp [coalN]) (fun n hn => by have := hri n hn; omega) (by omega) hG
    have l1 : l.length + (wordS coalW (coalN f.coals[i])).length ≤ 4611686018427387904 := by omega
    have l2 : ∀ m, m ≤ 10 → l.length + (wordS coalW (coalN f.coals[i])).length + m ≤ 4611686018427387904 := by omega
    simp [coalN, coalW, irow] at hR l1 l2
    apply WPL_step
    conv => arg 4; whnf
    unfold wF at ih' ⊢
    cases hlit : f.coals[i].lit with
    | true =>
      have e1 : coalS f.coals[i] = wordS coalW (coalN f.coals[i]) ++ [32, 108, 105, 116, 10] := by unfold coalS; rw [hlit]; rfl
      rw [e1] at ih'
      have l3 := l2 5 (by omega)
      simp [coalN, coalW] at ih'
      simp [hia, Coal.row, hw, hlit, hR, l1, l3]
      simpa using ih'
    | false =>
      have e1 : coalS f.coals[i] = wordS coalW (coalN f.coals[i]) ++ [32, 99, 111, 108, 100, 10] := by unfold coalS; rw [hlit]; rfl
      rw [e1] at ih'
      have l3 := l2 6 (by omega)
      simp [coalN, coalW] at ih'
      simp [hia, Coal.row, hw, hlit, hR, l1, l3]
      simpa using ih'
theorem wloopR2 (f : Fire) (hf : GoodF f) (Q : GX → GSt → Prop) : ∀ (k i : Nat) (l : List UInt8), i + k = f.touches.length → l.length ≤ 2000 + 60 * i →
    Q (.exit 2) ⟨[(1, .bptr (H.length, 1) 0), (5, .pure (.str (l ++ (f.touches.drop i).flatMap touchS)))], wF f :: H, 85⟩ →
    WPL KC needT 12 (lp Tryz.f12 1) [1, 5, 9] [1, 5] Q [(1, .bptr (H.length, 1) 0), (5, .pure (.str l)), (9, .pure (.int .i64 i))] (wF f :: H) 85 := by
  have htl := hf.tl
  intro k
  induction k with
  | zero =>
    intro i l hi hl h1
    have hia : ¬ i < f.touches.length := by omega
    have e1 : f.touches.drop i = [] := List.drop_of_length_le (by omega)
    rw [e1] at h1
    simp only [List.flatMap_nil, List.append_nil] at h1
    apply WPL_step
    conv => arg 4; whnf
    unfold wF at h1 ⊢
    simp [hia]
    exact h1
  | succ k ih =>
    intro i l hi hl h1
    have hia : i < f.touches.length := by omega
    have hw := w64 (x := (i : Int) + 1) (by omega) (by omega)
    have hd : f.touches.drop i = f.touches[i] :: f.touches.drop (i + 1) := List.drop_eq_getElem_cons hia
    have hri := hf.tn f.touches[i] (List.getElem_mem hia)
    have hs : (f.touches.drop i).flatMap touchS = touchS f.touches[i] ++ (f.touches.drop (i + 1)).flatMap touchS := by rw [hd]; rfl
    rw [hs, ← List.append_assoc] at h1
    have hcs := touchS_len f.touches[i]
    have ih' := ih (i + 1) (l ++ touchS f.touches[i]) (by omega) (by simp; omega) h1
    have hwl : (wordS touchW [f.touches[i].a, f.touches[i].b]).length ≤ 60 := by unfold touchS at hcs; simp at hcs ⊢; omega
    have hR := fun c G (hG : 0 < List.length G) => row_ok (c := c) (H := G) (w := touchW) (ns := [f.touches[i].a, f.touches[i].b]) (by simp) (fun n hn => by simp at hn; omega) (by omega) hG
    have l1 : l.length + (wordS touchW [f.touches[i].a, f.touches[i].b]).length ≤ 4611686018427387904 := by omega
    have l2 : l.length + (wordS touchW [f.touches[i].a, f.touches[i].b]).length + 1 ≤ 4611686018427387904 := by omega
    simp [touchW, irow] at hR l1 l2
    apply WPL_step
    conv => arg 4; whnf
    unfold wF at ih' ⊢
    unfold touchS at ih'
    simp [touchW] at ih'
    simp [hia, Touch.row, hw, hR, l1, l2]
    simpa using ih'

theorem WriteR_ok (f : Fire) (hH : 0 < H.length) : gcall KC (geval KC) 12 [.pure (.agg [.slice (f.coals.map Coal.row), .slice (f.touches.map Touch.row)])] c H =
    some (.pure (.tuple [.str (if checkF f.coals f.touches = 0 then writeS f else []), .int .i64 (checkF f.coals f.touches)]), H) := by
  refine WPv_eq (call_enter KC needT Tryz.func12 rfl rfl good12 rfl rfl rfl (by simp) hH ?_)
  have hC := fun c G (hG : 0 < List.length G) => checkR_ok (c := c) (H := G) f.coals f.touches hG
  by_cases h : checkF f.coals f.touches = 0
  · rw [if_pos h, h]
    rw [h] at hC
    have hf := goodF h
    have hcl := hf.cl
    have htl := hf.tl
    simp [hC]
    have h0 := fun Q hq => wloopR1 (H := H) f hf Q f.coals.length 0 [] (by omega) (by simp) hq
    unfold wF at h0
    simp at h0
    refine h0 _ ?_
    simp
    have hl1 : (f.coals.flatMap coalS).length ≤ 150 * f.coals.length := flat_len coalS_len f.coals
    have h2 := fun Q hq => wloopR2 (H := H) f hf Q f.touches.length 0 (f.coals.flatMap coalS) (by omega) (by omega) hq
    unfold wF at h2
    simp at h2
    refine h2 _ ?_
    have hl2 : (f.touches.flatMap touchS).length ≤ 60 * f.touches.length := flat_len touchS_len f.touches
    have hl3 := numsS_len [(f.coals.length : Int)]
    have hwl : (wordS endW [(f.coals.length : Int)]).length ≤ 60 := by unfold wordS; simp [endW] at hl3 ⊢; omega
    have hR := fun c G (hG : 0 < List.length G) => row_ok (c := c) (H := G) (w := endW) (ns := [(f.coals.length : Int)]) (by simp) (fun n hn => by simp at hn; omega) (by omega) hG
    have l1 : (f.coals.flatMap coalS).length + (f.touches.flatMap touchS).length + (wordS endW [(f.coals.length : Int)]).length ≤ 4611686018427387904 := by omega
    have l2 : (f.coals.flatMap coalS).length + (f.touches.flatMap touchS).length + (wordS endW [(f.coals.length : Int)]).length + 1 ≤ 4611686018427387904 := by omega
    have hw : writeS f = f.coals.flatMap coalS ++ (f.touches.flatMap touchS ++ (wordS endW [(f.coals.length : Int)] ++ [10])) := by simp [writeS]
    rw [hw]
    generalize f.coals.flatMap coalS = a at *
    generalize f.touches.flatMap touchS = b at *
    simp [endW, irow] at hR l1 l2
    simp only [endW]
    generalize wordS [101, 110, 100] [(f.coals.length : Int)] = e at *
    have l3 : a.length + (b.length + e.length) ≤ 4611686018427387903 := by omega
    simp [hR, l1, l2, l3, gleave_free]
  · rw [if_neg h]
    have h' : (checkF f.coals f.touches == 0) = false := by simpa using h
    simp [hC, h, h', gleave_free, bne]
end Go.Gh


/- The reference's reader: its frame. -/
namespace Go.Gh
open Go.Proofs
set_option linter.unusedSimpArgs false
set_option linter.unusedVariables false
set_option maxRecDepth 100000
set_option maxHeartbeats 4000000

variable {c : Nat} {H : Heap}
/-- The frame of the reference's reader: the fire so far. -/
def gF (L : Nat) (f : Fire) : Fr := apF 123 2 (f.touches.map Touch.row) (apF 99 7 (f.coals.map Coal.row) [(2, .box [.nils, .nils]), (6, .box [apS (L, 99) 7 (f.coals.map Coal.row), apS (L, 123) 2 (f.touches.map Touch.row)])])
section
variable {L : Nat} {f : Fire}
theorem gF_2 : (gF L f).get 2 = some (.box [.nils, .nils]) := by
  unfold gF
  rw [apF_get (by decide), apF_get (by decide)]
  simp
theorem gF_6 : (gF L f).get 6 = some (.box [apS (L, 99) 7 (f.coals.map Coal.row), apS (L, 123) 2 (f.touches.map Touch.row)]) := by
  unfold gF
  rw [apF_get (by decide), apF_get (by decide)]
  simp
theorem gF_99n (h : f.coals.map Coal.row = []) : (gF L f).get 99 = none := by
  unfold gF
  rw [apF_get (by decide), h, apF_nil]
  simp
theorem gF_99 (h : f.coals.map Coal.row ≠ []) : (gF L f).get 99 = some (.arr 7 (f.coals.map Coal.row) 0 false) := by
  unfold gF
  rw [apF_get (by decide), apF_self h]
theorem gF_123n (h : f.touches.map Touch.row = []) : (gF L f).get 123 = none := by
  unfold gF
  rw [h, apF_nil, apF_get (by decide)]
  simp
theorem gF_123 (h : f.touches.map Touch.row ≠ []) : (gF L f).get 123 = some (.arr 2 (f.touches.map Touch.row) 0 false) := by
  unfold gF
  rw [apF_self h]
theorem gF_coal (x : Coal) (hc : f.touches = []) : ((gF L f).ins 99 (.arr 7 (f.coals.map Coal.row ++ [x.row]) 0 false)).ins 6 (.box [apS (L, 99) 7 (f.coals.map Coal.row ++ [x.row]), .nils]) = gF L ⟨f.coals ++ [x], []⟩ := by
  unfold gF
  rw [hc]
  simp only [List.map_nil, apF_nil, List.map_append, List.map_cons]
  unfold apF
  by_cases h : f.coals.map Coal.row = []
  · simp [h, apS_nil]
  · simp [h, apS_nil]
theorem gF_touch (x : Touch) : ((gF L f).ins 123 (.arr 2 (f.touches.map Touch.row ++ [x.row]) 0 false)).ins 6 (.box [apS (L, 99) 7 (f.coals.map Coal.row), apS (L, 123) 2 (f.touches.map Touch.row ++ [x.row])]) = gF L ⟨f.coals, f.touches ++ [x]⟩ := by
  unfold gF
  simp only [List.map_nil, apF_nil, List.map_append, List.map_cons]
  unfold apF
  by_cases h : f.coals.map Coal.row = []
  · by_cases h2 : f.touches.map Touch.row = []
    · simp [h, h2, apS_nil]
    · simp [h, h2, apS_nil]
  · by_cases h2 : f.touches.map Touch.row = []
    · simp [h, h2, apS_nil]
    · simp [h, h2, apS_nil]
theorem apK_coalR (hL : H.length = L) (x : Coal) (hc : f.coals.length ≤ 1000000) : apK L 99 (apS (L, 99) 7 (f.coals.map Coal.row)) 7 56 [x.row] ([] :: gF L f :: H) =
    some (apS (L, 99) 7 (f.coals.map Coal.row ++ [x.row]), [] :: (gF L f).ins 99 (.arr 7 (f.coals.map Coal.row ++ [x.row]) 0 false) :: H) := by
  subst hL
  rw [apK_apS (fun h => by simp [gF_99n h]) (fun h => by simp [gF_99 h]) (by simp; omega) (by simp; omega) (by decide)]
  simp
theorem apK_touchR (hL : H.length = L) (x : Touch) (hc : f.touches.length ≤ 1000000) : apK L 123 (apS (L, 123) 2 (f.touches.map Touch.row)) 2 16 [x.row] ([] :: gF L f :: H) =
    some (apS (L, 123) 2 (f.touches.map Touch.row ++ [x.row]), [] :: (gF L f).ins 123 (.arr 2 (f.touches.map Touch.row ++ [x.row]) 0 false) :: H) := by
  subst hL
  rw [apK_apS (fun h => by simp [gF_123n h]) (fun h => by simp [gF_123 h]) (by simp; omega) (by simp; omega) (by decide)]
  simp
end

theorem rloopR (sp : List (List UInt8)) (n : Nat) (hsp : sp.length = n + 1) (hn : n ≤ 100000) (hsz : ∀ w ∈ sp, w.length ≤ 100000) (Q : GX → GSt → Prop) : ∀ (k i : Nat) (x : Fire × Int × Int), i + k = n → x.1.coals.length ≤ i → x.1.touches.length ≤ i →
    (∀ y, rowsV i x ((sp.take n).drop i) = some y → Q (.exit 0) ⟨[(2, .bptr (H.length, 2) 0), (3, gdead), (4, gdead), (5, .pure (.slice (sp.map srow))), (6, .bptr (H.length, 6) 0), (7, .pure (.int .i64 y.2.1)), (8, .pure (.int .i64 y.2.2))], gF H.length y.1 :: H, 175⟩) →
    (∀ (y : Fire × Int × Int), rowsV i x ((sp.take n).drop i) = none → Q .ret ⟨[(2, .bptr (H.length, 2) 0), (3, .pure (.int .i64 (failV i x ((sp.take n).drop i)))), (4, .pure (.int .i64 3)), (5, .pure (.slice (sp.map srow))), (6, .bptr (H.length, 6) 0), (7, .pure (.int .i64 y.2.1)), (8, .pure (.int .i64 y.2.2))], (gF H.length y.1).ins 2 (.box [.nils, .nils]) :: H, 175⟩) →
    WPL KC needT 15 (lp Tryz.f15 0) [2, 5, 6, 7, 8, 9] [2, 3, 4, 5, 6, 7, 8] Q [(2, .bptr (H.length, 2) 0), (5, .pure (.slice (sp.map srow))), (6, .bptr (H.length, 6) 0), (7, .pure (.int .i64 x.2.1)), (8, .pure (.int .i64 x.2.2)), (9, .pure (.int .i64 i))] (gF H.length x.1 :: H) 175 := by
  have hw0 : IntKind.i64.wrap ((n : Int) + 1 - 1) = n := by rw [Int.add_sub_cancel]; exact w64 (by omega) (by omega)
  have hw0' : IntKind.i64.wrap (n : Int) = n := w64 (by omega) (by omega)
  intro k
  induction k with
  | zero =>
    intro i x hi hc ht h1 h2
    have hia : ¬ i < n := by omega
    have e1 : (sp.take n).drop i = [] := List.drop_of_length_le (by rw [List.length_take]; omega)
    rw [e1] at h1
    have h1' := h1 x rfl
    apply WPL_step
    conv => arg 4; whnf
    simp [hsp, hw0, hw0', hia]
    exact h1'
  | succ k ih =>
    intro i x hi hc ht h1 h2
    have hia : i < n := by omega
    have hia2 : i < sp.length := by omega
    have hw := w64 (x := (i : Int) + 1) (by omega) (by omega)
    have hd : (sp.take n).drop i = sp[i] :: (sp.take n).drop (i + 1) := by
      rw [List.drop_eq_getElem_cons (by rw [List.length_take]; omega), List.getElem_take]
    have hsi := hsz sp[i] (List.getElem_mem hia2)
    have hget : sp[i]? = some sp[i] := List.getElem?_eq_getElem hia2
    rw [hd] at h1 h2
    have hS : ∀ c G, 0 < List.length G → gcall KC (geval KC) 58 [.pure (.str sp[i]), .pure (.int .u8 32)] c G = some (.pure (.slice ((splitL 32 sp[i]).map srow)), G) := fun c G hG => splitR_ok sp[i] 32 (by omega) hG
    obtain ⟨p, r, hp⟩ : ∃ p r, splitL 32 sp[i] = p :: r := by
      cases h : splitL 32 sp[i] with
      | nil => exact absurd h (splitL_ne _ _)
      | cons p r => exact ⟨p, r, rfl⟩
    have hsl := splitL_len 32 sp[i]
    have hsm := splitL_mem 32 sp[i]
    rw [hp] at hsl hsm hS
    have hF2 := gF_2 (L := H.length) (f := x.1)
    have hF6 := gF_6 (L := H.length) (f := x.1)
    apply WPL_step
    conv => arg 4; whnf
    obtain ⟨f, e0, n0⟩ := x
    simp only at hc ht h1 h2 hF2 hF6 ⊢
    by_cases he : 0 < e0
    · have hv : rowsV i (f, e0, n0) (sp[i] :: (sp.take n).drop (i + 1)) = none := by
        simp only [rowsV, rowV]; rw [if_pos he]
      have h2' := h2 (f, e0, n0) hv
      have hfl : failV i (f, e0, n0) (sp[i] :: (sp.take n).drop (i + 1)) = (i : Int) + 1 := by
        simp only [failV, rowV]; rw [if_pos he]
      rw [hfl] at h2'
      simp [hsp, hw0, hw0', hia, hget, srow, hS, he, hw, hF2]
      exact h2'
    · have fail : rowV i (f, e0, n0) sp[i] = none → Q .ret ⟨[(2, .bptr (H.length, 2) 0), (3, .pure (.int .i64 ((i : Int) + 1))), (4, .pure (.int .i64 3)), (5, .pure (.slice (sp.map srow))), (6, .bptr (H.length, 6) 0), (7, .pure (.int .i64 e0)), (8, .pure (.int .i64 n0))], (gF H.length f).ins 2 (.box [.nils, .nils]) :: H, 175⟩ := fun hrv => by
        have hv : rowsV i (f, e0, n0) (sp[i] :: (sp.take n).drop (i + 1)) = none := by simp only [rowsV, hrv]
        have h2' := h2 (f, e0, n0) hv
        have hfl : failV i (f, e0, n0) (sp[i] :: (sp.take n).drop (i + 1)) = (i : Int) + 1 := by simp only [failV, hrv]
        rw [hfl] at h2'
        exact h2'
      have good : ∀ z, rowV i (f, e0, n0) sp[i] = some z → z.1.coals.length ≤ i + 1 → z.1.touches.length ≤ i + 1 → WPL KC needT 15 (lp Tryz.f15 0) [2, 5, 6, 7, 8, 9] [2, 3, 4, 5, 6, 7, 8] Q [(2, .bptr (H.length, 2) 0), (5, .pure (.slice (sp.map srow))), (6, .bptr (H.length, 6) 0), (7, .pure (.int .i64 z.2.1)), (8, .pure (.int .i64 z.2.2)), (9, .pure (.int .i64 ((i : Int) + 1)))] (gF H.length z.1 :: H) 175 := fun z hrv g1 g2 => by
        have := ih (i + 1) z (by omega) g1 g2 (fun y hy => h1 y (by simp only [rowsV, hrv]; exact hy)) (fun y hy => by
          have q := h2 y (by simp only [rowsV, hrv]; exact hy)
          simp only [failV, hrv] at q
          exact q)
        simpa using this
      have hrow : rowV i (f, e0, n0) sp[i] = (if (p :: r).head? = some endW then (match numsV r 1 with | some [m] => some (f, (i : Int) + 1, m) | _ => none) else match takeV f (p :: r) with | some f' => some (f', e0, n0) | none => none) := by
        unfold rowV; rw [if_neg he, hp]; rfl
      have hrl : r.length ≤ 1000000 := by simp at hsl; omega
      have hrs : ∀ w ∈ r, w.length ≤ 281474976710656 := fun w hw => by have := hsm w (List.mem_cons_of_mem _ hw); omega
      have htk : (r.map srow).take r.length = r.map srow := List.take_of_length_le (by simp)
      by_cases hpe : p = endW
      · subst hpe
        rw [if_pos (show (endW :: r).head? = some endW from rfl)] at hrow
        have hN := fun c => numbersR_ok (c := c) (H := [] :: gF H.length f :: H) r 1 hrl hrs (by simp)
        cases hA : numsV r 1 with
        | none =>
          rw [hA] at hrow hN
          have h2' := fail hrow
          simp only [numsG] at hN
          simp [hsp, hw0, hw0', hia, hget, srow, hS, he, hw, hF2, endW, htk, hN]
          exact h2'
        | some ns =>
          have hlen : ns.length = 1 := by
            unfold numsV at hA
            split at hA
            · rename_i h1
              have := allNum_len hA
              omega
            · cases hA
          match ns, hlen with
          | [m], _ =>
            rw [hA] at hrow hN
            have h1' := good _ hrow (by simp only; omega) (by simp only; omega)
            simp only [numsG] at hN
            simp [hsp, hw0, hw0', hia, hget, srow, hS, he, hw, hF2, endW, htk, hN, irow]
            exact h1'
      · rw [if_neg (show ¬ (p :: r).head? = some endW from fun h => hpe (by simpa using h))] at hrow
        have hpe' : (p == [101, 110, 100]) = false := by simpa [endW] using hpe
        by_cases hpc : p = coalW
        · subst hpc
          by_cases hr : r.length = 7
          · match r, hr with
            | [a1, a2, a3, a4, a5, a6, l], _ =>
              by_cases htt : f.touches = []
              · by_cases hl : l = litW ∨ l = coldW
                · have hv : takeV f [coalW, a1, a2, a3, a4, a5, a6, l] = takeC f [coalW, a1, a2, a3, a4, a5, a6, l] := by
                    unfold takeV; rw [if_pos ⟨rfl, rfl, htt, hl⟩]
                  have hN := fun c => numbersR_ok (c := c) (H := [] :: gF H.length f :: H) [a1, a2, a3, a4, a5, a6] 6 (by simp) (fun w hw => hrs w (List.mem_append_left [l] hw)) (by simp)
                  rw [hv] at hrow
                  rw [htt] at hF6
                  cases hA : allNum [a1, a2, a3, a4, a5, a6] with
                  | none =>
                    have e : takeC f [coalW, a1, a2, a3, a4, a5, a6, l] = none := by
                      unfold takeC; simp [hA]
                    rw [e] at hrow
                    have h2' := fail hrow
                    simp [numsV, hA, numsG, srow] at hN
                    rcases hl with rfl | rfl
                    · simp [hsp, hw0, hw0', hia, hget, srow, hS, he, hw, hF2, hF6, coalW, litW, hN, apS_nil]
                      exact h2'
                    · simp [hsp, hw0, hw0', hia, hget, srow, hS, he, hw, hF2, hF6, coalW, litW, coldW, hN, apS_nil]
                      exact h2'
                  | some ns =>
                    have hlen := allNum_len hA
                    match ns, hlen with
                    | [n1, n2, n3, n4, n5, n6], _ =>
                      have e : takeC f [coalW, a1, a2, a3, a4, a5, a6, l] = some ⟨f.coals ++ [⟨⟨n1, n2⟩, ⟨n3, n4⟩, ⟨n5, n6⟩, decide (l = litW)⟩], f.touches⟩ := by
                        unfold takeC; simp [hA]
                      rw [e] at hrow
                      simp [numsV, hA, numsG, srow, irow] at hN
                      rcases hl with rfl | rfl
                      · have hK := apK_coalR (H := H) (f := f) rfl ⟨⟨n1, n2⟩, ⟨n3, n4⟩, ⟨n5, n6⟩, true⟩ (by omega)
                        have hF := gF_coal (L := H.length) (f := f) ⟨⟨n1, n2⟩, ⟨n3, n4⟩, ⟨n5, n6⟩, true⟩ htt
                        have h1' := good _ hrow (by simp; omega) (by simp; omega)
                        simp only [Coal.row] at hK hF
                        simp only [htt, decide_true] at h1'
                        rw [← hF] at h1'
                        simp [hsp, hw0, hw0', hia, hget, srow, hS, he, hw, hF2, hF6, coalW, litW, hN, apS_nil, hK, Fr.get_ins_other]
                        simpa using h1'
                      · have hK := apK_coalR (H := H) (f := f) rfl ⟨⟨n1, n2⟩, ⟨n3, n4⟩, ⟨n5, n6⟩, false⟩ (by omega)
                        have hF := gF_coal (L := H.length) (f := f) ⟨⟨n1, n2⟩, ⟨n3, n4⟩, ⟨n5, n6⟩, false⟩ htt
                        have h1' := good _ hrow (by simp; omega) (by simp; omega)
                        have hdc : decide (coldW = litW) = false := by decide
                        simp only [Coal.row] at hK hF
                        simp only [htt, hdc] at h1'
                        rw [← hF] at h1'
                        simp [hsp, hw0, hw0', hia, hget, srow, hS, he, hw, hF2, hF6, coalW, litW, coldW, hN, apS_nil, hK, Fr.get_ins_other]
                        simpa using h1'
                · have hv : takeV f [coalW, a1, a2, a3, a4, a5, a6, l] = none := by
                    unfold takeV; rw [if_neg (fun h => hl h.2.2.2), if_neg (by simp [coal_touch])]
                  rw [hv] at hrow
                  have h2' := fail hrow
                  rw [htt] at hF6
                  have e1 : ¬ l = litW := fun h => hl (.inl h)
                  have e2 : ¬ l = coldW := fun h => hl (.inr h)
                  simp only [litW, coldW] at e1 e2
                  simp [hsp, hw0, hw0', hia, hget, srow, hS, he, hw, hF2, hF6, coalW, e1, e2, apS_nil]
                  exact h2'
              · have hv : takeV f [coalW, a1, a2, a3, a4, a5, a6, l] = none := by
                  unfold takeV; rw [if_neg (fun h => htt h.2.2.1), if_neg (by simp [coal_touch])]
                rw [hv] at hrow
                have h2' := fail hrow
                simp [hsp, hw0, hw0', hia, hget, srow, hS, he, hw, hF2, hF6, coalW, htt]
                exact h2'
          · have hv : takeV f (coalW :: r) = none := by
              unfold takeV; rw [if_neg (fun h => hr (by simpa using h.2.1)), if_neg (by simp [coal_touch])]
            rw [hv] at hrow
            have h2' := fail hrow
            have e1 : ((r.length : Int) + 1 == 8) = false := by
              rw [beq_eq_false_iff_ne]
              omega
            simp [hsp, hw0, hw0', hia, hget, srow, hS, he, hw, hF2, hF6, coalW, e1]
            exact h2'
        · by_cases hpt : p = touchW
          · subst hpt
            have hv : takeV f (touchW :: r) = takeT f (touchW :: r) := by
              unfold takeV; rw [if_neg (by simp [coal_touch.symm])]; simp
            rw [hv] at hrow
            have hN := fun c => numbersR_ok (c := c) (H := [] :: gF H.length f :: H) r 2 hrl hrs (by simp)
            by_cases hr : r.length = 2
            · match r, hr with
              | [a, b], _ =>
                cases hA : allNum [a, b] with
                | none =>
                  have e : takeT f [touchW, a, b] = none := by
                    unfold takeT; simp [hA]
                  rw [e] at hrow
                  have h2' := fail hrow
                  simp [numsV, hA, numsG, srow] at hN
                  simp [hsp, hw0, hw0', hia, hget, srow, hS, he, hw, hF2, hF6, touchW, hN]
                  exact h2'
                | some ns =>
                  have hlen := allNum_len hA
                  match ns, hlen with
                  | [n1, n2], _ =>
                    have e : takeT f [touchW, a, b] = some ⟨f.coals, f.touches ++ [⟨n1, n2⟩]⟩ := by
                      unfold takeT; simp [hA]
                    rw [e] at hrow
                    simp [numsV, hA, numsG, srow, irow] at hN
                    have hK := apK_touchR (H := H) (f := f) rfl ⟨n1, n2⟩ (by omega)
                    have hF := gF_touch (L := H.length) (f := f) ⟨n1, n2⟩
                    have h1' := good _ hrow (by simp; omega) (by simp; omega)
                    simp only [Touch.row] at hK hF
                    simp only at h1'
                    rw [← hF] at h1'
                    simp [hsp, hw0, hw0', hia, hget, srow, hS, he, hw, hF2, hF6, touchW, hN, hK, Fr.get_ins_other]
                    simpa using h1'
            · have e : takeT f (touchW :: r) = none := by
                unfold takeT; rw [if_neg (by simpa using hr)]
              rw [e] at hrow
              have h2' := fail hrow
              have hr' : ¬ (r.length : Int) = 2 := by omega
              simp [numsV, hr', numsG] at hN
              simp [hsp, hw0, hw0', hia, hget, srow, hS, he, hw, hF2, hF6, touchW, htk, hN]
              exact h2'
          · have hv : takeV f (p :: r) = none := by
              unfold takeV; rw [if_neg (by simp [hpc]), if_neg (by simp [hpt])]
            rw [hv] at hrow
            have h2' := fail hrow
            have e1 : (p == [99, 111, 97, 108]) = false := by simpa [coalW] using hpc
            have e2 : (p == [116, 111, 117, 99, 104]) = false := by simpa [touchW] using hpt
            simp [hsp, hw0, hw0', hia, hget, srow, hS, he, hw, hF2, hF6, hpe', e1, e2]
            exact h2'
end Go.Gh


/- The reference's reader. -/
namespace Go.Gh
open Go.Proofs
set_option linter.unusedSimpArgs false
set_option linter.unusedVariables false
set_option maxRecDepth 100000
set_option maxHeartbeats 4000000

variable {c : Nat} {H : Heap}
/-- The frame of the reference's reader whose fire was told. -/
def gR (L : Nat) (f : Fire) : Fr := apQ 123 2 (f.touches.map Touch.row) (apQ 99 7 (f.coals.map Coal.row) [(2, .box [.nils, .nils]), (6, .box [apS (L, 99) 7 (f.coals.map Coal.row), apS (L, 123) 2 (f.touches.map Touch.row)])])
section
variable {L : Nat} {f : Fire}
theorem gR_2 : (gR L f).get 2 = some (.box [.nils, .nils]) := by
  unfold gR
  rw [apQ_get (by decide), apQ_get (by decide)]
  simp
theorem gR_6 : (gR L f).get 6 = some (.box [apS (L, 99) 7 (f.coals.map Coal.row), apS (L, 123) 2 (f.touches.map Touch.row)]) := by
  unfold gR
  rw [apQ_get (by decide), apQ_get (by decide)]
  simp
theorem gR_99 (h : f.coals.map Coal.row ≠ []) : (gR L f).get 99 = some (.arr 7 (f.coals.map Coal.row) 0 true) := by
  unfold gR
  rw [apQ_get (by decide), apQ_self h]
theorem gR_123 (h : f.touches.map Touch.row ≠ []) : (gR L f).get 123 = some (.arr 2 (f.touches.map Touch.row) 0 true) := by
  unfold gR
  rw [apQ_self h]
theorem frz_fireR : frzVals (gF H.length f :: H) [.agg [apS (H.length, 99) 7 (f.coals.map Coal.row), apS (H.length, 123) 2 (f.touches.map Touch.row)]] = ([mkAgg [cV (f.coals.map Coal.row), cV (f.touches.map Touch.row)]], gR H.length f :: H) := by
  have t1 : (f.coals.map Coal.row).take f.coals.length = f.coals.map Coal.row := List.take_of_length_le (by simp)
  have t2 : (f.touches.map Touch.row).take f.touches.length = f.touches.map Touch.row := List.take_of_length_le (by simp)
  unfold gF gR apF apQ apS cV
  by_cases h : f.coals.map Coal.row = []
  · by_cases h2 : f.touches.map Touch.row = []
    · simp [h, h2, frzVals, frzVal, frzCells, frzCell]
    · simp [h, h2, frzVals, frzVal, frzCells, frzCell, pureCell, t1, t2]
  · by_cases h2 : f.touches.map Touch.row = []
    · simp [h, h2, frzVals, frzVal, frzCells, frzCell, pureCell, t1, t2]
    · simp [h, h2, frzVals, frzVal, frzCells, frzCell, pureCell, t1, t2]
end
theorem checkR_frz (f : Fire) : gcall KC (geval KC) 53 [.agg [apS (H.length, 99) 7 (f.coals.map Coal.row), apS (H.length, 123) 2 (f.touches.map Touch.row)]] c (gF H.length f :: H) = some (.pure (.int .i64 (checkF f.coals f.touches)), gR H.length f :: H) := by
  rw [gcall_frz rfl rfl rfl, frz_fireR]
  have h0 := checkR_ok (c := c) (H := gR H.length f :: H) f.coals f.touches (by simp)
  rw [gcall_frz rfl rfl rfl] at h0
  refine Eq.trans (gcall0_canonQ ?_) h0
  simp only [List.map_cons, List.map_nil, canon_cV]
  rfl

theorem ReadR_ok (s : List UInt8) (hH : 0 < H.length) (hs : s.length ≤ 9223372036854775807) : gcall KC (geval KC) 15 [.pure (.str s)] c H = some (.pure (readT (readE s)), H) := by
  refine WPv_eq (call_enter KC needT Tryz.func15 rfl rfl good15 rfl rfl rfl (by simp) hH ?_)
  by_cases h1 : 4000 < s.length
  · have hv : readE s = (⟨[], []⟩, 0, 5) := by unfold readE; rw [if_pos h1]
    have h1' : (4000 : Int) < s.length := by omega
    rw [hv]
    simp [h1, h1', readT, Fire.pv, gleave_free]
  · have h1' : ¬ (4000 : Int) < s.length := by omega
    have hS : ∀ c G, 0 < List.length G → gcall KC (geval KC) 58 [.pure (.str s), .pure (.int .u8 10)] c G = some (.pure (.slice ((splitL 10 s).map srow)), G) := fun c G hG => splitR_ok s 10 (by omega) hG
    have hv : readE s = (match rowsV 0 (⟨[], []⟩, 0, 0) ((splitL 10 s).take ((splitL 10 s).length - 1)) with
      | none => (⟨[], []⟩, failV 0 (⟨[], []⟩, 0, 0) ((splitL 10 s).take ((splitL 10 s).length - 1)), 3)
      | some y => if y.2.1 = 0 ∨ (splitL 10 s).getD ((splitL 10 s).length - 1) [] ≠ [] then (⟨[], []⟩, (splitL 10 s).length, 3) else if y.2.2 ≠ y.1.coals.length then (⟨[], []⟩, y.2.1, 12)
        else if checkF y.1.coals y.1.touches ≠ 0 then (⟨[], []⟩, 0, checkF y.1.coals y.1.touches) else (y.1, 0, 0)) := by
      unfold readE; rw [if_neg h1]; rfl
    have hsl := splitL_len 10 s
    have hsm := splitL_mem 10 s
    have hne := splitL_ne 10 s
    rw [hv]
    clear hv
    generalize splitL 10 s = sp at *
    obtain ⟨n, hn⟩ : ∃ n, sp.length = n + 1 := ⟨sp.length - 1, by have := List.length_pos_iff.2 hne; omega⟩
    have hw := w64 (x := (n : Int)) (by omega) (by omega)
    rw [hn, Nat.add_sub_cancel]
    have h0 := fun Q => rloopR (H := H) sp n hn (by omega) (fun w hw => by have := hsm w hw; omega) Q n 0 (⟨[], []⟩, 0, 0) (by omega) (by simp) (by simp)
    have hF0 : gF H.length ⟨[], []⟩ = [(2, .box [.nils, .nils]), (6, .box [.nils, .nils])] := rfl
    simp only [hF0] at h0
    simp [h1, h1', hS]
    refine h0 _ (fun y hy => ?_) (fun y hy => ?_)
    · rw [List.drop_zero] at hy
      rw [hy]
      have hF2 := gF_2 (L := H.length) (f := y.1)
      have hF6 := gF_6 (L := H.length) (f := y.1)
      have hm : n < sp.length := by omega
      have hget : sp[n]? = some sp[n] := List.getElem?_eq_getElem hm
      by_cases e1 : y.2.1 = 0
      · simp [e1, hn, hF2, readT, Fire.pv, Fr.get_ins, gleave_free]
      · by_cases e2 : sp[n] = []
        · by_cases e3 : y.2.2 = y.1.coals.length
          · have hC := fun c => checkR_frz (c := c) (H := H) y.1
            have hR2 := gR_2 (L := H.length) (f := y.1)
            have hR6 := gR_6 (L := H.length) (f := y.1)
            have k1 := fun F (h) => clean1_apQ (H := H) (key := 99) (es := 7) (rows := y.1.coals.map Coal.row) (l := H.length) (l0 := H.length - 1) (F := F) rfl (by omega) h
            have k2 := fun F (h) => clean1_apQ (H := H) (key := 123) (es := 2) (rows := y.1.touches.map Touch.row) (l := H.length) (l0 := H.length - 1) (F := F) rfl (by omega) h
            by_cases e4 : checkF y.1.coals y.1.touches = 0
            · have q1 := k1 ((gR H.length y.1).ins 2 (.box [apS (H.length, 99) 7 (y.1.coals.map Coal.row), apS (H.length, 123) 2 (y.1.touches.map Touch.row)])) (fun h => by rw [Fr.get_ins_other _ (by decide)]; exact gR_99 h)
              have q2 := k2 ((gR H.length y.1).ins 2 (.box [apS (H.length, 99) 7 (y.1.coals.map Coal.row), apS (H.length, 123) 2 (y.1.touches.map Touch.row)])) (fun h => by rw [Fr.get_ins_other _ (by decide)]; exact gR_123 h)
              simp [e1, e2, e3, hn, hw, hF2, hF6, hget, srow, hC, e4, hR2, hR6, Fr.get_ins, q1, q2, gleave_free]
              unfold cV readT Fire.pv
              by_cases h5 : y.1.coals.map Coal.row = [] <;> by_cases h6 : y.1.touches.map Touch.row = [] <;> simp [h5, h6]
            · have e4' : (checkF y.1.coals y.1.touches == 0) = false := by simpa using e4
              simp [e1, e2, e3, hn, hw, hF2, hF6, hget, srow, hC, e4, e4', hR2, hR6, readT, Fire.pv, Fr.get_ins, gleave_free, bne]
          · simp [e1, e2, e3, hn, hw, hF2, hF6, hget, srow, readT, Fire.pv, Fr.get_ins, gleave_free]
        · simp [e1, e2, hn, hw, hF2, hF6, hget, srow, readT, Fire.pv, Fr.get_ins, gleave_free]
    · rw [List.drop_zero] at hy
      rw [hy]
      have hF2 := gF_2 (L := H.length) (f := y.1)
      simp [hF2, readT, Fire.pv, Fr.get_ins, gleave_free]
end Go.Gh


/- Fires compared. -/
namespace Go.Gh
open Go.Proofs
set_option linter.unusedSimpArgs false
set_option linter.unusedVariables false
set_option maxRecDepth 100000
set_option maxHeartbeats 2000000

variable {c : Nat} {H : Heap}
theorem Int.eqv (x y : Int) : (x == y) = decide (x = y) := by rw [Bool.eq_iff_iff]; simp
theorem Coal.eqv (x y : Coal) : (x.katch.lo == y.katch.lo && (x.katch.hi == y.katch.hi && (x.burn.lo == y.burn.lo && (x.burn.hi == y.burn.hi && (x.heat.lo == y.heat.lo && (x.heat.hi == y.heat.hi && x.lit == y.lit)))))) = decide (x = y) := by
  obtain ⟨⟨_, _⟩, ⟨_, _⟩, ⟨_, _⟩, _⟩ := x; obtain ⟨⟨_, _⟩, ⟨_, _⟩, ⟨_, _⟩, _⟩ := y; rw [Bool.eq_iff_iff]; simp; constructor
  · rintro ⟨rfl, rfl, rfl, rfl, rfl, rfl, rfl⟩; simp
  · rintro ⟨⟨rfl, rfl⟩, ⟨rfl, rfl⟩, ⟨rfl, rfl⟩, rfl⟩; simp

theorem eqFires_loop1 (a b : List Coal) (ts us : List Touch) (hl : a.length = b.length) (hb : a.length < 4611686018427387904) (Q : GX → GSt → Prop) (hH : 0 < H.length) : ∀ k i : Nat, i + k = a.length →
    (a.drop i = b.drop i → Q (.exit 0) ⟨[(2, .bptr (H.length, 2) 0), (3, .bptr (H.length, 3) 0), (4, gdead)], [(2, .box [.pure (.slice (a.map Coal.row)), .pure (.slice (ts.map Touch.row))]), (3, .box [.pure (.slice (b.map Coal.row)), .pure (.slice (us.map Touch.row))])] :: H, 59⟩) →
    (a.drop i ≠ b.drop i → Q .ret ⟨[(2, .bptr (H.length, 2) 0), (3, .bptr (H.length, 3) 0), (4, .pure (.bool false))], [(2, .box [.pure (.slice (a.map Coal.row)), .pure (.slice (ts.map Touch.row))]), (3, .box [.pure (.slice (b.map Coal.row)), .pure (.slice (us.map Touch.row))])] :: H, 59⟩) →
    WPL KC needT 16 (lp Tryz.f16 0) [2, 3, 5] [2, 3, 4] Q [(2, .bptr (H.length, 2) 0), (3, .bptr (H.length, 3) 0), (5, .pure (.int .i64 i))] ([(2, .box [.pure (.slice (a.map Coal.row)), .pure (.slice (ts.map Touch.row))]), (3, .box [.pure (.slice (b.map Coal.row)), .pure (.slice (us.map Touch.row))])] :: H) 59 := by
  intro k
  induction k with
  | zero =>
    intro i hi h1 h2
    have e1 : a.drop i = b.drop i := by rw [List.drop_of_length_le (by omega), List.drop_of_length_le (by omega)]
    apply WPL_step
    conv => arg 4; whnf
    have : ¬ i < a.length := by omega
    simp [this, hH]
    exact h1 e1
  | succ k ih =>
    intro i hi h1 h2
    have hia : i < a.length := by omega
    have hib : i < b.length := by omega
    have hw := w64 (x := (i : Int) + 1) (by omega) (by omega)
    rw [drop_eq hia hib] at h1
    rw [ne_eq, drop_eq hia hib] at h2
    apply WPL_step
    conv => arg 4; whnf
    have ih' := ih (i + 1) (by omega)
    by_cases he : a[i] = b[i]
    · simp [hia, hib, hH, Coal.row, he, hw]
      simp only [he, true_and, ne_eq] at h1 h2
      simpa using ih' h1 h2
    · have e2 := Coal.eqv a[i] b[i]
      rw [decide_eq_false he] at e2
      simp [hia, hib, hH, Coal.row, e2]
      exact h2 fun h => he h.1
theorem eqFires_loop2 (cs ds : List Coal) (a b : List Touch) (hl : a.length = b.length) (hb : a.length < 4611686018427387904) (Q : GX → GSt → Prop) (hH : 0 < H.length) : ∀ k i : Nat, i + k = a.length →
    (a.drop i = b.drop i → Q (.exit 2) ⟨[(4, gdead)], [(2, .box [.pure (.slice (cs.map Coal.row)), .pure (.slice (a.map Touch.row))]), (3, .box [.pure (.slice (ds.map Coal.row)), .pure (.slice (b.map Touch.row))])] :: H, 59⟩) →
    (a.drop i ≠ b.drop i → Q .ret ⟨[(4, .pure (.bool false))], [(2, .box [.pure (.slice (cs.map Coal.row)), .pure (.slice (a.map Touch.row))]), (3, .box [.pure (.slice (ds.map Coal.row)), .pure (.slice (b.map Touch.row))])] :: H, 59⟩) →
    WPL KC needT 16 (lp Tryz.f16 1) [2, 3, 6] [4] Q [(2, .bptr (H.length, 2) 0), (3, .bptr (H.length, 3) 0), (6, .pure (.int .i64 i))] ([(2, .box [.pure (.slice (cs.map Coal.row)), .pure (.slice (a.map Touch.row))]), (3, .box [.pure (.slice (ds.map Coal.row)), .pure (.slice (b.map Touch.row))])] :: H) 59 := by
  intro k
  induction k with
  | zero =>
    intro i hi h1 h2
    have e1 : a.drop i = b.drop i := by rw [List.drop_of_length_le (by omega), List.drop_of_length_le (by omega)]
    apply WPL_step
    conv => arg 4; whnf
    have : ¬ i < a.length := by omega
    simp [this, hH]
    exact h1 e1
  | succ k ih =>
    intro i hi h1 h2
    have hia : i < a.length := by omega
    have hib : i < b.length := by omega
    have hw := w64 (x := (i : Int) + 1) (by omega) (by omega)
    rw [drop_eq hia hib] at h1
    rw [ne_eq, drop_eq hia hib] at h2
    apply WPL_step
    conv => arg 4; whnf
    have ih' := ih (i + 1) (by omega)
    by_cases he : a[i] = b[i]
    · simp [hia, hib, hH, Touch.row, he, hw]
      simp only [he, true_and, ne_eq] at h1 h2
      simpa using ih' h1 h2
    · have e2 := Touch.eqv a[i] b[i]
      rw [decide_eq_false he] at e2
      simp [hia, hib, hH, Touch.row, e2]
      exact h2 fun h => he h.1
theorem eqFires_ok (a b : List Coal) (ts us : List Touch) (hH : 0 < H.length) (hb : a.length < 4611686018427387904) (ht : ts.length < 4611686018427387904) :
    gcall KC (geval KC) 16 [.pure (.agg [.slice (a.map Coal.row), .slice (ts.map Touch.row)]), .pure (.agg [.slice (b.map Coal.row), .slice (us.map Touch.row)])] c H = some (.pure (.bool (decide (a = b) && decide (ts = us))), H) := by
  refine WPv_eq (call_enter KC needT Tryz.func16 rfl rfl good16 rfl rfl rfl (by simp) hH ?_)
  by_cases hl : a.length = b.length
  · by_cases hl2 : ts.length = us.length
    · simp [hl, hl2]
      refine eqFires_loop1 a b ts us hl hb _ hH a.length 0 (by omega) (fun h => ?_) (fun h => ?_)
      · simp at h
        simp [h]
        subst h
        refine eqFires_loop2 a a ts us hl2 ht _ hH ts.length 0 (by omega) (fun h => ?_) (fun h => ?_)
        · simp at h
          simp [h, gleave_free]
        · simp at h
          simp [h, gleave_free]
      · simp at h
        simp [h, gleave_free]
    · have hne : ts ≠ us := fun h => hl2 (by rw [h])
      have hl3 : ((ts.length : Int) == us.length) = false := beq_eq_false_iff_ne.2 (by omega)
      simp [hl, hl2, hl3, hne, gleave_free, bne]
  · have hne : a ≠ b := fun h => hl (by rw [h])
    have hl2 : ((a.length : Int) == b.length) = false := beq_eq_false_iff_ne.2 (by omega)
    simp [hl, hl2, hne, gleave_free, bne]

noncomputable def fitF : Int → Int → Int := hid fun x n => if n < 2 then 0 else if x.tmod n < 0 then IntKind.i64.wrap (x.tmod n + n) else x.tmod n
theorem fitF_def (x n : Int) : fitF x n = if n < 2 then 0 else if x.tmod n < 0 then IntKind.i64.wrap (x.tmod n + n) else x.tmod n := by rw [fitF, hid_eq]
theorem fit_ok {x n : Int} (hH : 0 < H.length) : gcall KC (geval KC) 45 [.pure (.int .i64 x), .pure (.int .i64 n)] c H = some (.pure (.int .i64 (fitF x n)), H) := by
  refine WPv_eq (call_enter KC needT Tryz.func45 rfl rfl good45 rfl rfl rfl (by simp) hH ?_)
  rw [fitF_def]
  by_cases h1 : n < 2
  · simp [h1, gleave_free]
  · have h2 : n ≠ 0 := by omega
    by_cases h3 : x.tmod n < 0
    · simp [h1, h2, h3, gleave_free]
    · simp [h1, h2, h3, gleave_free]
end Go.Gh


/- Blot. -/
namespace Go.Gh
open Go.Proofs
set_option linter.unusedSimpArgs false
set_option linter.unusedVariables false
set_option maxRecDepth 100000
set_option maxHeartbeats 2000000

variable {c : Nat} {H : Heap}
theorem fitF_rng {x n : Int} (h1 : 1 ≤ n) (h2 : n ≤ 1000000) : 0 ≤ fitF x n ∧ fitF x n < n := by
  rw [fitF_def]
  split
  · omega
  · have h3 := Int.tmod_lt_of_pos x (show 0 < n by omega)
    have h4 : -n < x.tmod n := by
      have := Int.tmod_lt_of_pos (-x) (show 0 < n by omega)
      rw [Int.neg_tmod] at this
      omega
    split
    · rw [w64 (by omega) (by omega)]
      omega
    · omega
noncomputable def blotS (s : List UInt8) (at_ how : Int) (by_ : UInt8) : List UInt8 :=
  if s = [] then s
  else if fitF how 3 = 0 then s.take (fitF at_ s.length).toNat ++ by_ :: s.drop ((fitF at_ s.length).toNat + 1)
  else if fitF how 3 = 1 then s.take (fitF at_ s.length).toNat ++ s.drop ((fitF at_ s.length).toNat + 1)
  else s.take (fitF at_ s.length).toNat ++ by_ :: s.drop (fitF at_ s.length).toNat
theorem blotS_len (s : List UInt8) (at_ how : Int) (by_ : UInt8) : (blotS s at_ how by_).length ≤ 2 * s.length + 1 := by
  unfold blotS
  split
  · omega
  · split
    · simp; omega
    · split
      · simp; omega
      · simp; omega
theorem Blot_ok (s : List UInt8) (at_ how : Int) (by_ : UInt8) (hs : s.length ≤ 100000) (hH : 0 < H.length) :
    gcall KC (geval KC) 13 [.pure (.str s), .pure (.int .i64 at_), .pure (.int .i64 how), .pure (.int .u8 by_.toNat)] c H = some (.pure (.str (blotS s at_ how by_)), H) := by
  refine WPv_eq (call_enter KC needT Tryz.func13 rfl rfl good13 rfl rfl rfl (by simp) hH ?_)
  by_cases h0 : s = []
  · subst h0
    simp [blotS, gleave_free]
  · have hl : 0 < s.length := List.length_pos_iff.2 h0
    have hr := fitF_rng (x := at_) (n := s.length) (by omega) (by omega)
    obtain ⟨a, ha⟩ : ∃ a : Nat, fitF at_ s.length = a := ⟨(fitF at_ s.length).toNat, by omega⟩
    have hF1 := fun c G (hG : 0 < List.length G) => fit_ok (c := c) (H := G) (x := at_) (n := s.length) hG
    have hF2 := fun c G (hG : 0 < List.length G) => fit_ok (c := c) (H := G) (x := how) (n := 3) hG
    have hb : blotS s at_ how by_ = if fitF how 3 = 0 then s.take a ++ by_ :: s.drop (a + 1) else if fitF how 3 = 1 then s.take a ++ s.drop (a + 1) else s.take a ++ by_ :: s.drop a := by
      unfold blotS
      rw [if_neg h0, ha]
      simp
    rw [hb]
    clear hb
    rw [ha] at hF1 hr
    have hn0 : ((s.length : Int) == 0) = false := by rw [beq_eq_false_iff_ne]; omega
    have hw := w64 (x := (a : Int) + 1) (by omega) (by omega)
    have hle : a ≤ s.length := by omega
    have hle1 : a + 1 ≤ s.length := by omega
    have hbb : (0 : Int) ≤ by_.toNat ∧ (by_.toNat : Int) < 256 := ⟨by omega, byte_lt by_⟩
    generalize fitF how 3 = q at *
    have hcv : cvV Tryz.prog (some (.slice 5)) (some .string) (.pure (.slice [[.int .u8 by_.toNat]])) = some (.pure (.str [by_])) := by
      have h8 : Tryz.prog.underlying 5 = some (.int .u8) := by kernel_rfl
      have hby : bytesOf [[.int .u8 by_.toNat]] = some [by_] := bytesOf_brow [by_]
      simp [cvV, h8, hby]
    have hlt0 : ¬ (a : Int) + 1 < 0 := by omega
    have l1 : a ≤ 4611686018427387903 := by omega
    have l2 : a + (s.length - (a + 1)) ≤ 4611686018427387904 := by omega
    have l3 : a + 1 + (s.length - (a + 1)) ≤ 4611686018427387904 := by omega
    have l5 : s.length ≤ 4611686018427387904 := by omega
    have l4 : a + 1 + (s.length - a) ≤ 4611686018427387904 := by omega
    by_cases q0 : q = 0
    · subst q0
      simp [h0, hn0, hF1, hF2, hw, hle, hle1, hcv, hlt0, l1, l2, l3, l4, l5, gleave_free]
    · by_cases q1 : q = 1
      · subst q1
        simp [h0, hn0, hF1, hF2, hw, hle, hle1, hcv, hlt0, l1, l2, l3, l4, l5, gleave_free]
      · simp [h0, hn0, hF1, hF2, hw, hle, hle1, hcv, hlt0, l1, l2, l3, l4, l5, q0, q1, gleave_free]
end Go.Gh


/- A literal that keeps its room: []string{..}, and what is appended to it. -/
namespace Go.Gh
open Go.Proofs
set_option linter.unusedSimpArgs false
set_option linter.unusedVariables false
set_option maxRecDepth 100000
set_option maxHeartbeats 2000000

variable {c : Nat} {H : Heap}
def litS (x : GV) (H : Heap) : Option (GV × Heap) := match x with | .pure (.str l) => some (.lits [[.pure (.str l)]], H) | _ => none
@[simp] theorem litS_str {l : List UInt8} : litS (.pure (.str l)) H = some (.lits [[.pure (.str l)]], H) := .trans rfl rfl
theorem gop_lit1 {ty : TypeId} {pos : String} {af : Array Edge} {s : Slots} {x : Operand} {l : List UInt8} (hx : ev s x = .pure (.str l)) :
    gop KC 3 ⟨some 46, .buildSlice 33 1 #[(0, x)], ty, pos, af, none⟩ s H = some (.lits [[.pure (.str l)]], H) := by
  have h1 : telem KC.P 33 = some 9 := by kernel_rfl
  have h2 : tsize KC.P 9 = some 1 := by kernel_rfl
  have h3 : tzero KC.P 9 = some (.pure (.str [])) := by kernel_rfl
  have h4 : KC.lit 3 46 = true := by kernel_rfl
  have h5 : KC.own 3 46 = false := by kernel_rfl
  simp only [gop, h1, h2, h3, h4, h5]
  simp [evp, hx, gfill]
theorem apK_litS {L : Nat} {l a b : List UInt8} {f0 : Fr} {fr : Fr} (hL : H.length = L) (hf : fr.get 85 = none) :
    apK L 85 (.lits [[.pure (.str l)]]) 1 16 [[.str a], [.str b]] (f0 :: fr :: H) = some (.hdr (L, 85) 1 3 0 3, f0 :: fr.ins 85 (.arr 1 [[.str l], [.str a], [.str b]] 0 false) :: H) := by
  subst hL
  unfold apK
  simp [pureRowsO, allPure, hf]
end Go.Gh


/- What is written is short (from W14). -/
namespace Go.Gh
set_option linter.unusedSimpArgs false
set_option linter.unusedVariables false
set_option maxRecDepth 100000

theorem join_snoc {c : UInt8} {l : List UInt8} : ∀ {ws : List (List UInt8)}, ws ≠ [] → joinL c (ws ++ [l]) = joinL c ws ++ c :: l
  | [], h => absurd rfl h
  | [w], _ => rfl
  | w :: y :: r, _ => by
    rw [List.cons_append, joinL_cons (by simp), join_snoc (ws := y :: r) (by simp), joinL_cons (l := y :: r) (by simp), List.append_assoc]
    rfl
theorem join_no {c d : UInt8} (hcd : d ≠ c) : ∀ {ws : List (List UInt8)}, (∀ w ∈ ws, d ∉ w) → d ∉ joinL c ws
  | [], _ => by simp [joinL]
  | [w], h => h w List.mem_cons_self
  | w :: y :: r, h => by
    rw [joinL_cons (by simp)]
    have ih := join_no hcd (ws := y :: r) fun x hx => h x (List.mem_cons_of_mem _ hx)
    intro hm
    rcases List.mem_append.1 hm with hm | hm
    · exact h w List.mem_cons_self hm
    · rcases List.mem_cons.1 hm with e | hm
      · exact hcd e
      · exact ih hm

def lastW (x : Coal) : List UInt8 := if x.lit then litW else coldW
def coalP (x : Coal) : List (List UInt8) := coalW :: (coalN x).map itoaL ++ [lastW x]
def touchP (x : Touch) : List (List UInt8) := touchW :: [x.a, x.b].map itoaL
def endP (n : Int) : List (List UInt8) := endW :: [n].map itoaL
def body (f : Fire) : List UInt8 := f.coals.flatMap coalS ++ f.touches.flatMap touchS
theorem coalS_eq (x : Coal) : coalS x = joinL 32 (coalP x) ++ [10] := by
  unfold coalP
  rw [join_snoc (by simp), join_nums]
  unfold coalS lastW
  split <;> simp
theorem touchS_eq (x : Touch) : touchS x = joinL 32 (touchP x) ++ [10] := by
  unfold touchP
  rw [join_nums]
  rfl
theorem endS_eq (n : Int) : wordS endW [n] = joinL 32 (endP n) := by
  unfold endP
  rw [join_nums]
theorem writeS_eq (f : Fire) : writeS f = body f ++ (joinL 32 (endP f.coals.length) ++ [10]) := by
  unfold writeS body
  rw [endS_eq]
def rowsF (f : Fire) : List (List UInt8) := f.coals.map (fun x => joinL 32 (coalP x)) ++ (f.touches.map (fun x => joinL 32 (touchP x)) ++ [joinL 32 (endP f.coals.length)])
theorem flat_map {α : Type} {g : α → List UInt8} {h : α → List UInt8} (e : ∀ x, h x = g x ++ [10]) : ∀ l : List α, l.flatMap h = (l.map g).flatMap fun w => w ++ [10]
  | [] => rfl
  | x :: r => by simp [e, flat_map e r]
theorem writeS_rows (f : Fire) : writeS f = (rowsF f).flatMap fun w => w ++ [10] := by
  rw [writeS_eq]
  unfold body rowsF
  rw [flat_map coalS_eq, flat_map touchS_eq]
  simp

/-! ### reading what is written -/
theorem itoa_words {ns : List Int} (h : ∀ n ∈ ns, 0 ≤ n) {c : UInt8} (hc : c.toNat < 48) : ∀ w ∈ ns.map itoaL, c ∉ w := fun w hw => by
  obtain ⟨n, hn, rfl⟩ := List.mem_map.1 hw
  exact itoa_no (h n hn) hc
theorem coalP_no {x : Coal} (h : ∀ n ∈ coalN x, 0 ≤ n) {c : UInt8} (hc : c.toNat < 48) : ∀ w ∈ coalP x, c ∉ w := fun w hw => by
  rcases List.mem_append.1 hw with hw | hw
  · rcases List.mem_cons.1 hw with rfl | hw
    · intro hm; simp [coalW] at hm; rcases hm with rfl | rfl | rfl | rfl <;> simp at hc
    · exact itoa_words h hc w hw
  · rw [List.mem_singleton] at hw
    subst hw
    unfold lastW
    split
    · intro hm; simp [litW] at hm; rcases hm with rfl | rfl | rfl <;> simp at hc
    · intro hm; simp [coldW] at hm; rcases hm with rfl | rfl | rfl | rfl <;> simp at hc
theorem touchP_no {x : Touch} (h : 0 ≤ x.a ∧ 0 ≤ x.b) {c : UInt8} (hc : c.toNat < 48) : ∀ w ∈ touchP x, c ∉ w := fun w hw => by
  rcases List.mem_cons.1 hw with rfl | hw
  · intro hm; simp [touchW] at hm; rcases hm with rfl | rfl | rfl | rfl | rfl <;> simp at hc
  · exact itoa_words (by intro n hn; simp at hn; omega) hc w hw
theorem endP_no {n : Int} (h : 0 ≤ n) {c : UInt8} (hc : c.toNat < 48) : ∀ w ∈ endP n, c ∉ w := fun w hw => by
  rcases List.mem_cons.1 hw with rfl | hw
  · intro hm; simp [endW] at hm; rcases hm with rfl | rfl | rfl <;> simp at hc
  · exact itoa_words (by intro n hn; simp at hn; omega) hc w hw
theorem nl_lt : (10 : UInt8).toNat < 48 := by decide
theorem sp_lt : (32 : UInt8).toNat < 48 := by decide
theorem rowsF_no {f : Fire} (hf : GoodF f) : ∀ w ∈ rowsF f, (10 : UInt8) ∉ w := fun w hw => by
  unfold rowsF at hw
  rcases List.mem_append.1 hw with hw | hw
  · obtain ⟨x, hx, rfl⟩ := List.mem_map.1 hw
    exact join_no (by decide) (coalP_no (fun n hn => (hf.cn x hx n hn).1) nl_lt)
  · rcases List.mem_append.1 hw with hw | hw
    · obtain ⟨x, hx, rfl⟩ := List.mem_map.1 hw
      exact join_no (by decide) (touchP_no (by have := hf.tn x hx; omega) nl_lt)
    · rw [List.mem_singleton] at hw
      subst hw
      exact join_no (by decide) (endP_no (by omega) nl_lt)

theorem take_coal {x : Coal} {cs : List Coal} (h : ∀ n ∈ coalN x, 0 ≤ n ∧ n ≤ 1000) : takeV ⟨cs, []⟩ (coalP x) = some ⟨cs ++ [x], []⟩ := by
  unfold takeV
  have e : allNum (((coalP x).drop 1).take 6) = some (coalN x) := by
    have : ((coalP x).drop 1).take 6 = (coalN x).map itoaL := rfl
    rw [this]
    exact allNum_itoa fun n hn => by have := h n hn; omega
  have hl : (coalP x).getD 7 [] = lastW x := rfl
  rw [if_pos ⟨rfl, rfl, rfl, by rw [hl]; unfold lastW; split; exact .inl rfl; exact .inr rfl⟩]
  unfold takeC
  rw [e, hl]
  have hd : decide (lastW x = litW) = x.lit := by
    unfold lastW
    cases x.lit
    · rfl
    · rfl
  simp only [coalN, hd]
theorem take_touch {x : Touch} {f : Fire} (h : 0 ≤ x.a ∧ x.a ≤ 11 ∧ 0 ≤ x.b ∧ x.b ≤ 11) : takeV f (touchP x) = some ⟨f.coals, f.touches ++ [x]⟩ := by
  unfold takeV
  have e : allNum ((touchP x).drop 1) = some [x.a, x.b] := by
    have : (touchP x).drop 1 = [x.a, x.b].map itoaL := rfl
    rw [this]
    exact allNum_itoa fun n hn => by simp at hn; omega
  rw [if_neg (fun hh => by have := hh.1; simp [touchP, coal_touch.symm] at this), if_pos (show (touchP x).head? = some touchW from rfl)]
  unfold takeT
  rw [e, if_pos (show (touchP x).length = 3 from rfl)]
theorem row_coal {x : Coal} {cs : List Coal} {i : Nat} (h : ∀ n ∈ coalN x, 0 ≤ n ∧ n ≤ 1000) : rowV i (⟨cs, []⟩, 0, 0) (joinL 32 (coalP x)) = some (⟨cs ++ [x], []⟩, 0, 0) := by
  unfold rowV
  rw [split_words (by simp [coalP]) (coalP_no (fun n hn => (h n hn).1) sp_lt), if_neg (by simp), if_neg (by simp [coalP]; decide), take_coal h]
theorem row_touch {x : Touch} {f : Fire} {i : Nat} (h : 0 ≤ x.a ∧ x.a ≤ 11 ∧ 0 ≤ x.b ∧ x.b ≤ 11) : rowV i (f, 0, 0) (joinL 32 (touchP x)) = some (⟨f.coals, f.touches ++ [x]⟩, 0, 0) := by
  unfold rowV
  rw [split_words (by simp [touchP]) (touchP_no (by omega) sp_lt), if_neg (by simp), if_neg (by simp [touchP]; decide), take_touch h]
theorem row_end {n : Int} {f : Fire} {i : Nat} (h : 0 ≤ n ∧ n ≤ 1000) : rowV i (f, 0, 0) (joinL 32 (endP n)) = some (f, (i : Int) + 1, n) := by
  unfold rowV
  have e : numsV ((endP n).drop 1) 1 = some [n] := by
    have : (endP n).drop 1 = [n].map itoaL := rfl
    rw [this]
    unfold numsV
    rw [if_pos (by simp), allNum_itoa fun n hn => by simp at hn; omega]
  rw [split_words (by simp [endP]) (endP_no h.1 sp_lt), if_neg (by simp), if_pos (show (endP n).head? = some endW from rfl), e]
theorem rows_coals : ∀ (xs cs : List Coal) (i : Nat) (rest : List (List UInt8)), (∀ x ∈ xs, ∀ n ∈ coalN x, 0 ≤ n ∧ n ≤ 1000) →
    rowsV i (⟨cs, []⟩, 0, 0) (xs.map (fun x => joinL 32 (coalP x)) ++ rest) = rowsV (i + xs.length) (⟨cs ++ xs, []⟩, 0, 0) rest
  | [], cs, i, rest, _ => by simp
  | x :: xs, cs, i, rest, h => by
    rw [List.map_cons, List.cons_append, rowsV, row_coal (h x List.mem_cons_self)]
    simp only
    rw [rows_coals xs _ _ _ fun y hy => h y (List.mem_cons_of_mem _ hy)]
    have e1 : i + 1 + xs.length = i + (xs.length + 1) := by omega
    simp [e1]
theorem rows_touches : ∀ (xs : List Touch) (f : Fire) (i : Nat) (rest : List (List UInt8)), (∀ x ∈ xs, 0 ≤ x.a ∧ x.a ≤ 11 ∧ 0 ≤ x.b ∧ x.b ≤ 11) →
    rowsV i (f, 0, 0) (xs.map (fun x => joinL 32 (touchP x)) ++ rest) = rowsV (i + xs.length) (⟨f.coals, f.touches ++ xs⟩, 0, 0) rest
  | [], f, i, rest, _ => by simp
  | x :: xs, f, i, rest, h => by
    rw [List.map_cons, List.cons_append, rowsV, row_touch (h x List.mem_cons_self)]
    simp only
    rw [rows_touches xs _ _ _ fun y hy => h y (List.mem_cons_of_mem _ hy)]
    have e1 : i + 1 + xs.length = i + (xs.length + 1) := by omega
    simp [e1]
theorem numsS_short : ∀ {ns : List Int}, (∀ n ∈ ns, 0 ≤ n ∧ n < 100000) → (numsS ns).length ≤ 6 * ns.length
  | [], _ => by simp [numsS]
  | n :: ns, h => by
    have h1 := numsS_short fun m hm => h m (List.mem_cons_of_mem _ hm)
    have h2 := itoa_short (h n List.mem_cons_self).1 (h n List.mem_cons_self).2
    unfold numsS at h1 ⊢
    simp at h1 ⊢
    omega
theorem flat_short {α : Type} {g : α → List UInt8} {m : Nat} : ∀ {l : List α}, (∀ x ∈ l, (g x).length ≤ m) → (l.flatMap g).length ≤ m * l.length
  | [], _ => by simp
  | x :: l, h => by
    have h1 := flat_short fun y hy => h y (List.mem_cons_of_mem _ hy)
    have h2 := h x List.mem_cons_self
    simp only [List.flatMap_cons, List.length_append, List.length_cons, Nat.mul_add]
    omega
theorem writeS_short {f : Fire} (hf : GoodF f) : (writeS f).length ≤ 2000 := by
  have h1 : (f.coals.flatMap coalS).length ≤ 50 * f.coals.length := flat_short fun x hx => by
    have := numsS_short (ns := coalN x) fun n hn => by have := hf.cn x hx n hn; omega
    unfold coalS wordS
    simp [coalN, coalW, litW, coldW] at this ⊢
    split <;> simp <;> omega
  have h2 : (f.touches.flatMap touchS).length ≤ 20 * f.touches.length := flat_short fun x hx => by
    have := numsS_short (ns := [x.a, x.b]) fun n hn => by have := hf.tn x hx; simp at hn; omega
    unfold touchS wordS
    simp [touchW] at this ⊢
    omega
  have h3 := numsS_len [(f.coals.length : Int)]
  have h4 := hf.cl
  have h5 := hf.tl
  unfold writeS wordS
  simp [endW] at h1 h2 h3 ⊢
  omega
end Go.Gh


/- Fires made of numbers. -/
namespace Go.Gh
open Go.Proofs
set_option linter.unusedSimpArgs false
set_option linter.unusedVariables false
set_option maxRecDepth 100000
set_option maxHeartbeats 2000000

variable {c : Nat} {H : Heap}
noncomputable def coalR : Int → Coal × Int := hid fun w =>
  let a := spanR w 1 8
  let b := spanR a.2 1 12
  let p := pickR b.2 [5, 40]
  let h := spanR p.2 0 p.1
  let o := oneR h.2 3
  (⟨a.1, b.1, h.1, o.1⟩, o.2)
theorem coalR_def (w : Int) : coalR w =
  (let a := spanR w 1 8
  let b := spanR a.2 1 12
  let p := pickR b.2 [5, 40]
  let h := spanR p.2 0 p.1
  let o := oneR h.2 3
  (⟨a.1, b.1, h.1, o.1⟩, o.2)) := by rw [coalR, hid_eq]
noncomputable def coalsR : Nat → Int → List Coal × Int
  | 0, w => ([], w)
  | n + 1, w => ((coalR w).1 :: (coalsR n (coalR w).2).1, (coalsR n (coalR w).2).2)
noncomputable def touchR : Int → Int → Touch × Int := hid fun n w =>
  let a := upR w n
  let b := anyR a.2 1 (IntKind.i64.wrap (n - 1))
  (⟨a.1, fitF (IntKind.i64.wrap (a.1 + b.1)) n⟩, b.2)
theorem touchR_def (n w : Int) : touchR n w =
  (let a := upR w n
  let b := anyR a.2 1 (IntKind.i64.wrap (n - 1))
  (⟨a.1, fitF (IntKind.i64.wrap (a.1 + b.1)) n⟩, b.2)) := by rw [touchR, hid_eq]
noncomputable def touchesR (m : Int) : Nat → Int → List Touch × Int
  | 0, w => ([], w)
  | n + 1, w => ((touchR m w).1 :: (touchesR m n (touchR m w).2).1, (touchesR m n (touchR m w).2).2)
theorem pick2_ok {nm : Nm} {a b : Int} (hB : isBox H nm) : gcall KC (geval KC) 44 [.bptr nm 0, .pure (.slice [[.int .i64 a], [.int .i64 b]])] c H = some (.pure (.int .i64 (pickR (wordAt H nm) [a, b]).1), H.set nm (wbox (pickR (wordAt H nm) [a, b]).2)) :=
  pick_ok (l := [a, b]) hB (by simp)
theorem fire_loop1 {nm : Nm} (hB : isBox H nm) (Q : GX → GSt → Prop) : ∀ (k : Nat) (w : Int) (rows : List (List PV)), rows.length + k ≤ 1000000 →
    Q (.exit 0) ⟨[(0, .bptr nm 0), (4, .bptr (H.length, 4) 0), (5, .bptr (H.length, 5) 0)], apF 33 7 (rows ++ (coalsR k w).1.map Coal.row) [(4, .box [.nils, .nils]), (5, .box [apS (H.length, 33) 7 (rows ++ (coalsR k w).1.map Coal.row), .nils])] :: H.set nm (wbox (coalsR k w).2), 70⟩ →
    WPL KC needT 9 (lp Tryz.f9 0) [0, 4, 5, 6] [0, 4, 5] Q [(0, .bptr nm 0), (4, .bptr (H.length, 4) 0), (5, .bptr (H.length, 5) 0), (6, .pure (.int .i64 k))]
      (apF 33 7 rows [(4, .box [.nils, .nils]), (5, .box [apS (H.length, 33) 7 rows, .nils])] :: H.set nm (wbox w)) 70 := by
  have hl := isBox_lt hB
  have hne : ¬ nm.1 = H.length := by omega
  have hne2 : ¬ nm.1 = H.length + 1 := by omega
  have hle : nm.1 ≤ H.length := by omega
  have hB2 : ∀ fr w, isBox (fr :: H.set nm (wbox w)) nm := fun fr w => isBox_up (isBox_set' hl)
  have hB3 : ∀ f2 fr w, isBox (f2 :: fr :: H.set nm (wbox w)) nm := fun f2 fr w => isBox_up (hB2 fr w)
  have hl3 : nm.1 < H.length + 1 := by omega
  have hl2 : ∀ w, nm.1 < (H.set nm (wbox w)).length := fun w => by simpa using hl
  intro k
  induction k with
  | zero =>
    intro w rows hr h1
    apply WPL_step
    conv => arg 4; whnf
    simp [hle]
    simp [coalsR] at h1
    exact h1
  | succ k ih =>
    intro w rows hr h1
    have hw := w64 (x := ((k + 1 : Nat) : Int) - 1) (by omega) (by omega)
    have hb : (rows.length + 1) * 56 ≤ 1099511627776 := by omega
    have ih' := ih (coalR w).2 (rows ++ [(coalR w).1.row]) (by simp; omega)
    have hp : (0 : Int) < (k : Int) + 1 := by omega
    have e1 : (k : Int) + 1 - 1 = k := by omega
    simp only [coalsR] at h1
    simp [e1] at hw
    apply WPL_step
    conv => arg 4; whnf
    simp [coalR_def, Coal.row, Span.row] at ih' h1
    simp [hp, Span.row, hne, hne2, hle, span_ok, pick2_ok, one_ok, hB2, hB3, hl, hl2, hl3, wordAt_up, e1, hw, hb]
    exact ih' h1
theorem fire_loop2 {nm : Nm} (hB : isBox H nm) (crows : List (List PV)) (n : Nat) (hn : n ≤ 1000000) (Q : GX → GSt → Prop) : ∀ (k : Nat) (w : Int) (rows : List (List PV)), rows.length + k ≤ 3000000 →
    Q (.exit 2) ⟨[(4, .bptr (H.length, 4) 0), (5, .bptr (H.length, 5) 0)], apF 67 2 (rows ++ (touchesR n (if 1 < n then k else 0) w).1.map Touch.row) (apF 33 7 crows [(4, .box [.nils, .nils]), (5, .box [apS (H.length, 33) 7 crows, apS (H.length, 67) 2 (rows ++ (touchesR n (if 1 < n then k else 0) w).1.map Touch.row)])]) :: H.set nm (wbox (touchesR n (if 1 < n then k else 0) w).2), 70⟩ →
    WPL KC needT 9 (lp Tryz.f9 1) [0, 4, 5, 7, 8] [4, 5] Q [(0, .bptr nm 0), (4, .bptr (H.length, 4) 0), (5, .bptr (H.length, 5) 0), (7, .pure (.int .i64 n)), (8, .pure (.int .i64 k))]
      (apF 67 2 rows (apF 33 7 crows [(4, .box [.nils, .nils]), (5, .box [apS (H.length, 33) 7 crows, apS (H.length, 67) 2 rows])]) :: H.set nm (wbox w)) 70 := by
  have hl := isBox_lt hB
  have hne : ¬ nm.1 = H.length := by omega
  have hne2 : ¬ nm.1 = H.length + 1 := by omega
  have hle : nm.1 ≤ H.length := by omega
  have hB2 : ∀ fr w, isBox (fr :: H.set nm (wbox w)) nm := fun fr w => isBox_up (isBox_set' hl)
  have hB3 : ∀ f2 fr w, isBox (f2 :: fr :: H.set nm (wbox w)) nm := fun f2 fr w => isBox_up (hB2 fr w)
  have hl3 : nm.1 < H.length + 1 := by omega
  have hl2 : ∀ w, nm.1 < (H.set nm (wbox w)).length := fun w => by simpa using hl
  intro k
  induction k with
  | zero =>
    intro w rows hr h1
    apply WPL_step
    conv => arg 4; whnf
    simp [hle]
    simp [touchesR] at h1
    exact h1
  | succ k ih =>
    intro w rows hr h1
    have hp : (0 : Int) < (k : Int) + 1 := by omega
    by_cases h1n : 1 < n
    · have h1n' : (1 : Int) < n := by omega
      have hw := w64 (x := ((k + 1 : Nat) : Int) - 1) (by omega) (by omega)
      have hb : (rows.length + 1) * 16 ≤ 1099511627776 := by omega
      have ih' := ih (touchR n w).2 (rows ++ [(touchR n w).1.row]) (by simp; omega)
      have e1 : (k : Int) + 1 - 1 = k := by omega
      have hu : (n : Int) ≤ 9223372036854775807 := by omega
      simp only [h1n, if_true] at h1 ih'
      simp only [touchesR] at h1
      simp [e1] at hw
      apply WPL_step
      conv => arg 4; whnf
      simp [touchR_def, Touch.row] at ih' h1
      simp [hp, h1n, h1n', hne, hne2, hle, up_ok, any_ok, fit_ok, hu, hB2, hB3, hl, hl2, hl3, wordAt_up, e1, hw, hb]
      exact ih' h1
    · have h1n' : ¬ (1 : Int) < n := by omega
      apply WPL_step
      conv => arg 4; whnf
      simp [hp, h1n, h1n', hle]
      simp [h1n, touchesR] at h1
      exact h1
noncomputable def fireR : Int → Int → Fire × Int := hid fun m w =>
  let k := upR w (IntKind.i64.wrap (m + 1))
  let cs := coalsR k.1.toNat k.2
  let q := upR cs.2 (2 * (cs.1.length : Int) + 1)
  let ts := touchesR cs.1.length (if 1 < cs.1.length then q.1.toNat else 0) q.2
  (⟨cs.1, ts.1⟩, ts.2)
theorem fireR_def (m w : Int) : fireR m w =
  (let k := upR w (IntKind.i64.wrap (m + 1))
  let cs := coalsR k.1.toNat k.2
  let q := upR cs.2 (2 * (cs.1.length : Int) + 1)
  let ts := touchesR cs.1.length (if 1 < cs.1.length then q.1.toNat else 0) q.2
  (⟨cs.1, ts.1⟩, ts.2)) := by rw [fireR, hid_eq]
theorem coalsR_len : ∀ (n : Nat) (w : Int), (coalsR n w).1.length = n
  | 0, w => rfl
  | n + 1, w => by simp [coalsR, coalsR_len n]
theorem touchesR_len (m : Int) : ∀ (n : Nat) (w : Int), (touchesR m n w).1.length = n
  | 0, w => rfl
  | n + 1, w => by simp [touchesR, touchesR_len m n]
theorem fireOf_ok {nm : Nm} {m : Int} (hm : 0 ≤ m ∧ m ≤ 100) (hB : isBox H nm) : gcall KC (geval KC) 9 [.bptr nm 0, .pure (.int .i64 m)] c H =
    some (.pure (.agg (fireR m (wordAt H nm)).1.row), H.set nm (wbox (fireR m (wordAt H nm)).2)) := by
  have hl := isBox_lt hB
  have hs := isBox_set hB
  have hne : ¬ nm.1 = H.length := by omega
  refine WPv_eq (call_enter KC needT Tryz.func9 rfl rfl good9 rfl rfl rfl (by simp) (by omega) ?_)
  have hlt : H.length - 1 < H.length := by omega
  have hB' : ∀ fr, isBox (fr :: H) nm := fun fr => isBox_up hB
  have hB2 : ∀ fr w, isBox (fr :: H.set nm (wbox w)) nm := fun fr w => isBox_up (isBox_set' hl)
  have hl2 : ∀ w, nm.1 < (H.set nm (wbox w)).length := fun w => by simpa using hl
  have hw := w64 (x := m + 1) (by omega) (by omega)
  have hu : m + 1 ≤ 9223372036854775807 := by omega
  have hr := upR_rng (wordAt H nm) (m + 1) (by omega)
  rw [fireR_def, hw]
  generalize hw0 : wordAt H nm = w0 at *
  generalize hk0 : upR w0 (m + 1) = k0 at *
  obtain ⟨kk, hkk⟩ : ∃ kk : Nat, k0.1 = kk := ⟨k0.1.toNat, by omega⟩
  have hk9 : kk ≤ 100 := by omega
  simp [hw, up_ok, hu, hB', hne, hl, wordAt_up, hw0, hk0, hkk]
  have h1 := fun Q => fire_loop1 hB Q kk k0.2 [] (by simp; omega)
  simp [apS_nil, apF_nil] at h1
  refine h1 _ ?_
  clear h1
  have hcl := coalsR_len kk k0.2
  generalize coalsR kk k0.2 = cs at *
  have hw2 := w64 (x := 2 * (cs.1.length : Int)) (by omega) (by omega)
  have hw3 := w64 (x := 2 * (cs.1.length : Int) + 1) (by omega) (by omega)
  have hu2 : 2 * (cs.1.length : Int) + 1 ≤ 9223372036854775807 := by omega
  have hr2 := upR_rng cs.2 (2 * (cs.1.length : Int) + 1) hu2
  generalize hq0 : upR cs.2 (2 * (cs.1.length : Int) + 1) = q0 at *
  obtain ⟨qq, hqq⟩ : ∃ qq : Nat, q0.1 = qq := ⟨q0.1.toNat, by omega⟩
  have hq9 : qq ≤ 1000 := by omega
  simp [hw2, hw3, up_ok, hu2, hB2, hne, hl, hl2, wordAt_up, hq0, hqq]
  have h2 := fun Q => fire_loop2 hB (cs.1.map Coal.row) cs.1.length (by omega) Q qq q0.2 [] (by simp; omega)
  simp [apS_nil, apF_nil] at h2
  refine h2 _ ?_
  clear h2
  have hcc : ∀ (ts : List Touch) (F : Fr) (h1 : cs.1.map Coal.row ≠ [] → F.get 33 = some (.arr 7 (cs.1.map Coal.row) 0 false)) (h2 : ts.map Touch.row ≠ [] → F.get 67 = some (.arr 2 (ts.map Touch.row) 0 false)) (w : Int),
      canon (clean (F :: H.set nm (wbox w)) (H.length - 1) (.agg [apS (H.length, 33) 7 (cs.1.map Coal.row), apS (H.length, 67) 2 (ts.map Touch.row)])) = .pure (.agg [.slice (cs.1.map Coal.row), .slice (ts.map Touch.row)]) :=
    fun ts F h1 h2 w => cc_agg2 (by simp) hlt h1 h2
  generalize touchesR (cs.1.length : Int) (if 1 < cs.1.length then qq else 0) q0.2 = ts at *
  simp [gleave_free, Fire.row, -clean_agg]
  refine hcc ts.1 _ (fun h => ?_) (fun h => ?_) _
  · simp
    exact apF_self h
  · exact apF_self h
end Go.Gh


/- What is made of a box is valid. -/
namespace Go.Gh
open Go.Proofs
set_option linter.unusedSimpArgs false
set_option linter.unusedVariables false
set_option maxRecDepth 100000
set_option maxHeartbeats 4000000

theorem spanR_rng (w lo hi : Int) (h0 : -1000000 ≤ lo) (h : lo ≤ hi) (h1 : hi ≤ 1000000) : lo ≤ (spanR w lo hi).1.lo ∧ (spanR w lo hi).1.lo ≤ (spanR w lo hi).1.hi ∧ (spanR w lo hi).1.hi ≤ hi := by
  rw [spanR_def]
  have a1 := anyR_rng w lo hi (by omega) (by omega) h
  generalize anyR w lo hi = n at *
  simp only
  have hw := w64 (x := n.1 + 2) (by omega) (by omega)
  rw [hw]
  split
  · simp only; omega
  · split
    · simp only
      have a2 := anyR_rng (upR n.2 3).2 n.1 (if n.1 + 2 < hi then n.1 + 2 else hi) (by omega) (by split <;> omega) (by split <;> omega)
      split at a2 <;> rename_i hlt <;> simp only [hlt, if_true, if_false] <;> omega
    · simp only
      have a2 := anyR_rng (upR n.2 3).2 n.1 hi (by omega) (by omega) (by omega)
      omega
theorem pick2_mem (w a b : Int) : (pickR w [a, b]).1 = a ∨ (pickR w [a, b]).1 = b := by
  rw [pickR_def]
  have h := upR_rng w 2 (by omega)
  simp only [List.length_cons, List.length_nil]
  rw [if_neg (by omega)]
  have e : (((0 + 1 + 1 : Nat) : Int)) = 2 := rfl
  rw [e]
  simp only
  have hc : (upR w 2).1.toNat = 0 ∨ (upR w 2).1.toNat = 1 := by omega
  rcases hc with e | e <;> rw [e] <;> simp
/-- A coal that was made. -/
structure CMade (x : Coal) : Prop where
  k : 1 ≤ x.katch.lo ∧ x.katch.lo ≤ x.katch.hi ∧ x.katch.hi ≤ 8
  b : 1 ≤ x.burn.lo ∧ x.burn.lo ≤ x.burn.hi ∧ x.burn.hi ≤ 12
  h : 0 ≤ x.heat.lo ∧ x.heat.lo ≤ x.heat.hi ∧ x.heat.hi ≤ 40
structure FMade (m : Nat) (f : Fire) : Prop where
  n : f.coals.length ≤ m
  tn : f.touches.length ≤ 2 * f.coals.length
  coal : ∀ x ∈ f.coals, CMade x
  touch : ∀ x ∈ f.touches, 0 ≤ x.a ∧ x.a < f.coals.length ∧ 0 ≤ x.b ∧ x.b < f.coals.length ∧ x.a ≠ x.b
theorem coalR_made (w : Int) : CMade (coalR w).1 := by
  rw [coalR_def]
  refine ⟨spanR_rng _ _ _ (by omega) (by omega) (by omega), spanR_rng _ _ _ (by omega) (by omega) (by omega), ?_⟩
  simp only
  have hp := pick2_mem (spanR (spanR w 1 8).2 1 12).2 5 40
  generalize pickR (spanR (spanR w 1 8).2 1 12).2 [5, 40] = p at *
  have := spanR_rng p.2 0 p.1 (by omega) (by omega) (by omega)
  omega
theorem coalsR_made : ∀ (n : Nat) (w : Int), ∀ x ∈ (coalsR n w).1, CMade x
  | 0, w, x, hx => by simp [coalsR] at hx
  | n + 1, w, x, hx => by
    rcases List.mem_cons.1 hx with rfl | hx
    · exact coalR_made w
    · exact coalsR_made n _ x hx
theorem touchR_made (n w : Int) (hn : 2 ≤ n) (hn2 : n ≤ 1000000) : 0 ≤ (touchR n w).1.a ∧ (touchR n w).1.a < n ∧ 0 ≤ (touchR n w).1.b ∧ (touchR n w).1.b < n ∧ (touchR n w).1.a ≠ (touchR n w).1.b := by
  rw [touchR_def]
  simp only
  have h1 := upR_rng w n (by omega)
  generalize upR w n = a at *
  have hw := w64 (x := n - 1) (by omega) (by omega)
  rw [hw]
  have h2 := anyR_rng a.2 1 (n - 1) (by omega) (by omega) (by omega)
  generalize anyR a.2 1 (n - 1) = b at *
  have hw2 := w64 (x := a.1 + b.1) (by omega) (by omega)
  rw [hw2, fitF_def, if_neg (by omega)]
  have e : (a.1 + b.1).tmod n = if a.1 + b.1 < n then a.1 + b.1 else a.1 + b.1 - n := by
    rw [Int.tmod_eq_emod_of_nonneg (by omega)]
    split
    · exact Int.emod_eq_of_lt (by omega) (by omega)
    · rw [← Int.sub_emod_right]
      exact Int.emod_eq_of_lt (by omega) (by omega)
  rw [e]
  by_cases hlt : a.1 + b.1 < n
  · rw [if_pos hlt, if_neg (by omega)]; omega
  · rw [if_neg hlt, if_neg (by omega)]; omega
theorem touchesR_made (m : Int) (hm : 2 ≤ m) (hm2 : m ≤ 1000000) : ∀ (n : Nat) (w : Int), ∀ x ∈ (touchesR m n w).1, 0 ≤ x.a ∧ x.a < m ∧ 0 ≤ x.b ∧ x.b < m ∧ x.a ≠ x.b
  | 0, w, x, hx => by simp [touchesR] at hx
  | n + 1, w, x, hx => by
    rcases List.mem_cons.1 hx with rfl | hx
    · exact touchR_made m w hm hm2
    · exact touchesR_made m hm hm2 n _ x hx
theorem fireR_made (m : Nat) (w : Int) (hm : m ≤ 100) : FMade m (fireR m w).1 := by
  rw [fireR_def]
  simp only
  have hw := w64 (x := (m : Int) + 1) (by omega) (by omega)
  rw [hw]
  have h1 := upR_rng w (m + 1) (by omega)
  generalize upR w (m + 1) = k at *
  have hl := coalsR_len k.1.toNat k.2
  have hc := coalsR_made k.1.toNat k.2
  generalize coalsR k.1.toNat k.2 = cs at *
  have h2 := upR_rng cs.2 (2 * (cs.1.length : Int) + 1) (by omega)
  generalize upR cs.2 (2 * (cs.1.length : Int) + 1) = q at *
  have htl := touchesR_len cs.1.length (if 1 < cs.1.length then q.1.toNat else 0) q.2
  refine ⟨by simp only; omega, by simp only; rw [htl]; split <;> omega, hc, fun x hx => ?_⟩
  simp only at hx ⊢
  by_cases hn : 1 < cs.1.length
  · exact touchesR_made _ (by omega) (by omega) _ _ x hx
  · rw [if_neg hn] at hx
    simp [touchesR] at hx
theorem firstErr_ok {α : Type} {g : α → Int} : ∀ {l : List α}, (∀ x ∈ l, g x = 0) → firstErr g l = 0
  | [], _ => rfl
  | x :: r, h => by
    simp only [firstErr]
    rw [if_neg (by simpa using h x (List.mem_cons_self ..))]
    exact firstErr_ok fun y hy => h y (List.mem_cons_of_mem _ hy)
theorem faultF_ok {a b lo hi : Int} (h : lo ≤ a ∧ a ≤ b ∧ b ≤ hi) : faultF a b lo hi = 0 := by
  rw [faultF_def, if_pos (by simp [inB]; omega), if_neg (by omega)]
theorem made_check {m : Nat} {f : Fire} (h : FMade m f) (hm : m ≤ 12) : checkF f.coals f.touches = 0 := by
  rw [checkF_def]
  have hn := h.n
  have htn := h.tn
  rw [if_neg (by omega), if_neg (by
    rw [firstErr_ok]; · simp
    intro x hx
    obtain ⟨h1, h2, h3⟩ := h.coal x hx
    rw [coalF_def, faultF_ok (by omega), faultF_ok (by omega), faultF_ok (by omega)]; simp), if_neg (by omega)]
  refine firstErr_ok fun x hx => ?_
  obtain ⟨h1, h2, h3, h4, h5⟩ := h.touch x hx
  rw [touchF_def]
  simp [inB]
  omega
end Go.Gh


/- HearthPlans. -/
namespace Go.Gh
open Go.Proofs
set_option linter.unusedSimpArgs false
set_option linter.unusedVariables false
set_option maxRecDepth 100000
set_option maxHeartbeats 4000000

theorem awake_ok {c : Nat} {H : Heap} (hH : 0 < H.length) : gcall KC (geval KC) 8 [] c H = some (.pure (.bool true), H) := by
  refine (gcall_ext KC (e := extTold [([], .bool true)]) (by kernel_rfl) (by rfl) hH).trans ?_
  rfl
noncomputable def wrS (f : Fire) : List UInt8 := if checkF f.coals f.touches = 0 then writeS f else []
theorem wrS_len (f : Fire) : (wrS f).length ≤ 2000 := by
  unfold wrS
  split
  · exact writeS_short (goodF ‹_›)
  · simp
theorem readF_len (s : List UInt8) : (readE s).1.coals.length ≤ 12 ∧ (readE s).1.touches.length ≤ 40 := by
  unfold readE
  split
  · simp
  · split
    · simp
    · split
      · simp
      · split
        · simp
        · split
          · simp
          · rename_i h
            have h' := goodF (Classical.not_not.1 h)
            exact ⟨h'.cl, h'.tl⟩

theorem muchN_ok {c : Nat} {H : Heap} (cs : List Coal) (ts : List Touch) (hH : 0 < H.length) : gcall KC (geval KC) 7 [.pure (.agg [.slice (cs.map Coal.row), .slice (ts.map Touch.row)]), .nils] c H =
    some (.pure (.bool (decide (30 < cs.length ∨ 60 < ts.length))), H) := by
  have h := much_ok (c := c) (H := H) cs ts [] hH
  have p1 := gcall_plain (K := KC) (rec := geval KC) (f := 7) (args := [.pure (.agg [.slice (cs.map Coal.row), .slice (ts.map Touch.row)]), .pure (.slice (([] : List Pour).map Pour.row))]) (c := c) (H := H) (by kernel_rfl) (by kernel_rfl) rfl
  have p2 := gcall_plain (K := KC) (rec := geval KC) (f := 7) (args := [.pure (.agg [.slice (cs.map Coal.row), .slice (ts.map Touch.row)]), .nils]) (c := c) (H := H) (by kernel_rfl) (by kernel_rfl) rfl
  rw [p2]
  rw [p1] at h
  rw [gcall0_canonQ (K := KC) (rec := geval KC) (f := 7) (a := [.pure (.agg [.slice (cs.map Coal.row), .slice (ts.map Touch.row)]), .nils]) (b := [.pure (.agg [.slice (cs.map Coal.row), .slice (ts.map Touch.row)]), .pure (.slice (([] : List Pour).map Pour.row))]) rfl]
  refine h.trans ?_
  congr 4
  simp

theorem rd_loop (F : Fr) (ts : List (List UInt8)) (hF : F.get 85 = some (.arr 1 (ts.map srow) 0 false)) (hl : ∀ t ∈ ts, t.length ≤ 9223372036854775807) (hn : ts.length ≤ 100) (Q : GX → GSt → Prop) (hQ : Q (.exit 2) ⟨[(12, gdead)], [F, []], 125⟩) :
    ∀ k i : Nat, i + k = ts.length → WPL KC needT 3 (lp Tryz.f3 1) [14, 20] [12] Q [(14, .hdr (1, 85) 1 ts.length 0 ts.length), (20, .pure (.int .i64 i))] [F, []] 125 := by
  intro k
  induction k with
  | zero =>
    intro i hi
    apply WPL_step
    conv => arg 4; whnf
    have : ¬ i < ts.length := by omega
    simp [this]
    exact hQ
  | succ k ih =>
    intro i hi
    have hia : i < ts.length := by omega
    have hw := w64 (x := (i : Int) + 1) (by omega) (by omega)
    have ih' := ih (i + 1) (by omega)
    have hR := fun c (G : Heap) (hG : 0 < G.length) => Read_ok (c := c) (H := G) ts[i] hG (hl _ (List.getElem_mem hia))
    have hV := fun c (G : Heap) (hG : 0 < G.length) => ReadR_ok (c := c) (H := G) ts[i] hG (hl _ (List.getElem_mem hia))
    have hget : (ts.map srow)[i]? = some (srow ts[i]) := by rw [List.getElem?_map, List.getElem?_eq_getElem hia]; rfl
    obtain ⟨r1, r2⟩ := readF_len ts[i]
    have hE := fun (c : Nat) (H : Heap) (hH : 0 < H.length) => eqFires_ok (c := c) (H := H) (readE ts[i]).1.coals (readE ts[i]).1.coals (readE ts[i]).1.touches (readE ts[i]).1.touches hH (by omega) (by omega)
    simp at hE
    unfold readT Fire.pv at hR hV
    generalize readE ts[i] = x at *
    obtain ⟨⟨cs, us⟩, li, fa⟩ := x
    simp only at hR hV hE
    apply WPL_step
    conv => arg 4; whnf
    simp [hia, hF, hget, srow, hR, hV, hE, hw]
    simpa using ih'

theorem law3 (f : Fire) (s : List UInt8) (l : List Int) (at_ how : Int) (b : UInt8) (hn : l.length ≤ 9223372036854775807) (hsl : s.length ≤ 9223372036854775807) :
    ∃ H', gcall KC (geval KC) 3 [.pure f.pv, .pure (.str s), .pure (.slice (l.map irow)), .pure (.int .i64 at_), .pure (.int .i64 how), .pure (.int .u8 b.toNat)] 0 [[]] = some (.pure (.bool true), H') := by
  have key : WPv (gcall KC (geval KC) 3 [.pure f.pv, .pure (.str s), .pure (.slice (l.map irow)), .pure (.int .i64 at_), .pure (.int .i64 how), .pure (.int .u8 b.toNat)] 0 [[]]) (fun x => x.1 = .pure (.bool true)) := by
    refine call_enter KC needT Tryz.func3 rfl rfl good3 rfl rfl rfl (by simp) (by simp) ?_
    have hA := fun c (G : Heap) (hG : 0 < G.length) => awake_ok (c := c) (H := G) hG
    have hM := fun c (G : Heap) (hG : 0 < G.length) => muchN_ok (c := c) (H := G) f.coals f.touches hG
    obtain ⟨mu, hmu⟩ : ∃ mu, mu = decide (30 < f.coals.length ∨ 60 < f.touches.length) := ⟨_, rfl⟩
    simp only [← hmu] at hM
    have e1 : ((1500 : Int) < s.length) = (1500 < s.length) := by simp; omega
    have e2 : ((s.length : Int) ≤ 4000) = (s.length ≤ 4000) := by simp; omega
    cases mu with
    | true =>
      simp [Fire.pv, hM, hA, gleave_free]
    | false =>
      by_cases hs : 1500 < s.length ∧ s.length ≤ 4000
      · simp [Fire.pv, hM, hA, gleave_free, e1, e2, hs]
      · have hs' : 1500 < s.length → 4000 < s.length := fun h => by omega
        have hfb : Fire.pv f = .agg [.slice (f.coals.map Coal.row), .slice (f.touches.map Touch.row)] := rfl
        rw [hfb]
        generalize hX : PV.slice (f.coals.map Coal.row) = X
        generalize hY : PV.slice (f.touches.map Touch.row) = Y
        rw [hX, hY] at hM
        have nk : newKey 42 6 = 24619 := by decide
        obtain ⟨w, hw⟩ := BoxOf_ok (c := 42) (H := [[(6, .box [.pure X, .pure Y])], []]) l hn (by simp) (by simp [nk]) (of_decide_eq_true (by kernel_rfl))
        rw [nk] at hw
        simp at hw
        have hB : isBox [[(6, .box [.pure X, .pure Y]), (24619, wbox w)], []] (1, 24619) := ⟨w, by simp, by simp⟩
        have hF := fun (c : Nat) => fireOf_ok (c := c) (m := 6) (by omega) hB
        have hwd : wordAt [[(6, .box [.pure X, .pure Y]), (24619, wbox w)], []] (1, 24619) = w := by simp [wordAt, wbox]
        rw [hwd] at hF
        generalize fireR 6 w = fw at *
        obtain ⟨g, w'⟩ := fw
        simp only at hF
        have hrow : g.row = [.slice (g.coals.map Coal.row), .slice (g.touches.map Touch.row)] := rfl
        rw [hrow] at hF
        simp at hF
        have gl : ∀ (f : Fire) (X Y : PV), PV.slice (f.coals.map Coal.row) = X → PV.slice (f.touches.map Touch.row) = Y → ∃ (T B : List UInt8) (E : Int), T.length ≤ 2000 ∧ B.length ≤ 4001 ∧ ∀ c (G : Heap), 0 < G.length →
            gcall KC (geval KC) 11 [.pure (.agg [X, Y])] c G = some (.pure (.tuple [.str T, .int .i64 E]), G) ∧ gcall KC (geval KC) 12 [.pure (.agg [X, Y])] c G = some (.pure (.tuple [.str T, .int .i64 E]), G) ∧
            gcall KC (geval KC) 13 [.pure (.str T), .pure (.int .i64 at_), .pure (.int .i64 how), .pure (.int .u8 b.toNat)] c G = some (.pure (.str B), G) := fun f X Y hX hY => by
          subst hX hY
          refine ⟨wrS f, blotS (wrS f) at_ how b, checkF f.coals f.touches, wrS_len f, ?_, fun c G hG => ⟨?_, ?_, Blot_ok _ _ _ _ (by have := wrS_len f; omega) hG⟩⟩
          · have := blotS_len (wrS f) at_ how b
            have := wrS_len f
            omega
          · exact Write_ok f hG
          · exact WriteR_ok f hG
        obtain ⟨T1, B1, E1, t1, b1, hg1⟩ := gl f X Y hX hY
        generalize hX2 : PV.slice (g.coals.map Coal.row) = X2 at *
        generalize hY2 : PV.slice (g.touches.map Touch.row) = Y2 at *
        obtain ⟨T2, B2, E2, t2, b2, hg2⟩ := gl g X2 Y2 hX2 hY2
        have w1 := fun c G hG => (hg1 c G hG).1
        have w2 := fun c G hG => (hg1 c G hG).2.1
        have w3 := fun c G hG => (hg1 c G hG).2.2
        have v1 := fun c G hG => (hg2 c G hG).1
        have v2 := fun c G hG => (hg2 c G hG).2.1
        have v3 := fun c G hG => (hg2 c G hG).2.2
        clear hg1 hg2 gl
        have apL : ∀ (f0 fr : Fr), fr.get 85 = none → apK 1 85 (.lits [[.pure (.str s)]]) 1 16 [[.str T1], [.str B1]] [f0, fr, []] = some (.hdr (1, 85) 1 3 0 3, [f0, fr.ins 85 (.arr 1 [[.str s], [.str T1], [.str B1]] 0 false), []]) := fun f0 fr h => apK_litS (H := [[]]) rfl h
        have i1 : IntKind.i64.wrap 1 = 1 := rfl
        have i2 : IntKind.i64.wrap 2 = 2 := rfl
        have fin := fun (F : Fr) (hF : F.get 85 = some (.arr 1 [[.str s], [.str T1], [.str B1], [.str T2], [.str B2]] 0 false)) (Q : GX → GSt → Prop) hQ => rd_loop F [s, T1, B1, T2, B2] hF (by
          intro t ht
          simp at ht
          rcases ht with rfl | rfl | rfl | rfl | rfl <;> omega) (by simp) Q hQ 5 0 rfl
        simp only [List.length_cons, List.length_nil, Nat.zero_add, Nat.reduceAdd] at fin
        by_cases h1 : 1500 < s.length
        · have h2 : ¬ s.length ≤ 4000 := fun h => hs ⟨h1, h⟩
          simp [hM, hA, e1, e2, h1, h2, hw, hF, gop_lit1]
          apply WPL_step
          conv => arg 4; whnf
          generalize hq : seqQ _ _ = Q2
          simp [w1, w2, w3, apL, i1]
          apply WPL_step
          conv => arg 4; whnf
          simp [v1, v2, v3, i2]
          apply WPL_step
          conv => arg 4; whnf
          simp
          subst hq
          simp
          refine fin _ (by simp [Fr.get]) _ ?_
          simp [hA, gleave_free]
        · simp [hM, hA, e1, e2, h1, hw, hF, gop_lit1]
          apply WPL_step
          conv => arg 4; whnf
          generalize hq : seqQ _ _ = Q2
          simp [w1, w2, w3, apL, i1]
          apply WPL_step
          conv => arg 4; whnf
          simp [v1, v2, v3, i2]
          apply WPL_step
          conv => arg 4; whnf
          simp
          subst hq
          simp
          refine fin _ (by simp [Fr.get]) _ ?_
          simp [hA, gleave_free]
  obtain ⟨r, e1, e2⟩ := key
  obtain ⟨v, H'⟩ := r
  simp only at e2
  subst e2
  exact ⟨H', e1⟩
end Go.Gh


/- Shapes of the arguments of the great door seat's claims. -/
namespace Go.Proofs.YtgmohiojddnfgaaGreatDoor
open Go.Gh Go.RowKit Go.ChangeShapes Go.WideShapes
set_option maxRecDepth 100000

theorem own : ownKnob Tryz.prog.godebug = none := by kernel_rfl
theorem laidOut : laidOutB Tryz.prog = true := by kernel_rfl
theorem shp_ints {n : Nat} {p : PV} (h : ArgP Tryz.prog (n + 2) 26 p) : ∃ l : List Int, l.length ≤ maxLen ∧ p = .slice (l.map irow) := by
  have h33 : Tryz.prog.underlying 26 = some (.slice 3) := Tryz.underlying26
  have h3 : Tryz.prog.underlying 3 = some (.int .i64) := Tryz.underlying3
  unfold ArgP at h
  rw [h33] at h
  simp only [Shp, h33, h3] at h
  obtain ⟨rows, h1, h2, h4⟩ := h
  have key : ∀ rows : List (List PV), (∀ r ∈ rows, ∃ m, (Lit.int .i64 m).wf = true ∧ r = [.int .i64 m]) → ∃ l : List Int, rows = l.map irow := by
    intro rows
    induction rows with
    | nil => intro _; exact ⟨[], rfl⟩
    | cons r rs ih =>
      intro h
      obtain ⟨m, _, rfl⟩ := h _ (List.mem_cons_self ..)
      obtain ⟨l, rfl⟩ := ih (fun r hr => h r (List.mem_cons_of_mem _ hr))
      exact ⟨m :: l, rfl⟩
  obtain ⟨l, rfl⟩ := key rows (fun r hr => (h2 r hr).2)
  simp only [List.cons.injEq, and_true] at h4
  exact ⟨l, by simpa using h1, h4⟩

theorem argsP_cons {P : Program} {n : Nat} {t : TypeId} {ts : List TypeId} {pvs : List PV} (h : ArgsP P n (t :: ts) pvs) : ∃ p ps, pvs = p :: ps ∧ ArgP P n t p ∧ ArgsP P n ts ps := by
  cases pvs with
  | nil => exact h.elim
  | cons p ps => exact ⟨p, ps, rfl, h⟩
theorem argsP_nil {P : Program} {n : Nat} {pvs : List PV} (h : ArgsP P n [] pvs) : pvs = [] := by
  cases pvs with
  | nil => rfl
  | cons p ps => exact h.elim

theorem cells3 : Tryz.prog.cellsOf 3 = 1 := by kernel_rfl
theorem cells4 : Tryz.prog.cellsOf 4 = 1 := by kernel_rfl
theorem cells22 : Tryz.prog.cellsOf 22 = 1 := by kernel_rfl
theorem cells23 : Tryz.prog.cellsOf 23 = 1 := by kernel_rfl
theorem cells25 : Tryz.prog.cellsOf 25 = 2 := by kernel_rfl
theorem cells80 : Tryz.prog.cellsOf 80 = 2 := by kernel_rfl
theorem cells93 : Tryz.prog.cellsOf 93 = 7 := by kernel_rfl
theorem cells96 : Tryz.prog.cellsOf 96 = 2 := by kernel_rfl
theorem shp_int {n : Nat} {ps : List PV} (h : Shp Tryz.prog (n + 1) 3 ps) : ∃ m, ps = [.int .i64 m] := by
  simp only [Shp, Tryz.underlying3] at h
  obtain ⟨m, _, rfl⟩ := h
  exact ⟨m, rfl⟩
theorem shp_bool {n : Nat} {ps : List PV} (h : Shp Tryz.prog (n + 1) 4 ps) : ∃ m, ps = [.bool m] := by
  simp only [Shp, Tryz.underlying4] at h
  obtain ⟨m, rfl⟩ := h
  exact ⟨m, rfl⟩
theorem shp_span {n : Nat} {ps : List PV} (h : Shp Tryz.prog (n + 2) 80 ps) : ∃ x : Span, ps = x.row := by
  unfold Shp at h
  rw [Tryz.underlying80] at h
  simp only [cells80] at h
  obtain ⟨hl, hf⟩ := h
  match ps, hl with
  | [a, b], _ =>
    simp [cells3] at hf
    obtain ⟨h1, h2⟩ := hf
    obtain ⟨m1, e1⟩ := shp_int h1
    obtain ⟨m2, e2⟩ := shp_int h2
    simp at e1 e2
    subst e1 e2
    exact ⟨⟨m1, m2⟩, rfl⟩
theorem shp_touch {n : Nat} {ps : List PV} (h : Shp Tryz.prog (n + 2) 96 ps) : ∃ x : Gh.Touch, ps = x.row := by
  unfold Shp at h
  rw [Tryz.underlying96] at h
  simp only [cells96] at h
  obtain ⟨hl, hf⟩ := h
  match ps, hl with
  | [a, b], _ =>
    simp [cells3] at hf
    obtain ⟨h1, h2⟩ := hf
    obtain ⟨m1, e1⟩ := shp_int h1
    obtain ⟨m2, e2⟩ := shp_int h2
    simp at e1 e2
    subst e1 e2
    exact ⟨⟨m1, m2⟩, rfl⟩
theorem shp_coal {n : Nat} {ps : List PV} (h : Shp Tryz.prog (n + 3) 93 ps) : ∃ x : Coal, ps = x.row := by
  unfold Shp at h
  rw [Tryz.underlying93] at h
  simp only [cells93] at h
  obtain ⟨hl, hf⟩ := h
  match ps, hl with
  | [a, b, d, e, f, g, j], _ =>
    simp [cells80, cells4] at hf
    obtain ⟨h1, h2, h3, h4⟩ := hf
    obtain ⟨m1, e1⟩ := shp_span h1
    obtain ⟨m2, e2⟩ := shp_span h2
    obtain ⟨m3, e3⟩ := shp_span h3
    obtain ⟨m4, e4⟩ := shp_bool h4
    simp [Span.row] at e1 e2 e3 e4
    obtain ⟨rfl, rfl⟩ := e1
    obtain ⟨rfl, rfl⟩ := e2
    obtain ⟨rfl, rfl⟩ := e3
    subst e4
    exact ⟨⟨m1, m2, m3, m4⟩, rfl⟩
theorem rows_of {α : Type} (f : α → List PV) : ∀ {rows : List (List PV)}, (∀ r ∈ rows, ∃ x : α, r = f x) → ∃ l : List α, rows = l.map f
  | [], _ => ⟨[], rfl⟩
  | r :: rs, h => by
    obtain ⟨x, rfl⟩ := h r (List.mem_cons_self ..)
    obtain ⟨l, rfl⟩ := rows_of f (rows := rs) (fun r hr => h r (List.mem_cons_of_mem _ hr))
    exact ⟨x :: l, rfl⟩
theorem shp_coals {n : Nat} {ps : List PV} (h : Shp Tryz.prog (n + 4) 22 ps) : ∃ l : List Coal, ps = [.slice (l.map Coal.row)] := by
  unfold Shp at h
  rw [Tryz.underlying22] at h
  obtain ⟨rows, h1, h2, rfl⟩ := h
  obtain ⟨l, rfl⟩ := rows_of Coal.row (fun r hr => shp_coal (h2 r hr).2)
  exact ⟨l, rfl⟩
theorem shp_touches {n : Nat} {ps : List PV} (h : Shp Tryz.prog (n + 3) 23 ps) : ∃ l : List Gh.Touch, ps = [.slice (l.map Gh.Touch.row)] := by
  unfold Shp at h
  rw [Tryz.underlying23] at h
  obtain ⟨rows, h1, h2, rfl⟩ := h
  obtain ⟨l, rfl⟩ := rows_of Gh.Touch.row (fun r hr => shp_touch (h2 r hr).2)
  exact ⟨l, rfl⟩
theorem arg_fire {n : Nat} {p : PV} (h : ArgP Tryz.prog (n + 5) 25 p) : ∃ f : Fire, p = .agg f.row := by
  unfold ArgP at h
  rw [Tryz.underlying25] at h
  obtain ⟨ps, rfl, h⟩ := h
  unfold Shp at h
  rw [Tryz.underlying25] at h
  simp only [cells25] at h
  obtain ⟨hl, hf⟩ := h
  match ps, hl with
  | [a, b], _ =>
    simp [cells22, cells23] at hf
    obtain ⟨h1, h2⟩ := hf
    obtain ⟨m1, e1⟩ := shp_coals h1
    obtain ⟨m2, e2⟩ := shp_touches h2
    simp at e1 e2
    subst e1 e2
    exact ⟨⟨m1, m2⟩, rfl⟩
theorem arg_int {n : Nat} {p : PV} (h : ArgP Tryz.prog (n + 1) 3 p) : ∃ m, p = .int .i64 m := by
  unfold ArgP at h
  rw [Tryz.underlying3] at h
  simp only at h
  obtain ⟨m, e⟩ := shp_int h
  simp at e
  exact ⟨m, e⟩
theorem shp_str {n : Nat} {p : PV} (h : ArgP Tryz.prog (n + 1) 9 p) : ∃ l : List UInt8, l.length ≤ maxLen ∧ p = .str l := by
  have h9 : Tryz.prog.underlying 9 = some .string := Tryz.underlying9
  unfold ArgP at h
  rw [h9] at h
  simp only [Shp, h9] at h
  obtain ⟨l, h1, h2⟩ := h
  simp only [List.cons.injEq, and_true] at h2
  exact ⟨l, h1, h2⟩
theorem arg_byte {n : Nat} {p : PV} (h : ArgP Tryz.prog (n + 1) 5 p) : ∃ b : UInt8, p = .int .u8 b.toNat := by
  have h5 : Tryz.prog.underlying 5 = some (.int .u8) := Tryz.underlying5
  unfold ArgP at h
  rw [h5] at h
  simp only [Shp, h5] at h
  obtain ⟨m, hm, e⟩ := h
  simp only [List.cons.injEq, and_true] at e
  subst e
  have hr : IntKind.u8.min ≤ m ∧ m ≤ IntKind.u8.max := by simpa [Lit.wf] using hm
  have k1 : IntKind.u8.min = 0 := rfl
  have k2 : IntKind.u8.max = 255 := rfl
  rw [k1, k2] at hr
  refine ⟨UInt8.ofNat m.toNat, ?_⟩
  have : (UInt8.ofNat m.toNat).toNat = m.toNat := by simp; omega
  rw [this]
  congr 1
  omega
end Go.Proofs.YtgmohiojddnfgaaGreatDoor

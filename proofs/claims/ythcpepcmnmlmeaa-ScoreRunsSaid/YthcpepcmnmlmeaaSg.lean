/- Worth; which score is before which, by the reference. -/
import Derived.Test.YthcpepcmnmlmeaaSf
namespace Go.Gh
open Go.Proofs
set_option linter.unusedSimpArgs false
set_option linter.unusedVariables false
set_option linter.unnecessarySimpa false
set_option maxRecDepth 100000
set_option maxHeartbeats 4000000
variable {c : Nat} {H : Heap}
def worthF (k : Int) (x : Score) (i : Int) : Int := if k = 1 then x.points else if k = 2 then x.packets else if k = 3 then x.pairs else if k = 4 then x.honour else if k = 5 then x.start else W (-i)
theorem Worth_ok (x : Score) (i k : Int) (hH : 0 < H.length) : gcall KC (geval KC) 47 [.pure (.agg x.row), .pure (.int .i64 i), .pure (.int .i64 k)] c H = some (.pure (.int .i64 (worthF k x i)), H) := by
  refine WPv_eq (call_enter KC needT Try.func47 rfl rfl good47 rfl rfl rfl (by simp) hH ?_)
  unfold worthF
  rw [rowX]
  by_cases h1 : k = 1
  · simp [h1, gleave_free]
  by_cases h2 : k = 2
  · simp [h2, gleave_free]
  by_cases h3 : k = 3
  · simp [h3, gleave_free]
  by_cases h4 : k = 4
  · simp [h4, gleave_free]
  by_cases h5 : k = 5
  · simp [h5, gleave_free]
  simp [h1, h2, h3, h4, h5, gleave_free, W]
def x0 : Score := ⟨0, 0, 0, 0, 0, 0, 0, 0⟩
def befF (L : List Score) (i j : Nat) : List Int → Bool
  | [] => false
  | k :: ks => if worthF k (L.getD i x0) i ≠ worthF k (L.getD j x0) j then decide (worthF k (L.getD j x0) j < worthF k (L.getD i x0) i) else befF L i j ks
theorem beforeR_loop (s : Scoring) (hk : s.keys.length ≤ 1000000) (L : List Score) (i j : Nat) (hi : i < L.length) (hj : j < L.length) (Q : GX → GSt → Prop) : ∀ m q : Nat, q + m = s.keys.length →
    (befF L i j (s.keys.drop q) = false → Q (.exit 0) ⟨[(8, gdead)], [(4, .box (s.row.map .pure))] :: H, 47⟩) → (∀ b, befF L i j (s.keys.drop q) = b → Q .ret ⟨[(8, .pure (.bool b))], [(4, .box (s.row.map .pure))] :: H, 47⟩) →
    WPL KC needT 81 (lp Try.f81 0) [1, 2, 3, 4, 9] [8] Q [(1, .pure (.slice (L.map Score.row))), (2, .pure (.int .i64 (i : Nat))), (3, .pure (.int .i64 (j : Nat))), (4, .bptr (H.length, 4) 0), (9, .pure (.int .i64 (q : Nat)))] ([(4, .box (s.row.map .pure))] :: H) 47 := by
  intro m
  induction m with
  | zero =>
    intro q hq h1 h2
    rw [rowS] at *
    have hn : ¬ q < s.keys.length := by omega
    have e : s.keys.drop q = [] := List.drop_eq_nil_of_le (by omega)
    rw [e] at h1 h2
    apply WPL_step
    conv => arg 4; whnf
    simp [hn]
    simpa using h1 rfl
  | succ m ih =>
    intro q hq h1 h2
    have hia : q < s.keys.length := by omega
    have hw := w64 (x := (q : Int) + 1) (by omega) (by omega)
    have Wi := fun c (H : Heap) (hH : 0 < H.length) => Worth_ok (c := c) (H := H) L[i] i s.keys[q] hH
    have Wj := fun c (H : Heap) (hH : 0 < H.length) => Worth_ok (c := c) (H := H) L[j] j s.keys[q] hH
    rw [List.drop_eq_getElem_cons hia] at h1 h2
    simp only [befF, getD_lt hi, getD_lt hj] at h1 h2
    by_cases g : worthF s.keys[q] L[i] i = worthF s.keys[q] L[j] j
    · simp only [if_neg (not_not_intro g)] at h1 h2
      have ih' := ih (q + 1) (by omega) h1 h2
      generalize worthF s.keys[q] L[j] j = wj at *
      rw [g] at Wi
      rw [rowS] at *
      simp only [rowX] at Wi Wj
      apply WPL_step
      conv => arg 4; whnf
      simp [hia, hi, hj, irow, rowX, hw, Wi, Wj]
      simpa [irow] using ih'
    · simp only [if_pos g] at h1 h2
      have h2 := h2 _ rfl
      generalize worthF s.keys[q] L[j] j = wj at *
      generalize worthF s.keys[q] L[i] i = wi at *
      have g' : (wi != wj) = true := by simpa using g
      rw [rowS] at *
      simp only [rowX] at Wi Wj
      apply WPL_step
      conv => arg 4; whnf
      simp [hia, hi, hj, irow, rowX, hw, Wi, Wj, g, g']
      simpa [irow] using h2
end Go.Gh


/- The keys of the order, by the program. -/
namespace Go.Gh
open Go.Proofs
set_option linter.unusedSimpArgs false
set_option linter.unusedVariables false
set_option linter.unnecessarySimpa false
set_option maxRecDepth 100000
set_option maxHeartbeats 4000000
variable {c : Nat} {H : Heap}
def keyV (f : Nat) : GV := .func 142 [] [.pptr [.fn f]]
theorem key_ok (f : Nat) (hH : 0 < H.length) : gcall KC (geval KC) 141 [.pure (.fn f)] c H = some (keyV f, H) := by
  refine WPv_eq (call_enter KC needT Try.func141 rfl rfl good141 rfl rfl rfl (by simp) hH ?_)
  have h1 : ¬ H.length ≤ H.length - 1 := by omega
  simp
  rw [gleave_free (by simp)]
  simp [clean, clean2, allLe, capsP, capP, h1, allPure, canon, canon1, keyV]
@[simp] theorem cellsO_key {f : Nat} : cellsO (keyV f) = some [keyV f] := .trans rfl rfl
@[simp] theorem clean1_key {l0 : Nat} {f : Nat} : clean1 H l0 (keyV f) = keyV f := .trans rfl rfl
@[simp] theorem canon1_key {f : Nat} : canon1 (keyV f) = keyV f := .trans rfl rfl
@[simp] theorem allPure_key {f : Nat} {l : List GV} : allPure (keyV f :: l) = none := .trans rfl rfl
@[simp] theorem lowerCell_key {l0 : Nat} {f : Nat} : lowerCell H l0 (keyV f) = (keyV f, H) := .trans rfl rfl
def keysG : GV := .agg [.pure .nilf, keyV 143, keyV 144, keyV 145, keyV 146, keyV 147, .pure (.fn 148)]
theorem keys_ok (hH : 0 < H.length) : gcall KC (geval KC) 120 [] c H = some (keysG, H) := by
  refine WPv_eq (call_enter KC needT Try.func120 rfl rfl good120 rfl rfl rfl (by simp) hH ?_)
  simp [key_ok, gleave_free]
  rfl
def fieldF (f : Nat) (x : Score) : Int := if f = 143 then x.points else if f = 144 then x.packets else if f = 145 then x.pairs else if f = 146 then x.honour else x.start
theorem field_ok (f : Nat) (hf : 143 ≤ f ∧ f ≤ 147) (x : Score) (hH : 0 < H.length) : gcall KC (geval KC) f [.pure (.agg x.row)] c H = some (.pure (.int .i64 (fieldF f x)), H) := by
  rw [rowX]
  have : f = 143 ∨ f = 144 ∨ f = 145 ∨ f = 146 ∨ f = 147 := by omega
  rcases this with h | h | h | h | h <;> subst h
  · refine WPv_eq (call_enter KC needT Try.func143 rfl rfl good143 rfl rfl rfl (by simp) hH ?_)
    simp [gleave_free, fieldF]
  · refine WPv_eq (call_enter KC needT Try.func144 rfl rfl good144 rfl rfl rfl (by simp) hH ?_)
    simp [gleave_free, fieldF]
  · refine WPv_eq (call_enter KC needT Try.func145 rfl rfl good145 rfl rfl rfl (by simp) hH ?_)
    simp [gleave_free, fieldF]
  · refine WPv_eq (call_enter KC needT Try.func146 rfl rfl good146 rfl rfl rfl (by simp) hH ?_)
    simp [gleave_free, fieldF]
  · refine WPv_eq (call_enter KC needT Try.func147 rfl rfl good147 rfl rfl rfl (by simp) hH ?_)
    simp [gleave_free, fieldF]
theorem last_ok (L : List Score) (i j : Int) (hH : 0 < H.length) : gcall KC (geval KC) 148 [.pure (.slice (L.map Score.row)), .pure (.int .i64 i), .pure (.int .i64 j)] c H = some (.pure (.int .i64 (W (i - j))), H) := by
  refine WPv_eq (call_enter KC needT Try.func148 rfl rfl good148 rfl rfl rfl (by simp) hH ?_)
  simp [gleave_free, W]
@[simp] theorem canon_pptr {cs : List PV} : canon (.pptr cs) = .pptr cs := .trans rfl rfl
theorem diff_ok (f : Nat) (hf : 143 ≤ f ∧ f ≤ 147) (L : List Score) (i j : Nat) (hi : i < L.length) (hj : j < L.length) (hH : 0 < H.length) : gcall KC (geval KC) 142 [.pure (.slice (L.map Score.row)), .pure (.int .i64 (i : Nat)), .pure (.int .i64 (j : Nat)), .pptr [.fn f]] c H = some (.pure (.int .i64 (W (fieldF f L[j] - fieldF f L[i]))), H) := by
  refine WPv_eq (call_enter KC needT Try.func142 rfl rfl good142 rfl rfl rfl (by simp) hH ?_)
  have Fi := fun c (H : Heap) (hH : 0 < H.length) => field_ok (c := c) (H := H) f hf L[i] hH
  have Fj := fun c (H : Heap) (hH : 0 < H.length) => field_ok (c := c) (H := H) f hf L[j] hH
  rw [rowX] at Fi Fj
  simp [gleave_free, hi, hj, rowX, Fi, Fj, W]
end Go.Gh


/- Which score is before which, by the program. -/
namespace Go.Gh
open Go.Proofs
set_option linter.unusedSimpArgs false
set_option linter.unusedVariables false
set_option linter.unnecessarySimpa false
set_option maxRecDepth 100000
set_option maxHeartbeats 4000000
variable {c : Nat} {H : Heap}
structure SmallX (x : Score) : Prop where
  p0 : -1000000000 ≤ x.points ∧ x.points ≤ 1000000000
  p1 : -1000000000 ≤ x.packets ∧ x.packets ≤ 1000000000
  p3 : -1000000000 ≤ x.pairs ∧ x.pairs ≤ 1000000000
  p6 : -1000000000 ≤ x.start ∧ x.start ≤ 1000000000
  p7 : -1000000000 ≤ x.honour ∧ x.honour ≤ 1000000000
def diffV (k : Int) (x y : Score) (i j : Nat) : Int := if k = 6 then W (i - j) else W (fieldF (142 + k.toNat) y - fieldF (142 + k.toNat) x)
theorem diffV_eq {k : Int} (h1 : 1 ≤ k) (h6 : k ≤ 6) {x y : Score} (hx : SmallX x) (hy : SmallX y) {i j : Nat} (hi : i ≤ 1000000) (hj : j ≤ 1000000) : diffV k x y i j = worthF k y j - worthF k x i := by
  obtain ⟨a0, a1, a3, a6, a7⟩ := hx
  obtain ⟨b0, b1, b3, b6, b7⟩ := hy
  have wi : W (-(i : Int)) = -i := w64 (by omega) (by omega)
  have wj : W (-(j : Int)) = -j := w64 (by omega) (by omega)
  have : k = 1 ∨ k = 2 ∨ k = 3 ∨ k = 4 ∨ k = 5 ∨ k = 6 := by omega
  rcases this with h | h | h | h | h | h <;> subst h <;> simp only [diffV, worthF, fieldF] <;> simp
  · exact w64 (by omega) (by omega)
  · exact w64 (by omega) (by omega)
  · exact w64 (by omega) (by omega)
  · exact w64 (by omega) (by omega)
  · exact w64 (by omega) (by omega)
  · rw [wi, wj]
    have : W ((i : Int) - j) = (i : Int) - j := w64 (by omega) (by omega)
    rw [this]; omega
def befX (s : Scoring) (H : Heap) : Heap := [(4, .box (s.row.map .pure)), (9, .box [.pure .nilf, keyV 143, keyV 144, keyV 145, keyV 146, keyV 147, .pure (.fn 148)])] :: H
theorem before_loop (s : Scoring) (hk : s.keys.length ≤ 1000000) (hr : ∀ x ∈ s.keys, 1 ≤ x ∧ x ≤ 6) (L : List Score) (hL : L.length ≤ 1000000) (hs : ∀ x ∈ L, SmallX x) (i j : Nat) (hi : i < L.length) (hj : j < L.length) (Q : GX → GSt → Prop) : ∀ m q : Nat, q + m = s.keys.length →
    (befF L i j (s.keys.drop q) = false → Q (.exit 0) ⟨[(8, gdead)], befX s H, 33⟩) → (∀ b, befF L i j (s.keys.drop q) = b → Q .ret ⟨[(8, .pure (.bool b))], befX s H, 33⟩) →
    WPL KC needT 80 (lp Try.f80 0) [1, 2, 3, 9, 15, 16, 17] [8] Q [(1, .pure (.slice (L.map Score.row))), (2, .pure (.int .i64 (i : Nat))), (3, .pure (.int .i64 (j : Nat))), (9, .bptr (H.length, 9) 0), (15, .pure (.slice (s.keys.map irow))), (16, .pure (.int .i64 (s.keys.length : Nat))), (17, .pure (.int .i64 (q : Nat)))] (befX s H) 33 := by
  intro m
  induction m with
  | zero =>
    intro q hq h1 h2
    have hn : ¬ q < s.keys.length := by omega
    have e : s.keys.drop q = [] := List.drop_eq_nil_of_le (by omega)
    rw [e] at h1 h2
    apply WPL_step
    conv => arg 4; whnf
    simp [hn, befX]
    simpa [befX] using h1 rfl
  | succ m ih =>
    intro q hq h1 h2
    have hia : q < s.keys.length := by omega
    have hw := w64 (x := (q : Int) + 1) (by omega) (by omega)
    have hkr := hr _ (List.getElem_mem hia)
    have hd := diffV_eq hkr.1 hkr.2 (hs _ (List.getElem_mem hi)) (hs _ (List.getElem_mem hj)) (i := i) (j := j) (by omega) (by omega)
    rw [List.drop_eq_getElem_cons hia] at h1 h2
    simp only [befF, getD_lt hi, getD_lt hj] at h1 h2
    have hcase : s.keys[q] = 1 ∨ s.keys[q] = 2 ∨ s.keys[q] = 3 ∨ s.keys[q] = 4 ∨ s.keys[q] = 5 ∨ s.keys[q] = 6 := by omega
    generalize worthF s.keys[q] L[j] j = wj at *
    generalize worthF s.keys[q] L[i] i = wi at *
    have D := fun (f : Nat) hf c (H : Heap) (hH : 0 < H.length) => diff_ok (c := c) (H := H) f hf L i j hi hj hH
    have Z := fun c (H : Heap) (hH : 0 < H.length) => last_ok (c := c) (H := H) L i j hH
    by_cases g : wi = wj
    · simp only [if_neg (not_not_intro g)] at h1 h2
      have ih' := ih (q + 1) (by omega) h1 h2
      have hd0 : diffV s.keys[q] L[i] L[j] i j = 0 := by omega
      rcases hcase with h | h | h | h | h | h
      all_goals
        rw [h] at hd0
        simp [diffV] at hd0
        apply WPL_step
        conv => arg 4; whnf
        simp [hia, irow, h, befX, keyV, D, Z, hd0, hw]
        simpa [irow, befX, keyV] using ih'
    · simp only [if_pos g] at h1 h2
      have h2 := h2 _ rfl
      have hdn : diffV s.keys[q] L[i] L[j] i j ≠ 0 := by omega
      have hdb : decide (diffV s.keys[q] L[i] L[j] i j < 0) = decide (wj < wi) := by
        rw [Bool.eq_iff_iff, decide_eq_true_iff, decide_eq_true_iff]; omega
      rcases hcase with h | h | h | h | h | h
      all_goals
        rw [h] at hdn hdb
        simp only [diffV] at hdn hdb
        simp at hdn
        rw [← hdb] at h2
        apply WPL_step
        conv => arg 4; whnf
        simp [hia, irow, h, befX, keyV, D, Z, hdn, hw]
        simpa [irow, befX, keyV] using h2
end Go.Gh


/- Which score is before which: both calls. -/
namespace Go.Gh
open Go.Proofs
set_option linter.unusedSimpArgs false
set_option linter.unusedVariables false
set_option linter.unnecessarySimpa false
set_option maxRecDepth 100000
set_option maxHeartbeats 4000000
variable {c : Nat} {H : Heap}
theorem beforeR_ok0 (s : Scoring) (hk : s.keys.length ≤ 1000000) (L : List Score) (i j : Nat) (hi : i < L.length) (hj : j < L.length) (hH : 0 < H.length) :
    gcall0 KC (geval KC) 81 [.pure (.agg s.row), .pure (.slice (L.map Score.row)), .pure (.int .i64 (i : Nat)), .pure (.int .i64 (j : Nat))] c H = some (.pure (.bool (befF L i j s.keys)), H) := by
  refine WPv_eq (call_enter0 KC needT Try.func81 rfl rfl good81 (by simp) hH ?_)
  have B := fun Q => beforeR_loop (H := H) s hk L i j hi hj Q s.keys.length 0 (by omega)
  rw [rowS] at *
  simp at B
  simp
  refine B _ (fun h => ?_) ?_
  · simp [h, gleave_free]
  · simp [gleave_free]
theorem before_ok0 (s : Scoring) (hk : s.keys.length ≤ 1000000) (hr : ∀ x ∈ s.keys, 1 ≤ x ∧ x ≤ 6) (L : List Score) (hL : L.length ≤ 1000000) (hs : ∀ x ∈ L, SmallX x) (i j : Nat) (hi : i < L.length) (hj : j < L.length) (hH : 0 < H.length) :
    gcall0 KC (geval KC) 80 [.pure (.agg s.row), .pure (.slice (L.map Score.row)), .pure (.int .i64 (i : Nat)), .pure (.int .i64 (j : Nat))] c H = some (.pure (.bool (befF L i j s.keys)), H) := by
  refine WPv_eq (call_enter0 KC needT Try.func80 rfl rfl good80 (by simp) hH ?_)
  have B := fun Q => before_loop (H := H) s hk hr L hL hs i j hi hj Q s.keys.length 0 (by omega)
  have K := fun c (H : Heap) (hH : 0 < H.length) => keys_ok (c := c) (H := H) hH
  unfold befX at B
  rw [rowS] at *
  simp at B
  simp [K, keysG]
  refine B _ (fun h => ?_) ?_
  · simp [h, gleave_free]
  · simp [gleave_free]
theorem frz4C {a b d e : GV} {p q r u : PV} (h1 : rdC H a p) (h2 : rdC H b q) (h3 : rdC H d r) (h4 : rdC H e u) : (frzVals H [a, b, d, e]).1.map canon = [.pure p, .pure q, .pure r, .pure u] := by
  obtain ⟨x1, y1⟩ := canon_frzC h1
  obtain ⟨x2, y2⟩ := canon_frzC (rdC_sim y1 h2)
  obtain ⟨x3, y3⟩ := canon_frzC (rdC_sim y2 (rdC_sim y1 h3))
  obtain ⟨x4, y4⟩ := canon_frzC (rdC_sim y3 (rdC_sim y2 (rdC_sim y1 h4)))
  rw [frzVals_cons, x1, frzVals_cons, x2, frzVals_cons, x3, frzVals_cons, x4]
  rfl
theorem beforeR_rd {g : GV} (s : Scoring) (hk : s.keys.length ≤ 1000000) (L : List Score) (h : rdC H g (.slice (L.map Score.row))) (i j : Nat) (hi : i < L.length) (hj : j < L.length) (hH : 0 < H.length) :
    gcall KC (geval KC) 81 [.pure (.agg s.row), g, .pure (.int .i64 (i : Nat)), .pure (.int .i64 (j : Nat))] c H = some (.pure (.bool (befF L i j s.keys)), H) :=
  bor_flat KC rfl rfl (frz4C (show rdC H (.pure (.agg s.row)) _ from rfl) h (show rdC H (.pure (.int .i64 (i : Nat))) _ from rfl) (show rdC H (.pure (.int .i64 (j : Nat))) _ from rfl)) rfl hH (fun H hH => beforeR_ok0 s hk L i j hi hj hH) rfl
theorem before_rd {g : GV} (s : Scoring) (hk : s.keys.length ≤ 1000000) (hr : ∀ x ∈ s.keys, 1 ≤ x ∧ x ≤ 6) (L : List Score) (hL : L.length ≤ 1000000) (hs : ∀ x ∈ L, SmallX x) (h : rdC H g (.slice (L.map Score.row))) (i j : Nat) (hi : i < L.length) (hj : j < L.length) (hH : 0 < H.length) :
    gcall KC (geval KC) 80 [.pure (.agg s.row), g, .pure (.int .i64 (i : Nat)), .pure (.int .i64 (j : Nat))] c H = some (.pure (.bool (befF L i j s.keys)), H) :=
  bor_flat KC rfl rfl (frz4C (show rdC H (.pure (.agg s.row)) _ from rfl) h (show rdC H (.pure (.int .i64 (i : Nat))) _ from rfl) (show rdC H (.pure (.int .i64 (j : Nat))) _ from rfl)) rfl hH (fun H hH => before_ok0 s hk hr L hL hs i j hi hj hH) rfl
end Go.Gh


/- Rank, by the program: its loops. -/
namespace Go.Gh
open Go.Proofs
set_option linter.unusedSimpArgs false
set_option linter.unusedVariables false
set_option linter.unnecessarySimpa false
set_option maxRecDepth 100000
set_option maxHeartbeats 4000000
variable {c : Nat} {H : Heap}
def arow (l : List Int) : List PV := [.slice (l.map irow)]
def fltL (n : Int) : List (List Int) → Int
  | [] => 0
  | a :: r => if wrF a n ≠ 0 then wrF a n else fltL n r
def sbx (s : Scoring) : Fr := [(3, .box (s.row.map .pure))]
theorem rank_loop1 (s : Scoring) (t : List Int) (hp : PartOk t) (A : List (List Int)) (hA : A.length ≤ 12) (bA : ∀ a ∈ A, a.length ≤ 1000000) (Q : GX → GSt → Prop) : ∀ m q : Nat, q + m = A.length → ∀ l : List Score, l = (A.take q).map (markF s t) →
    (fltL t.length (A.drop q) = 0 → Q (.exit 0) ⟨[(3, .bptr (H.length, 3) 0), (6, apS (H.length, 50) 8 ((A.map (markF s t)).map Score.row)), (7, .nils), (8, gdead)], apF 50 8 ((A.map (markF s t)).map Score.row) (sbx s) :: H, 77⟩) →
    (∀ e fr, e ≠ 0 → fltL t.length (A.drop q) = e → Q .ret ⟨[(3, .bptr (H.length, 3) 0), (6, .nils), (7, .nils), (8, .pure (.int .i64 e))], fr :: H, 77⟩) →
    WPL KC needT 33 (lp Try.f33 0) [1, 3, 6, 7, 30, 31, 32] [3, 6, 7, 8] Q [(1, .pure (.slice (t.map irow))), (3, .bptr (H.length, 3) 0), (6, apS (H.length, 50) 8 (l.map Score.row)), (7, .nils), (30, .pure (.slice (A.map arow))), (31, .pure (.int .i64 (A.length : Nat))), (32, .pure (.int .i64 (q : Nat)))] (apF 50 8 (l.map Score.row) (sbx s) :: H) 77 := by
  intro m
  induction m with
  | zero =>
    intro q hq l hl h1 h2
    have hn : ¬ q < A.length := by omega
    have e : A.drop q = [] := List.drop_eq_nil_of_le (by omega)
    rw [e] at h1 h2
    have e2 : A.take q = A := List.take_of_length_le (by omega)
    rw [e2] at hl
    subst hl
    apply WPL_step
    conv => arg 4; whnf
    simp [hn, sbx]
    simpa [sbx] using h1 rfl
  | succ m ih =>
    intro q hq l hl h1 h2
    have hia : q < A.length := by omega
    have hw := w64 (x := (q : Int) + 1) (by omega) (by omega)
    have hlen := bA _ (List.getElem_mem hia)
    have hll : l.length = q := by rw [hl]; simp; omega
    have C := fun c (H : Heap) (hH : 0 < H.length) => written_ok (c := c) (H := H) A[q] t.length hlen hH
    rw [List.drop_eq_getElem_cons hia] at h1 h2
    simp only [fltL] at h1 h2
    by_cases g : wrF A[q] t.length = 0
    · simp only [if_neg (not_not_intro g)] at h1 h2
      obtain ⟨e1, e2⟩ := wrF_zero g
      have ih' := ih (q + 1) (by omega) (l ++ [markF s t A[q]]) (by rw [hl, ← List.take_append_getElem hia, List.map_append]; rfl) h1 h2
      have M := fun c (H : Heap) (hH : 0 < H.length) => mark_ok (c := c) (H := H) s t A[q] e1 hp.ne hp.le hH
      have hb : (l.length + 1) * 64 ≤ 1099511627776 := by omega
      have K := fun f0 (x : Score) => apK_1 (H := H) (l := H.length) (key := 50) (es := 8) (bytes := 64) (rows := l.map Score.row) (r := x.row) (fr := sbx s) (f0 := f0) rfl rfl (by simpa using hb)
      simp only [sbx, rowS, List.map_cons, List.map_nil] at K
      rw [rowS] at M
      simp only [rowX] at M K
      rw [g] at C
      apply WPL_step
      conv => arg 4; whnf
      simp [hia, arow, hw, C, M, K, sbx, rowS]
      simpa [arow, sbx, rowS, rowX] using ih'
    · simp only [if_pos g] at h1 h2
      have h2 := fun fr => h2 _ fr g rfl
      have g' : (wrF A[q] t.length != 0) = true := by simpa using g
      apply WPL_step
      conv => arg 4; whnf
      simp [hia, arow, hw, C, g, g', sbx, rowS]
      exact h2 _
end Go.Gh


/- Rank, by the program: the places. -/
namespace Go.Gh
open Go.Proofs
set_option linter.unusedSimpArgs false
set_option linter.unusedVariables false
set_option linter.unnecessarySimpa false
set_option maxRecDepth 100000
set_option maxHeartbeats 4000000
variable {c : Nat} {H : Heap}
def befN (L : List Score) (ks : List Int) (i n : Nat) : Nat := cntB (fun j => befF L j i ks) n
/-- The frame in which the scores lie. -/
structure SFr (fr : Fr) (s : Scoring) (L : List Score) : Prop where
  g3 : fr.get 3 = some (.box (s.row.map .pure))
  g73 : fr.get 73 = none
  g50 : L.map Score.row ≠ [] → fr.get 50 = some (.arr 8 (L.map Score.row) 0 false)
theorem SFr.rd {fr : Fr} {s : Scoring} {L : List Score} (h : SFr fr s L) (ps : List Int) (f0 f1 : Fr) : rdC (f0 :: f1 :: apF 73 1 (ps.map irow) fr :: H) (apS (H.length, 50) 8 (L.map Score.row)) (.slice (L.map Score.row)) := by
  refine rdC_push (rdC_push (rdC_apS' fun hne => ⟨0, false, Nat.zero_le _, ?_⟩))
  rw [Heap.get_cons', if_pos rfl]
  show (apF 73 1 (ps.map irow) fr).get 50 = _
  rw [apF_get (by decide)]
  exact h.g50 hne
theorem rank_loop3 (s : Scoring) (hk : s.keys.length ≤ 1000000) (hr : ∀ x ∈ s.keys, 1 ≤ x ∧ x ≤ 6) (L : List Score) (hL : L.length ≤ 100) (hs : ∀ x ∈ L, SmallX x) {fr : Fr} (hfr : SFr fr s L) (ps : List Int) (i : Nat) (hi : i < L.length) (Q : GX → GSt → Prop)
    (h1 : Q (.exit 4) ⟨[(3, .bptr (H.length, 3) 0), (6, apS (H.length, 50) 8 (L.map Score.row)), (7, apS (H.length, 73) 1 (ps.map irow)), (15, .pure (.int .i64 (1 + befN L s.keys i L.length : Nat))), (53, .pure (.int .i64 (L.length : Nat))), (54, .pure (.int .i64 (i : Nat)))], [] :: apF 73 1 (ps.map irow) fr :: H, 77⟩) : ∀ m q : Nat, q + m = L.length →
    WPL KC needT 33 (lp Try.f33 2) [3, 6, 7, 14, 15, 53, 54, 58, 59] [3, 6, 7, 15, 53, 54] Q [(3, .bptr (H.length, 3) 0), (6, apS (H.length, 50) 8 (L.map Score.row)), (7, apS (H.length, 73) 1 (ps.map irow)), (14, .pure (.int .i64 (i : Nat))), (15, .pure (.int .i64 (1 + befN L s.keys i q : Nat))), (53, .pure (.int .i64 (L.length : Nat))), (54, .pure (.int .i64 (i : Nat))), (58, .pure (.int .i64 (L.length : Nat))), (59, .pure (.int .i64 (q : Nat)))] ([] :: apF 73 1 (ps.map irow) fr :: H) 77 := by
  intro m
  induction m with
  | zero =>
    intro q hq
    have e : q = L.length := by omega
    subst e
    apply WPL_step
    conv => arg 4; whnf
    simp
    simpa using h1
  | succ m ih =>
    intro q hq
    have hia : q < L.length := by omega
    have hw := w64 (x := (q : Int) + 1) (by omega) (by omega)
    have ih' := ih (q + 1) (by omega)
    have hc := cntB_le (fun j => befF L j i s.keys) q
    have hw2 := w64 (x := 1 + (befN L s.keys i q : Int) + 1) (by unfold befN; omega) (by unfold befN; omega)
    have Bf := fun c f0 f1 => before_rd (c := c) (H := f0 :: f1 :: apF 73 1 (ps.map irow) fr :: H) s hk hr L (by omega) hs (hfr.rd ps f0 f1) q i hia hi (by simp)
    have g3 := hfr.g3
    rw [rowS] at *
    have en : befN L s.keys i (q + 1) = befN L s.keys i q + if befF L q i s.keys = true then 1 else 0 := rfl
    rw [en] at ih'
    generalize befN L s.keys i q = b at *
    apply WPL_step
    conv => arg 4; whnf
    by_cases g : befF L q i s.keys = true
    · rw [if_pos g] at ih'
      simp only [g] at Bf
      have e1 : ((1 + (b + 1) : Nat) : Int) = 1 + (b : Int) + 1 := by omega
      rw [e1] at ih'
      simp [hia, hw, hw2, Bf, g3]
      simpa using ih'
    · have g : befF L q i s.keys = false := by simpa using g
      simp only [g] at Bf ih'
      simp [hia, hw, hw2, Bf, g3]
      simpa using ih'
def plL (L : List Score) (ks : List Int) : Nat → List Int
  | 0 => []
  | i + 1 => plL L ks i ++ [((1 + befN L ks i L.length : Nat) : Int)]
theorem plL_len (L : List Score) (ks : List Int) : ∀ i, (plL L ks i).length = i
  | 0 => rfl
  | i + 1 => by simp [plL, plL_len L ks i]
theorem rank_loop2 (s : Scoring) (hk : s.keys.length ≤ 1000000) (hr : ∀ x ∈ s.keys, 1 ≤ x ∧ x ≤ 6) (L : List Score) (hL : L.length ≤ 100) (hs : ∀ x ∈ L, SmallX x) {fr : Fr} (hfr : SFr fr s L) (Q : GX → GSt → Prop)
    (h1 : Q (.exit 2) ⟨[(6, apS (H.length, 50) 8 (L.map Score.row)), (7, apS (H.length, 73) 1 ((plL L s.keys L.length).map irow))], apF 73 1 ((plL L s.keys L.length).map irow) fr :: H, 77⟩) : ∀ m i : Nat, i + m = L.length →
    WPL KC needT 33 (lp Try.f33 1) [3, 6, 7, 53, 54] [6, 7] Q [(3, .bptr (H.length, 3) 0), (6, apS (H.length, 50) 8 (L.map Score.row)), (7, apS (H.length, 73) 1 ((plL L s.keys i).map irow)), (53, .pure (.int .i64 (L.length : Nat))), (54, .pure (.int .i64 (i : Nat)))] (apF 73 1 ((plL L s.keys i).map irow) fr :: H) 77 := by
  intro m
  induction m with
  | zero =>
    intro i hi
    have e : i = L.length := by omega
    subst e
    apply WPL_step
    conv => arg 4; whnf
    simp
    simpa using h1
  | succ m ih =>
    intro i hi
    have hia : i < L.length := by omega
    have hw := w64 (x := (i : Int) + 1) (by omega) (by omega)
    have ih' := ih (i + 1) (by omega)
    have hb : ((plL L s.keys i).length + 1) * 8 ≤ 1099511627776 := by rw [plL_len]; omega
    have K := fun f0 (v : Int) => apK_1 (H := H) (l := H.length) (key := 73) (es := 1) (bytes := 8) (rows := (plL L s.keys i).map irow) (r := irow v) (fr := fr) (f0 := f0) rfl hfr.g73 (by simpa using hb)
    simp only [irow] at K
    have R := fun Q h1 => rank_loop3 (H := H) s hk hr L hL hs hfr (plL L s.keys i) i hia Q h1 L.length 0 (by omega)
    have z0 : befN L s.keys i 0 = 0 := rfl
    rw [z0] at R
    simp at R
    simp only [plL] at ih'
    generalize hps : plL L s.keys i = ps at *
    apply WPL_step
    conv => arg 4; whnf
    simp [hia]
    refine R _ ?_
    simp [hw, K, irow]
    simpa [irow] using ih'
end Go.Gh


/- Rank, by the program: the whole. -/
namespace Go.Gh
open Go.Proofs
set_option linter.unusedSimpArgs false
set_option linter.unusedVariables false
set_option linter.unnecessarySimpa false
set_option maxRecDepth 100000
set_option maxHeartbeats 4000000
variable {c : Nat} {H : Heap}
theorem keyE_rng (l : List Int) : ∀ k i, i + k = l.length → keyE l k i = 0 → ∀ j (h : j < l.length), i ≤ j → 1 ≤ l[j] ∧ l[j] ≤ 6
  | 0, i, hi, _, j, hj, hij => by omega
  | k + 1, i, hi, h, j, hj, hij => by
    have hil : i < l.length := by omega
    simp only [keyE] at h
    rw [getD_lt hil] at h
    split at h
    · cases h
    · rename_i g
      split at h
      · cases h
      · by_cases e : j = i
        · subst e; exact inB_iff.1 (by simpa using g)
        · exact keyE_rng l k (i + 1) (by omega) h j hj (by omega)
theorem chkS_rng {s : Scoring} (h : chkS s = 0) : (∀ x ∈ s.five, 0 ≤ x ∧ x ≤ 1000) ∧ s.keys.length ≤ 6 ∧ ∀ x ∈ s.keys, 1 ≤ x ∧ x ≤ 6 := by
  unfold chkS at h
  split at h
  · cases h
  · rename_i g1
    split at h
    · cases h
    · rename_i g2
      refine ⟨fun x hx => ?_, by omega, fun x hx => ?_⟩
      · have : okFive s.five = true := by simpa using g1
        unfold okFive at this
        rw [List.all_eq_true] at this
        exact inB_iff.1 (this x hx)
      · obtain ⟨j, hj, rfl⟩ := List.getElem_of_mem hx
        exact keyE_rng s.keys _ 0 (by omega) h j hj (by omega)
theorem W_rng {a b d e f : Int} (ha : 0 ≤ a ∧ a ≤ 200000) (hb : 0 ≤ b ∧ b ≤ 200000) (hd : 0 ≤ d ∧ d ≤ 200000) (he : 0 ≤ e ∧ e ≤ 200000) (hf : 0 ≤ f ∧ f ≤ 200000) : W (W (W (W (W a + W b) + W d) + W e) - W f) = a + b + d + e - f := by
  unfold W
  rw [w64 (x := a) (by omega) (by omega), w64 (x := b) (by omega) (by omega), w64 (x := d) (by omega) (by omega), w64 (x := e) (by omega) (by omega), w64 (x := f) (by omega) (by omega), w64 (x := a + b) (by omega) (by omega), w64 (x := a + b + d) (by omega) (by omega), w64 (x := a + b + d + e) (by omega) (by omega), w64 (by omega) (by omega)]
theorem mul_big {x y : Int} (h0 : 0 ≤ x) (h1 : x ≤ 1000) (h2 : 0 ≤ y) (h3 : y ≤ 100) : 0 ≤ x * y ∧ x * y ≤ 200000 := by
  have := Int.mul_le_mul h1 h3 h2 (by omega)
  exact ⟨Int.mul_nonneg h0 h2, by omega⟩
theorem mark_small {s : Scoring} {t a : List Int} (h : chkS s = 0) (hp : PartOk t) (hl : a.length = t.length) : SmallX (markF s t a) := by
  obtain ⟨f5, _, _⟩ := chkS_rng h
  have q1 := f5 s.packet (by simp [Scoring.five])
  have q2 := f5 s.pair (by simp [Scoring.five])
  have q3 := f5 s.whole (by simp [Scoring.five])
  have q4 := f5 s.new (by simp [Scoring.five])
  have q5 := f5 s.loss (by simp [Scoring.five])
  have h9 := hp.le
  have b1 := cntB_le (rightB t a) t.length
  have b2 := pairN_le100 t a h9
  have b3 := cntB_le (heardB t a) t.length
  have b4 := cntB_le (fun j => hasB a j && !rightB t a j) t.length
  have b5 := stN_le t a t.length
  have b6 := (hon_rng hp hl).1
  have b7 : 0 ≤ honF t a := by
    unfold honF
    split
    · omega
    · split <;> omega
  refine ⟨?_, by show _ ≤ ((cntB (rightB t a) t.length : Nat) : Int) ∧ ((cntB (rightB t a) t.length : Nat) : Int) ≤ _; omega, by show _ ≤ ((pairN t a t.length : Nat) : Int) ∧ ((pairN t a t.length : Nat) : Int) ≤ _; omega, by show _ ≤ ((stN t a t.length : Nat) : Int) ∧ ((stN t a t.length : Nat) : Int) ≤ _; omega, by show _ ≤ honF t a ∧ honF t a ≤ _; omega⟩
  have e1 : (markF s t a).points = W (W (W (W (W (s.packet * (cntB (rightB t a) t.length : Nat)) + W (s.pair * (pairN t a t.length : Nat))) + W (s.new * (cntB (heardB t a) t.length : Nat))) + W (s.whole * (if allR t a t.length = true then 1 else 0))) - W (s.loss * (cntB (fun j => hasB a j && !rightB t a j) t.length : Nat))) := rfl
  obtain ⟨w, hw, w0, w1⟩ : ∃ w : Int, (if allR t a t.length = true then (1 : Int) else 0) = w ∧ 0 ≤ w ∧ w ≤ 1 := by
    split
    · exact ⟨1, rfl, by omega, by omega⟩
    · exact ⟨0, rfl, by omega, by omega⟩
  rw [e1, hw]
  have m1 := mul_big q1.1 q1.2 (y := ((cntB (rightB t a) t.length : Nat) : Int)) (by omega) (by omega)
  have m2 := mul_big q2.1 q2.2 (y := ((pairN t a t.length : Nat) : Int)) (by omega) (by omega)
  have m3 := mul_big q4.1 q4.2 (y := ((cntB (heardB t a) t.length : Nat) : Int)) (by omega) (by omega)
  have m4 := mul_big q3.1 q3.2 (y := w) (by omega) (by omega)
  have m5 := mul_big q5.1 q5.2 (y := ((cntB (fun j => hasB a j && !rightB t a j) t.length : Nat) : Int)) (by omega) (by omega)
  rw [W_rng m1 m2 m3 m4 m5]
  omega
theorem flt_all {n : Int} : ∀ {A : List (List Int)}, fltL n A = 0 → ∀ a ∈ A, wrF a n = 0
  | [], _, a, ha => absurd ha List.not_mem_nil
  | b :: A, h, a, ha => by
    simp only [fltL] at h
    by_cases g : wrF b n = 0
    · rw [if_neg (not_not_intro g)] at h
      rcases List.mem_cons.1 ha with rfl | ha
      · exact g
      · exact flt_all h a ha
    · rw [if_pos g] at h; exact (g h).elim
def rankT (s : Scoring) (t : List Int) (A : List (List Int)) : List PV :=
  if chkS s ≠ 0 then [.slice [], .slice [], .int .i64 (chkS s)] else if chkP t ≠ 0 then [.slice [], .slice [], .int .i64 (chkP t)] else if 12 < A.length then [.slice [], .slice [], .int .i64 8]
  else if fltL t.length A ≠ 0 then [.slice [], .slice [], .int .i64 (fltL t.length A)]
  else [.slice ((A.map (markF s t)).map Score.row), .slice ((plL (A.map (markF s t)) s.keys A.length).map irow), .int .i64 0]
theorem clean2_apS {H : Heap} {l0 : Nat} {nm : Nm} {es : Nat} {rows : List (List PV)} : clean2 H l0 (apS nm es rows) = clean1 H l0 (apS nm es rows) := by
  unfold apS
  split <;> rfl
theorem leave_two {F : Fr} {k1 k2 e1 e2 : Nat} {r1 r2 : List (List PV)} {p : PV} (hH : 0 < H.length) (h1 : r1 ≠ [] → F.get k1 = some (.arr e1 r1 0 false)) (h2 : r2 ≠ [] → F.get k2 = some (.arr e2 r2 0 false)) :
    canon (clean (F :: H) (H.length - 1) (.tuple [apS (H.length, k1) e1 r1, apS (H.length, k2) e2 r2, .pure p])) = .pure (.tuple [.slice r1, .slice r2, p]) := by
  rw [clean_tuple]
  simp only [List.map_cons, List.map_nil, clean2_apS]
  rw [clean1_apS rfl (by omega) h1, clean1_apS rfl (by omega) h2]
  have e : ∀ r : List (List PV), r = [] ∨ r ≠ [] := fun r => Classical.em _
  rcases e r1 with g1 | g1 <;> rcases e r2 with g2 | g2
  · subst g1 g2; rfl
  · subst g1; rw [if_pos rfl, if_neg g2]; rfl
  · subst g2; rw [if_pos rfl, if_neg g1]; rfl
  · rw [if_neg g1, if_neg g2]; rfl
theorem Rank_ok0 (s : Scoring) (hs : s.keys.length ≤ 1000000) (t : List Int) (ht : t.length ≤ 1000000) (A : List (List Int)) (bA : ∀ a ∈ A, a.length ≤ 1000000) (hA : A.length ≤ 1000000) (hH : 0 < H.length) :
    gcall0 KC (geval KC) 33 [.pure (.agg s.row), .pure (.slice (t.map irow)), .pure (.slice (A.map arow))] c H = some (.pure (.tuple (rankT s t A)), H) := by
  refine WPv_eq (call_enter0 KC needT Try.func33 rfl rfl good33 (by simp) hH ?_)
  have C1 := fun c (H : Heap) (hH : 0 < H.length) => chkS_ok (c := c) (H := H) s hs hH
  have C2 := fun c (H : Heap) (hH : 0 < H.length) => chk_ok (c := c) (H := H) t ht hH
  unfold rankT
  by_cases h1 : chkS s = 0
  · by_cases h2 : chkP t = 0
    · by_cases h3 : 12 < A.length
      · have h3' : (12 : Int) < A.length := by omega
        rw [rowS] at *
        simp [C1, C2, h1, h2, h3, h3', gleave_free]
      · have h3' : ¬ (12 : Int) < A.length := by omega
        have hp := chkP_zero h2
        obtain ⟨_, k6, kr⟩ := chkS_rng h1
        have L1 := fun Q => rank_loop1 (H := H) s t hp A (by omega) bA Q A.length 0 (by omega) [] (by simp)
        have hsm : fltL t.length A = 0 → ∀ x ∈ A.map (markF s t), SmallX x := fun h x hx => by
          obtain ⟨y, hy, rfl⟩ := List.mem_map.1 hx
          exact mark_small h1 hp (wrF_zero (flt_all h y hy)).1
        have hLl : A.length = (A.map (markF s t)).length := by simp
        have hL100 : (A.map (markF s t)).length ≤ 100 := by simp; omega
        generalize A.map (markF s t) = L at *
        rw [hLl]
        have hfr : SFr (apF 50 8 (L.map Score.row) (sbx s)) s L := ⟨by rw [apF_get (by decide)]; rfl, by rw [apF_get (by decide)]; rfl, fun h => apF_self h⟩
        have L2 := fun (hx : ∀ x ∈ L, SmallX x) Q h => rank_loop2 (H := H) s hs kr L hL100 hx hfr Q h L.length 0 (by omega)
        unfold sbx at L1 L2
        rw [rowS] at *
        simp [apS_nil, apF_nil, plL] at L1 L2
        rw [hLl] at L1 h3 h3'
        simp [C1, C2, h1, h2, h3, h3', hLl]
        refine L1 _ (fun h => ?_) ?_
        · have hx := hsm h
          simp [h]
          refine L2 hx _ ?_
          simp
          rw [gleave_free (by simp), leave_two hH (fun hne => by rw [apF_get (by decide)]; exact apF_self hne) (fun hne => apF_self hne), WPv_some]
        · intro e fr he h
          subst h
          simp [he, gleave_free]
    · have e2 : (chkP t != 0) = true := by simpa using h2
      rw [rowS] at *
      simp [C1, C2, h1, h2, e2, gleave_free]
  · have e1 : (chkS s != 0) = true := by simpa using h1
    rw [rowS] at *
    simp [C1, h1, e1, gleave_free]
end Go.Gh


/- Rank, by the reference. -/
namespace Go.Gh
open Go.Proofs
set_option linter.unusedSimpArgs false
set_option linter.unusedVariables false
set_option linter.unnecessarySimpa false
set_option maxRecDepth 100000
set_option maxHeartbeats 4000000
variable {c : Nat} {H : Heap}
theorem rankR_loop1 (s : Scoring) (t : List Int) (hp : PartOk t) (A : List (List Int)) (hA : A.length ≤ 12) (bA : ∀ a ∈ A, a.length ≤ 1000000) (Q : GX → GSt → Prop) : ∀ m q : Nat, q + m = A.length → ∀ l : List Score, l = (A.take q).map (markF s t) →
    (fltL t.length (A.drop q) = 0 → Q (.exit 0) ⟨[(3, .bptr (H.length, 3) 0), (6, gdead), (7, gdead), (8, gdead), (11, apS (H.length, 56) 8 ((A.map (markF s t)).map Score.row))], apF 56 8 ((A.map (markF s t)).map Score.row) (sbx s) :: H, 82⟩) →
    (∀ e fr g, e ≠ 0 → fltL t.length (A.drop q) = e → Q .ret ⟨[(3, .bptr (H.length, 3) 0), (6, .nils), (7, .nils), (8, .pure (.int .i64 e)), (11, g)], fr :: H, 82⟩) →
    WPL KC needT 34 (lp Try.f34 0) [1, 2, 3, 11, 12] [3, 6, 7, 8, 11] Q [(1, .pure (.slice (t.map irow))), (2, .pure (.slice (A.map arow))), (3, .bptr (H.length, 3) 0), (11, apS (H.length, 56) 8 (l.map Score.row)), (12, .pure (.int .i64 (q : Nat)))] (apF 56 8 (l.map Score.row) (sbx s) :: H) 82 := by
  intro m
  induction m with
  | zero =>
    intro q hq l hl h1 h2
    have hn : ¬ q < A.length := by omega
    have e : A.drop q = [] := List.drop_eq_nil_of_le (by omega)
    rw [e] at h1 h2
    have e2 : A.take q = A := List.take_of_length_le (by omega)
    rw [e2] at hl
    subst hl
    apply WPL_step
    conv => arg 4; whnf
    simp [hn, sbx]
    simpa [sbx] using h1 rfl
  | succ m ih =>
    intro q hq l hl h1 h2
    have hia : q < A.length := by omega
    have hw := w64 (x := (q : Int) + 1) (by omega) (by omega)
    have hlen := bA _ (List.getElem_mem hia)
    have hll : l.length = q := by rw [hl]; simp; omega
    have C := fun c (H : Heap) (hH : 0 < H.length) => checkAnswer_ok (c := c) (H := H) A[q] t.length hlen hH
    rw [List.drop_eq_getElem_cons hia] at h1 h2
    simp only [fltL] at h1 h2
    by_cases g : wrF A[q] t.length = 0
    · simp only [if_neg (not_not_intro g)] at h1 h2
      obtain ⟨e1, e2⟩ := wrF_zero g
      have ih' := ih (q + 1) (by omega) (l ++ [markF s t A[q]]) (by rw [hl, ← List.take_append_getElem hia, List.map_append]; rfl) h1 h2
      have M := fun c (H : Heap) (hH : 0 < H.length) => markR_ok (c := c) (H := H) s t A[q] e1 hp.ne hp.le e2 hH
      have hb : (l.length + 1) * 64 ≤ 1099511627776 := by omega
      have K := fun f0 (x : Score) => apK_1 (H := H) (l := H.length) (key := 56) (es := 8) (bytes := 64) (rows := l.map Score.row) (r := x.row) (fr := sbx s) (f0 := f0) rfl rfl (by simpa using hb)
      simp only [sbx, rowS, List.map_cons, List.map_nil] at K
      rw [rowS] at M
      simp only [rowX] at M K
      rw [g] at C
      apply WPL_step
      conv => arg 4; whnf
      simp [hia, arow, hw, C, M, K, sbx, rowS]
      simpa [arow, sbx, rowS, rowX] using ih'
    · simp only [if_pos g] at h1 h2
      have h2 := fun fr g1 => h2 _ fr g1 g rfl
      have g' : (wrF A[q] t.length != 0) = true := by simpa using g
      apply WPL_step
      conv => arg 4; whnf
      simp [hia, arow, hw, C, g, g', sbx, rowS]
      exact h2 _ _
structure SFrR (fr : Fr) (s : Scoring) (L : List Score) : Prop where
  g3 : fr.get 3 = some (.box (s.row.map .pure))
  g79 : fr.get 79 = none
  g56 : L.map Score.row ≠ [] → fr.get 56 = some (.arr 8 (L.map Score.row) 0 false)
theorem SFrR.rd {fr : Fr} {s : Scoring} {L : List Score} (h : SFrR fr s L) (ps : List Int) (f0 f1 : Fr) : rdC (f0 :: f1 :: apF 79 1 (ps.map irow) fr :: H) (apS (H.length, 56) 8 (L.map Score.row)) (.slice (L.map Score.row)) := by
  refine rdC_push (rdC_push (rdC_apS' fun hne => ⟨0, false, Nat.zero_le _, ?_⟩))
  rw [Heap.get_cons', if_pos rfl]
  show (apF 79 1 (ps.map irow) fr).get 56 = _
  rw [apF_get (by decide)]
  exact h.g56 hne
theorem rankR_loop3 (s : Scoring) (hk : s.keys.length ≤ 1000000) (L : List Score) (hL : L.length ≤ 100) {fr : Fr} (hfr : SFrR fr s L) (ps : List Int) (i : Nat) (hi : i < L.length) (Q : GX → GSt → Prop)
    (h1 : Q (.exit 4) ⟨[(3, .bptr (H.length, 3) 0), (11, apS (H.length, 56) 8 (L.map Score.row)), (14, apS (H.length, 79) 1 (ps.map irow)), (15, .pure (.int .i64 (i : Nat))), (16, .pure (.int .i64 (1 + befN L s.keys i L.length : Nat)))], [] :: apF 79 1 (ps.map irow) fr :: H, 82⟩) : ∀ m q : Nat, q + m = L.length →
    WPL KC needT 34 (lp Try.f34 2) [3, 11, 14, 15, 16, 17] [3, 11, 14, 15, 16] Q [(3, .bptr (H.length, 3) 0), (11, apS (H.length, 56) 8 (L.map Score.row)), (14, apS (H.length, 79) 1 (ps.map irow)), (15, .pure (.int .i64 (i : Nat))), (16, .pure (.int .i64 (1 + befN L s.keys i q : Nat))), (17, .pure (.int .i64 (q : Nat)))] ([] :: apF 79 1 (ps.map irow) fr :: H) 82 := by
  intro m
  induction m with
  | zero =>
    intro q hq
    have e : q = L.length := by omega
    subst e
    apply WPL_step
    conv => arg 4; whnf
    simp
    simpa using h1
  | succ m ih =>
    intro q hq
    have hia : q < L.length := by omega
    have hw := w64 (x := (q : Int) + 1) (by omega) (by omega)
    have ih' := ih (q + 1) (by omega)
    have hc := cntB_le (fun j => befF L j i s.keys) q
    have hw2 := w64 (x := 1 + (befN L s.keys i q : Int) + 1) (by unfold befN; omega) (by unfold befN; omega)
    have Bf := fun c f0 f1 => beforeR_rd (c := c) (H := f0 :: f1 :: apF 79 1 (ps.map irow) fr :: H) s hk L (hfr.rd ps f0 f1) q i hia hi (by simp)
    have g3 := hfr.g3
    rw [rowS] at *
    have en : befN L s.keys i (q + 1) = befN L s.keys i q + if befF L q i s.keys = true then 1 else 0 := rfl
    rw [en] at ih'
    generalize befN L s.keys i q = b at *
    apply WPL_step
    conv => arg 4; whnf
    by_cases g : befF L q i s.keys = true
    · rw [if_pos g] at ih'
      simp only [g] at Bf
      have e1 : ((1 + (b + 1) : Nat) : Int) = 1 + (b : Int) + 1 := by omega
      rw [e1] at ih'
      simp [hia, hw, hw2, Bf, g3]
      simpa using ih'
    · have g : befF L q i s.keys = false := by simpa using g
      simp only [g] at Bf ih'
      simp [hia, hw, hw2, Bf, g3]
      simpa using ih'
theorem rankR_loop2 (s : Scoring) (hk : s.keys.length ≤ 1000000) (L : List Score) (hL : L.length ≤ 100) {fr : Fr} (hfr : SFrR fr s L) (Q : GX → GSt → Prop)
    (h1 : Q (.exit 2) ⟨[(11, apS (H.length, 56) 8 (L.map Score.row)), (14, apS (H.length, 79) 1 ((plL L s.keys L.length).map irow))], apF 79 1 ((plL L s.keys L.length).map irow) fr :: H, 82⟩) : ∀ m i : Nat, i + m = L.length →
    WPL KC needT 34 (lp Try.f34 1) [3, 11, 14, 15] [11, 14] Q [(3, .bptr (H.length, 3) 0), (11, apS (H.length, 56) 8 (L.map Score.row)), (14, apS (H.length, 79) 1 ((plL L s.keys i).map irow)), (15, .pure (.int .i64 (i : Nat)))] (apF 79 1 ((plL L s.keys i).map irow) fr :: H) 82 := by
  intro m
  induction m with
  | zero =>
    intro i hi
    have e : i = L.length := by omega
    subst e
    apply WPL_step
    conv => arg 4; whnf
    simp
    simpa using h1
  | succ m ih =>
    intro i hi
    have hia : i < L.length := by omega
    have hw := w64 (x := (i : Int) + 1) (by omega) (by omega)
    have ih' := ih (i + 1) (by omega)
    have hb : ((plL L s.keys i).length + 1) * 8 ≤ 1099511627776 := by rw [plL_len]; omega
    have K := fun f0 (v : Int) => apK_1 (H := H) (l := H.length) (key := 79) (es := 1) (bytes := 8) (rows := (plL L s.keys i).map irow) (r := irow v) (fr := fr) (f0 := f0) rfl hfr.g79 (by simpa using hb)
    simp only [irow] at K
    have R := fun Q h1 => rankR_loop3 (H := H) s hk L hL hfr (plL L s.keys i) i hia Q h1 L.length 0 (by omega)
    have z0 : befN L s.keys i 0 = 0 := rfl
    rw [z0] at R
    simp at R
    simp only [plL] at ih'
    generalize hps : plL L s.keys i = ps at *
    apply WPL_step
    conv => arg 4; whnf
    simp [hia]
    refine R _ ?_
    simp [hw, K, irow]
    simpa [irow] using ih'
theorem RankR_ok0 (s : Scoring) (hs : s.keys.length ≤ 1000000) (t : List Int) (ht : t.length ≤ 1000000) (A : List (List Int)) (bA : ∀ a ∈ A, a.length ≤ 1000000) (hA : A.length ≤ 1000000) (hH : 0 < H.length) :
    gcall0 KC (geval KC) 34 [.pure (.agg s.row), .pure (.slice (t.map irow)), .pure (.slice (A.map arow))] c H = some (.pure (.tuple (rankT s t A)), H) := by
  refine WPv_eq (call_enter0 KC needT Try.func34 rfl rfl good34 (by simp) hH ?_)
  have C1 := fun c (H : Heap) (hH : 0 < H.length) => chkSR_ok (c := c) (H := H) s hs hH
  have C2 := fun c (H : Heap) (hH : 0 < H.length) => chkR_ok (c := c) (H := H) t ht hH
  unfold rankT
  by_cases h1 : chkS s = 0
  · by_cases h2 : chkP t = 0
    · by_cases h3 : 12 < A.length
      · have h3' : (12 : Int) < A.length := by omega
        rw [rowS] at *
        simp [C1, C2, h1, h2, h3, h3', gleave_free]
      · have h3' : ¬ (12 : Int) < A.length := by omega
        have hp := chkP_zero h2
        have L1 := fun Q => rankR_loop1 (H := H) s t hp A (by omega) bA Q A.length 0 (by omega) [] (by simp)
        have hLl : A.length = (A.map (markF s t)).length := by simp
        have hL100 : (A.map (markF s t)).length ≤ 100 := by simp; omega
        generalize A.map (markF s t) = L at *
        rw [hLl]
        have hfr : SFrR (apF 56 8 (L.map Score.row) (sbx s)) s L := ⟨by rw [apF_get (by decide)]; rfl, by rw [apF_get (by decide)]; rfl, fun h => apF_self h⟩
        have L2 := fun Q h => rankR_loop2 (H := H) s hs L hL100 hfr Q h L.length 0 (by omega)
        unfold sbx at L1 L2
        rw [rowS] at *
        simp [apS_nil, apF_nil, plL] at L1 L2
        rw [hLl] at h3 h3'
        simp [C1, C2, h1, h2, h3, h3', hLl]
        refine L1 _ (fun h => ?_) ?_
        · simp [h]
          refine L2 _ ?_
          simp
          rw [gleave_free (by simp), leave_two hH (fun hne => by rw [apF_get (by decide)]; exact apF_self hne) (fun hne => apF_self hne), WPv_some]
        · intro e fr g he h
          subst h
          simp [he, gleave_free]
    · have e2 : (chkP t != 0) = true := by simpa using h2
      rw [rowS] at *
      simp [C1, C2, h1, h2, e2, gleave_free]
  · have e1 : (chkS s != 0) = true := by simpa using h1
    rw [rowS] at *
    simp [C1, h1, e1, gleave_free]
end Go.Gh


/- What the laws on ranks need: much, EqScores, Rank on answers in a block. -/
namespace Go.Gh
open Go.Proofs
set_option linter.unusedSimpArgs false
set_option linter.unusedVariables false
set_option linter.unnecessarySimpa false
set_option maxRecDepth 100000
set_option maxHeartbeats 4000000
variable {c : Nat} {H : Heap}
def muchB (A : List (List Int)) : Bool := A.any (fun a => decide (30 < a.length)) || decide (20 < A.length)
theorem much_loop (A : List (List Int)) (hn : A.length ≤ 9223372036854775807) (Q : GX → GSt → Prop) (hH : 0 < H.length) : ∀ k i : Nat, i + k = A.length →
    ((A.drop i).any (fun a => decide (30 < a.length)) = false → Q (.exit 0) ⟨[(0, .pure (.slice (A.map arow))), (2, gdead)], H, 19⟩) → ((A.drop i).any (fun a => decide (30 < a.length)) = true → Q .ret ⟨[(0, .pure (.slice (A.map arow))), (2, .pure (.bool true))], H, 19⟩) →
    WPL KC needT 31 (lp Try.f31 0) [0, 3] [0, 2] Q [(0, .pure (.slice (A.map arow))), (3, .pure (.int .i64 (i : Nat)))] H 19 := by
  intro k
  induction k with
  | zero =>
    intro i hi h1 h2
    have e : A.drop i = [] := List.drop_eq_nil_of_le (by omega)
    rw [e] at h1
    apply WPL_step
    conv => arg 4; whnf
    have : ¬ i < A.length := by omega
    simp [this, hH]
    exact h1 rfl
  | succ k ih =>
    intro i hi h1 h2
    have hia : i < A.length := by omega
    have hw := w64 (x := (i : Int) + 1) (by omega) (by omega)
    rw [List.drop_eq_getElem_cons hia, List.any_cons] at h1 h2
    apply WPL_step
    conv => arg 4; whnf
    by_cases g : 30 < A[i].length
    · have g' : (30 : Int) < A[i].length := by omega
      simp [hia, hH, arow, g, g']
      exact h2 (by simp [g])
    · have g' : ¬ (30 : Int) < A[i].length := by omega
      simp only [g, decide_false, Bool.false_or] at h1 h2
      have ih' := ih (i + 1) (by omega) h1 h2
      simp [hia, hH, arow, g, g', hw]
      simpa [arow] using ih'
theorem much_ok (A : List (List Int)) (hn : A.length ≤ 9223372036854775807) (hH : 0 < H.length) : gcall KC (geval KC) 31 [.pure (.slice (A.map arow))] c H = some (.pure (.bool (muchB A)), H) := by
  refine WPv_eq (call_enter KC needT Try.func31 rfl rfl good31 rfl rfl rfl (by simp) hH ?_)
  have L := fun Q => much_loop (H := [] :: H) A hn Q (by simp) A.length 0 (by omega)
  simp only [List.drop_zero] at L
  unfold muchB
  simp
  refine L _ (fun h => ?_) (fun h => ?_)
  · by_cases g : 20 < A.length
    · have g' : (20 : Int) < A.length := by omega
      simp [h, g, g', gleave_free]
    · have g' : ¬ (20 : Int) < A.length := by omega
      have h' := h
      simp at h'
      simp [h, g, g', gleave_free]
  · simp only [h, Bool.true_or]
    simp [gleave_free]
theorem eqSc_loop (L : List Score) (hn : L.length ≤ 1000000) (Q : GX → GSt → Prop) (hH : 0 < H.length) : ∀ k i : Nat, i + k = L.length →
    Q (.exit 0) ⟨[(4, gdead)], H, 26⟩ →
    WPL KC needT 35 (lp Try.f35 0) [0, 1, 5] [4] Q [(0, .pure (.slice (L.map Score.row))), (1, .pure (.slice (L.map Score.row))), (5, .pure (.int .i64 i))] H 26 := by
  intro k
  induction k with
  | zero =>
    intro i hi h1
    apply WPL_step
    conv => arg 4; whnf
    have : ¬ i < L.length := by omega
    simp [this, hH]
    exact h1
  | succ k ih =>
    intro i hi h1
    have hia : i < L.length := by omega
    have hw := w64 (x := (i : Int) + 1) (by omega) (by omega)
    have ih' := ih (i + 1) (by omega) h1
    apply WPL_step
    conv => arg 4; whnf
    simp [hia, hH, rowX, hw]
    simpa [rowX] using ih'
theorem eqSc_ok (L : List Score) (hn : L.length ≤ 1000000) (hH : 0 < H.length) :
    gcall KC (geval KC) 35 [.pure (.slice (L.map Score.row)), .pure (.slice (L.map Score.row))] c H = some (.pure (.bool true), H) := by
  refine WPv_eq (call_enter KC needT Try.func35 rfl rfl good35 rfl rfl rfl (by simp) hH ?_)
  simp
  refine eqSc_loop (H := [] :: H) L hn _ (by simp) L.length 0 (by omega) ?_
  simp [gleave_free]
theorem Rank_p (s : Scoring) (hs : s.keys.length ≤ 1000000) (t : List Int) (ht : t.length ≤ 1000000) (A : List (List Int)) (bA : ∀ a ∈ A, a.length ≤ 1000000) (hA : A.length ≤ 1000000) (hH : 0 < H.length) :
    gcall KC (geval KC) 33 [.pure (.agg s.row), .pure (.slice (t.map irow)), .pure (.slice (A.map arow))] c H = some (.pure (.tuple (rankT s t A)), H) := by
  rw [gcall_frz' rfl rfl rfl]
  exact Rank_ok0 s hs t ht A bA hA hH
theorem RankR_p (s : Scoring) (hs : s.keys.length ≤ 1000000) (t : List Int) (ht : t.length ≤ 1000000) (A : List (List Int)) (bA : ∀ a ∈ A, a.length ≤ 1000000) (hA : A.length ≤ 1000000) (hH : 0 < H.length) :
    gcall KC (geval KC) 34 [.pure (.agg s.row), .pure (.slice (t.map irow)), .pure (.slice (A.map arow))] c H = some (.pure (.tuple (rankT s t A)), H) := by
  rw [gcall_frz' rfl rfl rfl]
  exact RankR_ok0 s hs t ht A bA hA hH
theorem rankT_three (s : Scoring) (t : List Int) (A : List (List Int)) (hA : A.length ≤ 1000000) : ∃ (L : List Score) (P : List Int) (e : Int), L.length ≤ 1000000 ∧ P.length ≤ 1000000 ∧ rankT s t A = [.slice (L.map Score.row), .slice (P.map irow), .int .i64 e] := by
  unfold rankT
  split
  · exact ⟨[], [], _, by simp, by simp, rfl⟩
  · split
    · exact ⟨[], [], _, by simp, by simp, rfl⟩
    · split
      · exact ⟨[], [], _, by simp, by simp, rfl⟩
      · split
        · exact ⟨[], [], _, by simp, by simp, rfl⟩
        · exact ⟨_, _, _, by simpa using hA, by rw [plL_len]; exact hA, rfl⟩
end Go.Gh

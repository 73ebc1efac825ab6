/- Texts joined: the evaluator over ghost values, its soundness, the walks. -/
import Derived.Test.YtkcmcjohoockcaaGreatGc3e
namespace Go.Gh
open Go.Proofs
set_option linter.unusedVariables false
set_option linter.unusedSimpArgs false
set_option linter.unnecessarySimpa false
set_option maxRecDepth 100000
set_option maxHeartbeats 8000000
section
variable {c : Nat} {H : Heap}
noncomputable def turnS : Int → Int := hid fun w => IntKind.u64.wrap (w + 11507291218515648293)
theorem turnS_def (w : Int) : turnS w = IntKind.u64.wrap (w + 11507291218515648293) := by rw [turnS, hid_eq]
def xors (x n : Int) : Int := bxor .u64 x (x.fdiv n)
noncomputable def turnV : Int → Int := hid fun w => xors (IntKind.u64.wrap (xors (IntKind.u64.wrap (xors (IntKind.u64.wrap (w + 11507291218515648293)) 4294967296 * 15485907386658061715)) 536870912 * 14029467366897019727)) 4294967296
theorem turnV_def (w : Int) : turnV w = xors (IntKind.u64.wrap (xors (IntKind.u64.wrap (xors (IntKind.u64.wrap (w + 11507291218515648293)) 4294967296 * 15485907386658061715)) 536870912 * 14029467366897019727)) 4294967296 := by rw [turnV, hid_eq]
theorem u64_rng (x : Int) : 0 ≤ IntKind.u64.wrap x ∧ IntKind.u64.wrap x ≤ 18446744073709551615 := by rw [IntKind.wrap_u64]; omega
theorem turnV_rng (w : Int) : 0 ≤ turnV w ∧ turnV w ≤ 18446744073709551615 := by rw [turnV_def]; exact u64_rng _
@[simp] theorem bits_u64 : IntKind.u64.bits = 64 := rfl
@[simp] theorem bits_i64 : IntKind.i64.bits = 64 := rfl
theorem turn_ok {nm : Nm} (hB : isBox H nm) : gcall KC (geval KC) 55 [.bptr nm 0] c H = some (.pure (.int .u64 (turnV (wordAt H nm))), H.set nm (wbox (turnS (wordAt H nm)))) := by
 have hl := isBox_lt hB
 have hg := isBox_get hB
 refine WPv_eq (call_enter KC needT Tryz.func55 rfl rfl good55 rfl rfl rfl (by simp) (by omega) ?_)
 have hne : ¬ nm.1 = H.length := by omega
 have h1 : (IntKind.u64.wrap 32) = 32 := rfl
 generalize wordAt H nm = w at *
 unfold wbox at *
 simp [hne, hl, hg, gleave_free, turnV_def, turnS_def, xors]
noncomputable def upR : Int → Int → Int × Int := hid fun w n =>
 if n < 2 then (0, w) else (IntKind.i64.wrap (((turnV w).fdiv 2).tmod (IntKind.u64.wrap n)), turnS w)
theorem upR_def (w : Int) (n : Int) : upR w n =
 (if n < 2 then (0, w) else (IntKind.i64.wrap (((turnV w).fdiv 2).tmod (IntKind.u64.wrap n)), turnS w)) := by rw [upR, hid_eq]
theorem upR_rng (w n : Int) (h : n ≤ 9223372036854775807) : 0 ≤ (upR w n).1 ∧ ((upR w n).1 < n ∨ (upR w n).1 = 0) := by
 rw [upR_def]
 split
 ·simp
 ·have h1 := turnV_rng w
  have h2 : IntKind.u64.wrap n = n := by rw [IntKind.wrap_u64]; omega
  have h3 : 0 ≤ (turnV w).fdiv 2 := Int.fdiv_nonneg h1.1 (by omega)
  rw [h2, Int.tmod_eq_emod_of_nonneg h3]
  have h4 := Int.emod_nonneg ((turnV w).fdiv 2) (show n ≠ 0 by omega)
  have h5 := Int.emod_lt_of_pos ((turnV w).fdiv 2) (show 0 < n by omega)
  rw [w64 (by omega) (by omega)]
  exact ⟨h4, .inl h5⟩
theorem up_ok {nm : Nm} {n : Int} (hB : isBox H nm) (hn : n ≤ 9223372036854775807) : gcall KC (geval KC) 24 [.bptr nm 0, .pure (.int .i64 n)] c H = some (.pure (.int .i64 (upR (wordAt H nm) n).1), H.set nm (wbox (upR (wordAt H nm) n).2)) := by
 have hl := isBox_lt hB
 have hs := isBox_set hB
 refine WPv_eq (call_enter KC needT Tryz.func24 rfl rfl good24 rfl rfl rfl (by simp) (by omega) ?_)
 have hne : ¬ nm.1 = H.length := by omega
 by_cases h : n < 2
 ·simp [h, upR_def, hs, gleave_free]
 ·have h2 : IntKind.u64.wrap n = n := by rw [IntKind.wrap_u64]; omega
  have h3 : ¬ n = 0 := by omega
  have h4 : ¬ IntKind.u64.wrap n = 0 := by rw [h2]; exact h3
  simp [h, upR_def, turn_ok (isBox_up hB), wordAt_up hl, Heap.set_up hl, gleave_free, h4]
noncomputable def anyR : Int → Int → Int → Int × Int := hid fun w lo hi =>
 let r := upR w (IntKind.i64.wrap (IntKind.i64.wrap (hi - lo) + 1))
 (IntKind.i64.wrap (lo + r.1), r.2)
theorem anyR_def (w : Int) (lo : Int) (hi : Int) : anyR w lo hi =
 (let r := upR w (IntKind.i64.wrap (IntKind.i64.wrap (hi - lo) + 1))
 (IntKind.i64.wrap (lo + r.1), r.2)) := by rw [anyR, hid_eq]
theorem i64_rng (x : Int) : -9223372036854775808 ≤ IntKind.i64.wrap x ∧ IntKind.i64.wrap x ≤ 9223372036854775807 := by rw [IntKind.wrap_i64]; omega
theorem anyR_rng (w lo hi : Int) (h0 : -4611686018427387903 ≤ lo) (h1 : hi ≤ 4611686018427387903) (h : lo ≤ hi) : lo ≤ (anyR w lo hi).1 ∧ (anyR w lo hi).1 ≤ hi := by
 rw [anyR_def]
 rw [w64 (x := hi - lo) (by omega) (by omega), w64 (x := hi - lo + 1) (by omega) (by omega)]
 have := upR_rng w (hi - lo + 1) (by omega)
 simp only
 rw [w64 (by omega) (by omega)]
 omega
theorem any_ok {nm : Nm} {lo hi : Int} (hB : isBox H nm) : gcall KC (geval KC) 26 [.bptr nm 0, .pure (.int .i64 lo), .pure (.int .i64 hi)] c H = some (.pure (.int .i64 (anyR (wordAt H nm) lo hi).1), H.set nm (wbox (anyR (wordAt H nm) lo hi).2)) := by
 have hl := isBox_lt hB
 refine WPv_eq (call_enter KC needT Tryz.func26 rfl rfl good26 rfl rfl rfl (by simp) (by omega) ?_)
 have hr := (i64_rng (IntKind.i64.wrap (hi - lo) + 1)).2
 simp [anyR_def, up_ok (isBox_up hB) hr, wordAt_up hl, Heap.set_up hl, gleave_free]
noncomputable def oneR : Int → Int → Bool × Int := hid fun w n =>
 ((upR w n).1 == 0, (upR w n).2)
theorem oneR_def (w : Int) (n : Int) : oneR w n =
 (((upR w n).1 == 0, (upR w n).2)) := by rw [oneR, hid_eq]
theorem one_ok {nm : Nm} {n : Int} (hB : isBox H nm) (hn : n ≤ 9223372036854775807) : gcall KC (geval KC) 52 [.bptr nm 0, .pure (.int .i64 n)] c H = some (.pure (.bool (oneR (wordAt H nm) n).1), H.set nm (wbox (oneR (wordAt H nm) n).2)) := by
 have hl := isBox_lt hB
 refine WPv_eq (call_enter KC needT Tryz.func52 rfl rfl good52 rfl rfl rfl (by simp) (by omega) ?_)
 simp [oneR_def, up_ok (isBox_up hB) hn, wordAt_up hl, Heap.set_up hl, gleave_free]
noncomputable def pickR : Int → List Int → Int × Int := hid fun w l =>
 if l.length = 0 then (0, w) else (l.getD (upR w l.length).1.toNat 0, (upR w l.length).2)
theorem pickR_def (w : Int) (l : List Int) : pickR w l =
 (if l.length = 0 then (0, w) else (l.getD (upR w l.length).1.toNat 0, (upR w l.length).2)) := by rw [pickR, hid_eq]
theorem pick_ok {nm : Nm} {l : List Int} (hB : isBox H nm) (hn : l.length < 4611686018427387904) : gcall KC (geval KC) 54 [.bptr nm 0, .pure (.slice (l.map irow))] c H = some (.pure (.int .i64 (pickR (wordAt H nm) l).1), H.set nm (wbox (pickR (wordAt H nm) l).2)) := by
 have hl := isBox_lt hB
 have hs := isBox_set hB
 refine WPv_eq (call_enter KC needT Tryz.func54 rfl rfl good54 rfl rfl rfl (by simp) (by omega) ?_)
 by_cases h : l.length = 0
 ·obtain rfl : l = [] := List.length_eq_zero_iff.1 h
  simp [pickR_def, hs, gleave_free]
 ·have h2 : ((l.length : Int) == 0) = false := beq_eq_false_iff_ne.2 (by omega)
  have hr := upR_rng (wordAt H nm) l.length (by omega)
  have h3 : ¬ (upR (wordAt H nm) l.length).1 < 0 := by omega
  have h4 : (upR (wordAt H nm) l.length).1.toNat < l.length := by have := hr; clear hl hs hB; omega
  simp [h, h2, pickR_def, up_ok (isBox_up hB) (show (l.length : Int) ≤ 9223372036854775807 by omega), wordAt_up hl, Heap.set_up hl, gleave_free, h3, h4, irow]
theorem gleave_keep {K : Ctx} {f : Nat} {c : Nat} {r : GV} {fr : Fr} (h : K.keep f = true) : gleave K f c r (fr :: H) = (match moveOut fr H c (dedup (refs H.length r)) H with | some H' => some (ren H.length c r, H') | none => none) := by
 unfold gleave; simp only [h, if_true]; rfl
theorem box_loop (l : List Int) (hn : l.length ≤ 9223372036854775807) (Q : GX → GSt → Prop) (hH : 0 < H.length) : ∀ (k i : Nat) (w : Int), i + k = l.length →
    (∀ w', Q (.exit 0) ⟨[(3, .bptr (H.length, 6) 0)], [(6, wbox w')] :: H, 30⟩) →
    WPL KC needT 12 (lp Tryz.f12 0) [0, 3, 4] [3] Q [(0, .pure (.slice (l.map irow))), (3, .bptr (H.length, 6) 0), (4, .pure (.int .i64 i))] ([(6, wbox w)] :: H) 30 := by
  intro k
  induction k with
  | zero =>
    intro i w hi h1
    have hia : ¬ i < l.length := by omega
    apply WPL_step
    conv => arg 4; whnf
    simp [hia, hH]
    exact h1 w
  | succ k ih =>
    intro i w hi h1
    have hia : i < l.length := by omega
    have hw := w64 (x := (i : Int) + 1) (by omega) (by omega)
    have ih' := fun w => ih (i + 1) w (by omega) h1
    apply WPL_step
    conv => arg 4; whnf
    have T := fun (v : Int) (c : Nat) => turn_ok (c := c) (H := [] :: [(6, wbox v)] :: H) (nm := (H.length, 6)) ⟨v, by simp, by simp⟩
    simp [wordAt, wbox] at T
    simp [hia, hH, irow, hw, wbox, T]
    simpa [wbox] using ih' _
theorem BoxOf_ok (l : List Int) (hn : l.length ≤ 9223372036854775807) (hH : 0 < H.length) (hfree : H.get (H.length - 1, newKey c 6) = none) :
  ∃ w, gcall KC (geval KC) 12 [.pure (.slice (l.map irow))] c H = some (.bptr (H.length - 1, newKey c 6) 0, H.set (H.length - 1, newKey c 6) (wbox w)) := by
 have key : WPv (gcall KC (geval KC) 12 [.pure (.slice (l.map irow))] c H) (fun x => ∃ w, x = (.bptr (H.length - 1, newKey c 6) 0, H.set (H.length - 1, newKey c 6) (wbox w))) := by
  refine call_enter KC needT Tryz.func12 rfl rfl good12 rfl rfl rfl (by simp) hH ?_
  have h0 := fun Q hq => box_loop l hn Q hH l.length 0 2685821657736338717 (by omega) hq
  simp [wbox] at h0
  simp
  refine h0 _ (fun w => ?_)
  simp [gleave_keep, KC_keep, refs, refs2, refs1, dedup, moveOut, cleanBlk, hfree, ren, ren2, ren1]
  exact ⟨w, rfl⟩
 obtain ⟨r, e1, w, e2⟩ := key
 exact ⟨w, by rw [e1, e2]⟩
end
section
variable {c : Nat} {H : Heap}
@[simp] theorem wrap_1 : IntKind.i64.wrap 1 = 1 := rfl
@[simp] theorem wrap_0 : IntKind.i64.wrap 0 = 0 := rfl
noncomputable def topC : Int → Int → Int := hid fun w d => IntKind.i64.wrap (IntKind.i64.wrap (w * d) - 1)
theorem topC_def (w d : Int) : topC w d = IntKind.i64.wrap (IntKind.i64.wrap (w * d) - 1) := by rw [topC, hid_eq]
theorem cells_ok {w d : Int} {x1 x2 x3 x4 x5 : PV} (hH : 0 < H.length) : gcall KC (geval KC) 130 [.pure (.agg [.int .i64 w, .int .i64 d, x1, x2, x3, x4, x5])] c H = some (.pure (.int .i64 (IntKind.i64.wrap (w * d))), H) := by
 refine bor_c rfl rfl rfl rfl rfl hH fun H hH => ?_
 refine WPv_eq (call_enter0 KC needT Tryz.func130 rfl rfl good130 (by simp) hH ?_)
 simp [gleave_free]
theorem isCell_ok {w d n : Int} {x1 x2 x3 x4 x5 : PV} (hH : 0 < H.length) : gcall KC (geval KC) 112 [.pure (.agg [.int .i64 w, .int .i64 d, x1, x2, x3, x4, x5]), .pure (.int .i64 n)] c H = some (.pure (.bool (inB n 0 (topC w d))), H) := by
 refine bor_c rfl rfl rfl rfl rfl hH fun H hH => ?_
 refine WPv_eq (call_enter0 KC needT Tryz.func112 rfl rfl good112 (by simp) hH ?_)
 simp [gleave_free, cells_ok, in_ok, topC_def]
theorem cell_ok {w d n : Int} {x1 x2 x3 x4 x5 : PV} (hH : 0 < H.length) : gcall KC (geval KC) 113 [.pure (.agg [.int .i64 w, .int .i64 d, x1, x2, x3, x4, x5]), .pure (.int .i64 n)] c H = some (.pure (.bool (inB n 0 (topC w d))), H) := by
 refine bor_c rfl rfl rfl rfl rfl hH fun H hH => ?_
 refine WPv_eq (call_enter0 KC needT Tryz.func113 rfl rfl good113 (by simp) hH ?_)
 simp [gleave_free, within_ok, topC_def]
def firstI (g : Nat → Int) : Nat → Nat → Int
 | 0, _ => 0
 | k + 1, i => if g i ≠ 0 then g i else firstI g k (i + 1)
noncomputable def ascF : (Int → Bool) → Int → List Int → Nat → Int := hid fun p e l i => if p (l.getD i 0) = false then e else if 0 < i ∧ l.getD i 0 ≤ l.getD (i - 1) 0 then 11 else 0
theorem ascF_def (p : Int → Bool) (e : Int) (l : List Int) (i : Nat) : ascF p e l i = if p (l.getD i 0) = false then e else if 0 < i ∧ l.getD i 0 ≤ l.getD (i - 1) 0 then 11 else 0 := by rw [ascF, hid_eq]
theorem asc_loop (l : List Int) (hn : l.length ≤ 4611686018427387904) (p : Int → Bool) (e : Int) (he0 : e ≠ 0) (g : GV) (hg : ∀ (x : Int) (c : Nat) (fr : Fr), gcallee KC (geval KC) g [.pure (.int .i64 x)] c (fr :: H) = some (.pure (.bool (p x)), fr :: H))
    (hcl : ∀ fr, clean (fr :: H) (H.length - 1) g = g) (Q : GX → GSt → Prop) (hH : 0 < H.length) : ∀ k i : Nat, i + k = l.length →
    (firstI (ascF p e l) k i = 0 → Q (.exit 0) ⟨[(6, gdead)], H, 35⟩) → (firstI (ascF p e l) k i ≠ 0 → Q .ret ⟨[(6, .pure (.int .i64 (firstI (ascF p e l) k i)))], H, 35⟩) →
    WPL KC needT 123 (lp Tryz.f123 0) [0, 1, 2, 9, 10, 11] [6] Q [(0, .pure (.slice (l.map irow))), (1, g), (2, .pure (.int .i64 e)), (9, .pure (.slice (l.map irow))), (10, .pure (.int .i64 l.length)), (11, .pure (.int .i64 i))] H 35 := by
  intro k
  induction k with
  | zero =>
    intro i hi h1 h2
    apply WPL_step
    conv => arg 4; whnf
    have : ¬ i < l.length := by omega
    simp [this, hH]
    exact h1 rfl
  | succ k ih =>
    intro i hi h1 h2
    have hia : i < l.length := by omega
    have hw := w64 (x := (i : Int) + 1) (by omega) (by omega)
    have hw2 := w64 (x := (i : Int) - 1) (by omega) (by omega)
    have ih' := ih (i + 1) (by omega)
    unfold firstI at h1 h2
    have hf := ascF_def p e l i
    have hgi : l.getD i 0 = l[i] := by simp [List.getD_eq_getElem?_getD, hia]
    rw [hgi] at hf
    apply WPL_step
    conv => arg 4; whnf
    by_cases hp : p l[i] = true
    · by_cases h0 : 0 < i
      · have h0' : (0 : Int) < i := by omega
        have hi1 : i - 1 < l.length := by omega
        have hgi1 : l.getD (i - 1) 0 = l[i - 1] := by simp [List.getD_eq_getElem?_getD, hi1]
        have hnn : ¬ (i : Int) - 1 < 0 := by omega
        have htn : ((i : Int) - 1).toNat = i - 1 := by omega
        rw [hgi1] at hf
        by_cases hle : l[i] ≤ l[i - 1]
        · simp [hp, h0, hle] at hf
          simp [hf] at h1 h2
          simp [hia, hH, irow, hg, hp, hw, hw2, h0, h0', hnn, htn, hi1, hle]
          exact h2
        · simp [hp, h0, hle] at hf
          simp [hf] at h1 h2
          simp [hia, hH, irow, hg, hp, hw, hw2, h0, h0', hnn, htn, hi1, hle, hcl]
          simpa [irow] using ih' h1 h2
      · have h00 : i = 0 := by omega
        simp [hp, h0] at hf
        simp [hf] at h1 h2
        subst h00
        simp [hia, hH, irow, hg, hp, hw, hcl]
        simpa [irow] using ih' h1 h2
    · have hp' : p l[i] = false := by simpa using hp
      simp [hp'] at hf
      simp [hf, he0] at h1 h2
      simp [hia, hH, irow, hg, hp']
      exact h2
theorem asc_ok (l : List Int) (hn : l.length ≤ 4611686018427387904) (p : Int → Bool) (e : Int) (he0 : e ≠ 0) (g : GV) (hcan : canon g = g) (hfz : ∀ H, frzVal H g = (g, H)) (hg : ∀ (x : Int) (c : Nat) (f0 fr : Fr), gcallee KC (geval KC) g [.pure (.int .i64 x)] c (f0 :: fr :: H) = some (.pure (.bool (p x)), f0 :: fr :: H))
  (hcl : ∀ f0 fr, clean (f0 :: fr :: H) (H.length) g = g) (hH : 0 < H.length) :
  gcall KC (geval KC) 123 [.pure (.slice (l.map irow)), g, .pure (.int .i64 e)] c H = some (.pure (.int .i64 (firstI (ascF p e l) l.length 0)), H) := by
 refine WPv_eq (call_enter KC needT Tryz.func123 rfl rfl good123 (by simp [frzVals, hfz]) rfl rfl (by simp) hH ?_)
 simp [hcan]
 refine asc_loop (H := [] :: H) l hn p e he0 g (fun x c fr => hg x c fr []) (fun fr => by simpa using hcl fr []) _ (by simp) l.length 0 (by omega) (fun h => ?_) (fun h => ?_)
 ·simp [h, gleave_free]
 ·simp [gleave_free]
theorem room1_ok {w d x : Int} {x1 x2 x3 x4 x5 : PV} {nm : Nm} (hg : H.get nm = some (.box [.pure (.int .i64 w), .pure (.int .i64 d), .pure x1, .pure x2, .pure x3, .pure x4, .pure x5])) :
  gcall KC (geval KC) 124 [.pure (.int .i64 x), .bptr nm 0] c H = some (.pure (.bool (inB x 0 (topC w d))), H) := by
 have hl : nm.1 < H.length := Heap.get_lt hg
 have hne : ¬ nm.1 = H.length := by omega
 refine WPv_eq (call_enter KC needT Tryz.func124 rfl rfl good124 rfl rfl rfl (by simp) (by omega) ?_)
 simp [gleave_free, isCell_ok, hg, hne]
theorem room2_ok {x : Int} (hH : 0 < H.length) :
  gcall KC (geval KC) 125 [.pure (.int .i64 x)] c H = some (.pure (.bool (inB x 1 3)), H) := by
 refine WPv_eq (call_enter KC needT Tryz.func125 rfl rfl good125 rfl rfl rfl (by simp) hH ?_)
 simp [gleave_free, in_ok]
def sameCell (ps : List Person) (i : Nat) (x : Int) : Bool := (ps.take i).any fun q => q.cell == x
noncomputable def personF : Int → List Person → Nat → Int := hid fun t ps i =>
 if inB (ps.getD i ⟨0, 0⟩).role 1 3 = false then 4 else if inB (ps.getD i ⟨0, 0⟩).cell 0 t = false then 7 else if sameCell ps i (ps.getD i ⟨0, 0⟩).cell = true then 12 else 0
theorem personF_def (t : Int) (ps : List Person) (i : Nat) : personF t ps i =
 if inB (ps.getD i ⟨0, 0⟩).role 1 3 = false then 4 else if inB (ps.getD i ⟨0, 0⟩).cell 0 t = false then 7 else if sameCell ps i (ps.getD i ⟨0, 0⟩).cell = true then 12 else 0 := by rw [personF, hid_eq]
noncomputable def thingF : Int → List Thing → Nat → Int := hid fun t ts i =>
 if inB (ts.getD i ⟨0, 0, 0, 0, false⟩).cell 0 t = false ∨ inB (ts.getD i ⟨0, 0, 0, 0, false⟩).home 0 t = false then 7 else if inB (ts.getD i ⟨0, 0, 0, 0, false⟩).state 0 15 = false ∨ inB (ts.getD i ⟨0, 0, 0, 0, false⟩).want 0 15 = false then 2 else 0
theorem thingF_def (t : Int) (ts : List Thing) (i : Nat) : thingF t ts i =
 if inB (ts.getD i ⟨0, 0, 0, 0, false⟩).cell 0 t = false ∨ inB (ts.getD i ⟨0, 0, 0, 0, false⟩).home 0 t = false then 7 else if inB (ts.getD i ⟨0, 0, 0, 0, false⟩).state 0 15 = false ∨ inB (ts.getD i ⟨0, 0, 0, 0, false⟩).want 0 15 = false then 2 else 0 := by rw [thingF, hid_eq]
noncomputable def roomF : Rite → Int := hid fun r =>
 if inB r.wide 1 6 = false ∨ inB r.deep 1 6 = false then 2 else if r.people.length = 0 then 6 else if 4 < r.people.length then 8
 else if firstI (personF (topC r.wide r.deep) r.people) r.people.length 0 ≠ 0 then firstI (personF (topC r.wide r.deep) r.people) r.people.length 0
 else if 8 < r.things.length then 8
 else if firstI (thingF (topC r.wide r.deep) r.things) r.things.length 0 ≠ 0 then firstI (thingF (topC r.wide r.deep) r.things) r.things.length 0
 else if firstI (ascF (fun x => inB x 0 (topC r.wide r.deep)) 7 r.seen) r.seen.length 0 ≠ 0 then firstI (ascF (fun x => inB x 0 (topC r.wide r.deep)) 7 r.seen) r.seen.length 0
 else firstI (ascF (fun x => inB x 1 3) 4 r.lapses) r.lapses.length 0
theorem roomF_def (r : Rite) : roomF r =
 if inB r.wide 1 6 = false ∨ inB r.deep 1 6 = false then 2 else if r.people.length = 0 then 6 else if 4 < r.people.length then 8
 else if firstI (personF (topC r.wide r.deep) r.people) r.people.length 0 ≠ 0 then firstI (personF (topC r.wide r.deep) r.people) r.people.length 0
 else if 8 < r.things.length then 8
 else if firstI (thingF (topC r.wide r.deep) r.things) r.things.length 0 ≠ 0 then firstI (thingF (topC r.wide r.deep) r.things) r.things.length 0
 else if firstI (ascF (fun x => inB x 0 (topC r.wide r.deep)) 7 r.seen) r.seen.length 0 ≠ 0 then firstI (ascF (fun x => inB x 0 (topC r.wide r.deep)) 7 r.seen) r.seen.length 0
 else firstI (ascF (fun x => inB x 1 3) 4 r.lapses) r.lapses.length 0 := by rw [roomF, hid_eq]
def rbox (r : Rite) : Blk := .box [.pure (.int .i64 r.wide), .pure (.int .i64 r.deep), .pure (.slice (r.people.map Person.row)), .pure (.slice (r.things.map Thing.row)), .pure (.slice (r.seen.map irow)), .pure (.slice (r.lapses.map irow)), .pure (.slice (r.acts.map RAct.row))]
theorem sameCell_succ (ps : List Person) (i : Nat) (h : i < ps.length) (x : Int) : sameCell ps (i + 1) x = (sameCell ps i x || ps[i].cell == x) := by
 unfold sameCell
 rw [List.take_succ_eq_append_getElem h, List.any_append]
 simp
theorem same_loop (ps : List Person) (n : Nat) (hn : n ≤ ps.length) (hl : ps.length ≤ 4) (p : Person) (r : Rite) (g30 g31 g32 : PV) (Q : GX → GSt → Prop) (f0 : Fr) (hf0 : f0 = [(4, .box [.pure (.int .i64 p.role), .pure (.int .i64 p.cell)])]) :
    ∀ k i : Nat, i + k = n → sameCell ps i p.cell = false →
    (sameCell ps n p.cell = false → Q (.exit 4) ⟨[(1, .bptr (H.length, 1) 0), (2, gdead), (30, .pure g30), (31, .pure g31), (32, .pure g32)], f0 :: [(1, rbox r)] :: H, 106⟩) →
    (sameCell ps n p.cell = true → Q .ret ⟨[(1, .bptr (H.length, 1) 0), (2, .pure (.int .i64 12)), (30, .pure g30), (31, .pure g31), (32, .pure g32)], f0 :: [(1, rbox r)] :: H, 106⟩) →
    WPL KC needT 89 (lp Tryz.f89 1) [1, 4, 30, 31, 32, 51, 52, 53] [1, 2, 30, 31, 32] Q
      [(1, .bptr (H.length, 1) 0), (4, .bptr (H.length + 1, 4) 0), (30, .pure g30), (31, .pure g31), (32, .pure g32), (51, .pure (.slice ((ps.take n).map Person.row))), (52, .pure (.int .i64 n)), (53, .pure (.int .i64 i))] (f0 :: [(1, rbox r)] :: H) 106 := by
  subst hf0
  intro k
  induction k with
  | zero =>
    intro i hi hs h1 h2
    have e : i = n := by omega
    subst e
    apply WPL_step
    conv => arg 4; whnf
    simp [rbox]
    exact h1 hs
  | succ k ih =>
    intro i hi hs h1 h2
    have hin : i < n := by omega
    have hil : i < ps.length := by omega
    have hw := w64 (x := (i : Int) + 1) (by omega) (by omega)
    have hs1 := sameCell_succ ps i hil p.cell
    apply WPL_step
    conv => arg 4; whnf
    by_cases he : ps[i].cell = p.cell
    · have ht : sameCell ps n p.cell = true := by
        unfold sameCell
        rw [List.any_eq_true]
        exact ⟨ps[i], List.mem_take_iff_getElem.2 ⟨i, by omega, rfl⟩, by simp [he]⟩
      simp [hin, hil, hw, rbox, Person.row, he]
      exact h2 ht
    · have hs' : sameCell ps (i + 1) p.cell = false := by rw [hs1, hs]; simpa using he
      have he' : (ps[i].cell == p.cell) = false := by simpa using he
      simp [hin, hil, hw, rbox, Person.row, he']
      simpa [rbox] using ih (i + 1) (by omega) hs' h1 h2
end
section
variable {c : Nat} {H : Heap}
theorem person_loop (r : Rite) (hl : r.people.length ≤ 4) (Q : GX → GSt → Prop) : ∀ k i : Nat, i + k = r.people.length →
    (firstI (personF (topC r.wide r.deep) r.people) k i = 0 → Q (.exit 1) ⟨[(1, .bptr (H.length, 1) 0), (2, gdead)], [(1, rbox r)] :: H, 106⟩) →
    (firstI (personF (topC r.wide r.deep) r.people) k i ≠ 0 → Q .ret ⟨[(1, .bptr (H.length, 1) 0), (2, .pure (.int .i64 (firstI (personF (topC r.wide r.deep) r.people) k i)))], [(1, rbox r)] :: H, 106⟩) →
    WPL KC needT 89 (lp Tryz.f89 0) [1, 30, 31, 32] [1, 2] Q
      [(1, .bptr (H.length, 1) 0), (30, .pure (.slice (r.people.map Person.row))), (31, .pure (.int .i64 r.people.length)), (32, .pure (.int .i64 i))] ([(1, rbox r)] :: H) 106 := by
  intro k
  induction k with
  | zero =>
    intro i hi h1 h2
    apply WPL_step
    conv => arg 4; whnf
    have : ¬ i < r.people.length := by omega
    simp [this]
    exact h1 rfl
  | succ k ih =>
    intro i hi h1 h2
    have hia : i < r.people.length := by omega
    have hw := w64 (x := (i : Int) + 1) (by omega) (by omega)
    have ih' := ih (i + 1) (by omega)
    unfold firstI at h1 h2
    have hf := personF_def (topC r.wide r.deep) r.people i
    have hgi : r.people.getD i ⟨0, 0⟩ = r.people[i] := by simp [List.getD_eq_getElem?_getD, hia]
    rw [hgi] at hf
    have hmin : min i r.people.length = i := by omega
    have hile : i ≤ r.people.length := by omega
    have hnn : ¬ (r.people.length : Int) < i := by omega
    apply WPL_step
    conv => arg 4; whnf
    by_cases h3 : inB r.people[i].role 1 3 = true
    · by_cases h4 : inB r.people[i].cell 0 (topC r.wide r.deep) = true
      · simp [hia, hile, hmin, Person.row, rbox, in_ok, isCell_ok, h3, h4]
        have L := fun Q => same_loop (H := H) r.people i (by omega) hl r.people[i] r (.slice (r.people.map Person.row)) (.int .i64 r.people.length) (.int .i64 i) Q _ rfl i 0 (by omega) (by simp [sameCell])
        simp [rbox] at L
        refine L _ (fun h5 => ?_) (fun h5 => ?_)
        · simp [h3, h4, h5] at hf
          simp [hf] at h1 h2
          simp [hw]
          simpa [rbox] using ih' h1 h2
        · simp [h3, h4, h5] at hf
          simp [hf] at h1 h2
          simp
          simpa [rbox] using h2
      · have h4' : inB r.people[i].cell 0 (topC r.wide r.deep) = false := by simpa using h4
        simp [h3, h4'] at hf
        simp [hf] at h1 h2
        simp [hia, Person.row, rbox, in_ok, isCell_ok, h3, h4']
        simpa [rbox] using h2
    · have h3' : inB r.people[i].role 1 3 = false := by simpa using h3
      simp [h3'] at hf
      simp [hf] at h1 h2
      simp [hia, Person.row, rbox, in_ok, isCell_ok, h3']
      simpa [rbox] using h2
theorem thing_loop (r : Rite) (hl : r.things.length ≤ 8) (Q : GX → GSt → Prop) : ∀ k i : Nat, i + k = r.things.length →
    (firstI (thingF (topC r.wide r.deep) r.things) k i = 0 → Q (.exit 6) ⟨[(1, .bptr (H.length, 1) 0), (2, gdead)], [(1, rbox r)] :: H, 106⟩) →
    (firstI (thingF (topC r.wide r.deep) r.things) k i ≠ 0 → Q .ret ⟨[(1, .bptr (H.length, 1) 0), (2, .pure (.int .i64 (firstI (thingF (topC r.wide r.deep) r.things) k i)))], [(1, rbox r)] :: H, 106⟩) →
    WPL KC needT 89 (lp Tryz.f89 2) [1, 69, 70, 71] [1, 2] Q
      [(1, .bptr (H.length, 1) 0), (69, .pure (.slice (r.things.map Thing.row))), (70, .pure (.int .i64 r.things.length)), (71, .pure (.int .i64 i))] ([(1, rbox r)] :: H) 106 := by
  intro k
  induction k with
  | zero =>
    intro i hi h1 h2
    apply WPL_step
    conv => arg 4; whnf
    have : ¬ i < r.things.length := by omega
    simp [this]
    exact h1 rfl
  | succ k ih =>
    intro i hi h1 h2
    have hia : i < r.things.length := by omega
    have hw := w64 (x := (i : Int) + 1) (by omega) (by omega)
    have ih' := ih (i + 1) (by omega)
    unfold firstI at h1 h2
    have hf := thingF_def (topC r.wide r.deep) r.things i
    have hgi : r.things.getD i ⟨0, 0, 0, 0, false⟩ = r.things[i] := by simp [List.getD_eq_getElem?_getD, hia]
    rw [hgi] at hf
    apply WPL_step
    conv => arg 4; whnf
    cases h3 : inB r.things[i].cell 0 (topC r.wide r.deep) with
    | false =>
      simp [h3] at hf
      simp [hf] at h1 h2
      simp [hia, Thing.row, rbox, in_ok, isCell_ok, h3]
      simpa [rbox] using h2
    | true =>
      cases h4 : inB r.things[i].home 0 (topC r.wide r.deep) with
      | false =>
        simp [h3, h4] at hf
        simp [hf] at h1 h2
        simp [hia, Thing.row, rbox, in_ok, isCell_ok, h3, h4]
        simpa [rbox] using h2
      | true =>
        cases h5 : inB r.things[i].state 0 15 with
        | false =>
          simp [h3, h4, h5] at hf
          simp [hf] at h1 h2
          simp [hia, Thing.row, rbox, in_ok, isCell_ok, h3, h4, h5]
          simpa [rbox] using h2
        | true =>
          cases h6 : inB r.things[i].want 0 15 with
          | false =>
            simp [h3, h4, h5, h6] at hf
            simp [hf] at h1 h2
            simp [hia, Thing.row, rbox, in_ok, isCell_ok, h3, h4, h5, h6]
            simpa [rbox] using h2
          | true =>
            simp [h3, h4, h5, h6] at hf
            simp [hf] at h1 h2
            simp [hia, Thing.row, rbox, in_ok, isCell_ok, h3, h4, h5, h6, hw]
            simpa [rbox] using ih' h1 h2
theorem rowR (r : Rite) : r.row = [.int .i64 r.wide, .int .i64 r.deep, .slice (r.people.map Person.row), .slice (r.things.map Thing.row), .slice (r.seen.map irow), .slice (r.lapses.map irow), .slice (r.acts.map RAct.row)] := rfl
theorem room1_r (r : Rite) {x : Int} {nm : Nm} (hg : H.get nm = some (rbox r)) : gcall KC (geval KC) 124 [.pure (.int .i64 x), .bptr nm 0] c H = some (.pure (.bool (inB x 0 (topC r.wide r.deep))), H) := room1_ok hg
theorem checkRoom_ok (r : Rite) (h1 : r.seen.length ≤ 1000000) (h2 : r.lapses.length ≤ 1000000) (h3 : r.people.length ≤ 1000000) (h4 : r.things.length ≤ 1000000) (hH : 0 < H.length) :
    gcall KC (geval KC) 89 [.pure (.agg r.row)] c H = some (.pure (.int .i64 (roomF r)), H) := by
  refine bor_c rfl rfl rfl rfl rfl hH fun H hH => ?_
  refine WPv_eq (call_enter0 KC needT Tryz.func89 rfl rfl good89 (by simp) hH ?_)
  have hr := roomF_def r
  rw [rowR]
  cases e1 : inB r.wide 1 6 with
  | false =>
    simp [e1] at hr
    simp [in_ok, e1, gleave_free, hr]
  | true =>
  cases e2 : inB r.deep 1 6 with
  | false =>
    simp [e1, e2] at hr
    simp [in_ok, e1, e2, gleave_free, hr]
  | true =>
  by_cases e3 : r.people.length = 0
  · have e3' : r.people = [] := List.length_eq_zero_iff.1 e3
    simp [e1, e2, e3, e3'] at hr
    simp [in_ok, e1, e2, e3, e3', gleave_free, hr]
  have e3' : ((r.people.length : Int) == 0) = false := beq_eq_false_iff_ne.2 (by omega)
  by_cases e4 : 4 < r.people.length
  · have e4' : (4 : Int) < r.people.length := by omega
    simp [e1, e2, e3, e4] at hr
    simp [in_ok, e1, e2, e3, e3', e4, e4', gleave_free, hr]
  have e4' : ¬ (4 : Int) < r.people.length := by omega
  simp only [e1, e2, e3, e4, Bool.true_eq_false, or_self, if_false] at hr
  simp [in_ok, e1, e2, e3, e3', e4, e4']
  have L := fun Q => person_loop (H := H) r (by omega) Q r.people.length 0 (by omega)
  simp [rbox] at L
  refine L _ (fun z1 => ?_) (fun z1 => ?_)
  · by_cases e5 : 8 < r.things.length
    · have e5' : (8 : Int) < r.things.length := by omega
      simp [z1, e5] at hr
      simp [e5', e5, gleave_free, hr]
    · have e5' : ¬ (8 : Int) < r.things.length := by omega
      simp only [z1, e5, ne_eq, not_true_eq_false, if_false] at hr
      simp [e5', e5]
      have L2 := fun Q => thing_loop (H := H) r (by omega) Q r.things.length 0 (by omega)
      simp [rbox] at L2
      refine L2 _ (fun z2 => ?_) (fun z2 => ?_)
      · simp only [z2, ne_eq, not_true_eq_false, if_false] at hr
        have A := fun c => asc_ok (c := c) (H := [(1, rbox r)] :: H) r.seen (by omega) (fun x => inB x 0 (topC r.wide r.deep)) 7 (by decide) (.func 124 [] [.bptr (H.length, 1) 0]) rfl (fun _ => rfl) (fun x c f0 fr => by
          rw [gcallee_func]
          exact room1_r r (by simp)) (fun f0 fr => by simp) (by simp)
        have B := fun (H : Heap) c (hH : 0 < H.length) => asc_ok (c := c) (H := H) r.lapses (by omega) (fun x => inB x 1 3) 4 (by decide) (.pure (.fn 125)) rfl (fun _ => rfl) (fun x c f0 fr => by
          rw [gcallee_fn]
          exact room2_ok (by simp)) (fun f0 fr => by simp) hH
        simp [rbox] at A
        by_cases z3 : firstI (ascF (fun x => inB x 0 (topC r.wide r.deep)) 7 r.seen) r.seen.length 0 = 0
        · simp only [z3, ne_eq, not_true_eq_false, if_false] at hr
          simp [A, z3, B, gleave_free, hr]
        · have z3' : (firstI (ascF (fun x => inB x 0 (topC r.wide r.deep)) 7 r.seen) r.seen.length 0 != 0) = true := by simpa using z3
          simp only [z3, ne_eq, not_false_eq_true, if_true] at hr
          simp [A, z3, z3', gleave_free, hr]
      · simp [z2] at hr
        simp [gleave_free, hr]
  · simp [z1] at hr
    simp [gleave_free, hr]
end
section
variable {c : Nat} {H : Heap}
def formB (a : RAct) : Bool :=
 if a.kind = 1 then decide (a.hand = 0 ∧ a.thing = 0 ∧ a.other = 0)
 else if a.kind = 2 then decide (a.cell = 0 ∧ a.other = 0)
 else if a.kind = 4 then decide (a.thing = 0 ∧ a.cell = 0)
 else decide (a.thing = 0 ∧ a.cell = 0 ∧ a.other = 0)
noncomputable def fieldsF : Int → Int → Int → RAct → Int := hid fun t nt np a =>
 if inB a.kind 1 8 = false then 4 else if formB a = false then 3 else if a.kind = 1 ∧ inB a.cell 0 t = false then 7 else if inB a.hand 0 1 = false then 2
 else if a.kind = 2 ∧ inB a.thing 0 (nt - 1) = false then 7 else if a.kind = 4 ∧ inB a.other 0 (np - 1) = false then 7 else if a.kind = 4 ∧ a.other = a.who then 3 else 0
theorem fieldsF_def (t nt np : Int) (a : RAct) : fieldsF t nt np a =
 if inB a.kind 1 8 = false then 4 else if formB a = false then 3 else if a.kind = 1 ∧ inB a.cell 0 t = false then 7 else if inB a.hand 0 1 = false then 2
 else if a.kind = 2 ∧ inB a.thing 0 (nt - 1) = false then 7 else if a.kind = 4 ∧ inB a.other 0 (np - 1) = false then 7 else if a.kind = 4 ∧ a.other = a.who then 3 else 0 := by rw [fieldsF, hid_eq]
theorem kind_cases (k : Int) : k = 1 ∨ k = 2 ∨ k = 4 ∨ (k = 3 ∨ k = 5 ∨ k = 6 ∨ k = 7 ∨ k = 8) ∨ (inB k 1 8 = false ∧ k ≠ 1 ∧ k ≠ 2 ∧ k ≠ 3 ∧ k ≠ 4 ∧ k ≠ 5 ∧ k ≠ 6 ∧ k ≠ 7 ∧ k ≠ 8) := by
 by_cases h : 1 ≤ k ∧ k ≤ 8
 ·omega
 ·refine .inr (.inr (.inr (.inr ⟨?_, by omega, by omega, by omega, by omega, by omega, by omega, by omega, by omega⟩)))
  simp [inB]; omega
theorem checkFields_ok {r : Rite} {q1 q2 kind hand thing cell other q3 q4 : Int} (h1 : r.people.length ≤ 1000000) (h2 : r.things.length ≤ 1000000) (hH : 0 < H.length) :
    gcall KC (geval KC) 73 [.pure (.agg r.row), .pure (.agg [.int .i64 q1, .int .i64 q2, .int .i64 kind, .int .i64 hand, .int .i64 thing, .int .i64 cell, .int .i64 other, .int .i64 q3, .int .i64 q4])] c H =
      some (.pure (.int .i64 (fieldsF (topC r.wide r.deep) r.things.length r.people.length ⟨q1, q2, kind, hand, thing, cell, other, q3, q4⟩)), H) := by
  refine bor_c rfl rfl rfl rfl rfl hH fun H hH => ?_
  refine WPv_eq (call_enter0 KC needT Tryz.func73 rfl rfl good73 (by simp) hH ?_)
  have hr := fieldsF_def (topC r.wide r.deep) r.things.length r.people.length ⟨q1, q2, kind, hand, thing, cell, other, q3, q4⟩
  simp only [formB] at hr
  rw [rowR]
  have w1 := w64 (x := (r.people.length : Int) - 1) (by omega) (by omega)
  have w2 := w64 (x := (r.things.length : Int) - 1) (by omega) (by omega)
  have i0 : inB 0 0 1 = true := rfl
  rcases kind_cases kind with rfl | rfl | rfl | hk | ⟨hk, n1, n2, n3, n4, n5, n6, n7, n8⟩
  · have i1 : inB 1 1 8 = true := rfl
    by_cases a1 : hand = 0
    · by_cases a2 : thing = 0
      · by_cases a3 : other = 0
        · subst a1; subst a2; subst a3
          cases a4 : inB cell 0 (topC r.wide r.deep) with
          | false =>
            simp [a4, i1, i0] at hr
            simp [in_ok, isCell_ok, a4, gleave_free, hr]
          | true =>
            simp [a4, i1, i0] at hr
            simp [in_ok, isCell_ok, a4, i0, gleave_free, hr]
        · have a3' : (other == 0) = false := by simpa using a3
          subst a1; subst a2
          simp [a3, i1] at hr
          simp [a3', bne, gleave_free, hr]
      · have a2' : (thing == 0) = false := by simpa using a2
        subst a1
        simp [a2, i1] at hr
        simp [a2', bne, gleave_free, hr]
    · have a1' : (hand == 0) = false := by simpa using a1
      simp [a1, i1] at hr
      simp [a1', bne, gleave_free, hr]
  · have i1 : inB 2 1 8 = true := rfl
    by_cases a1 : cell = 0
    · by_cases a2 : other = 0
      · subst a1; subst a2
        cases a3 : inB hand 0 1 with
        | false =>
          simp [a3, i1] at hr
          simp [in_ok, a3, gleave_free, hr]
        | true =>
          cases a4 : inB thing 0 ((r.things.length : Int) - 1) with
          | false =>
            simp [a3, a4, i1] at hr
            simp [in_ok, a3, a4, w2, gleave_free, hr]
          | true =>
            simp [a3, a4, i1] at hr
            simp [in_ok, a3, a4, w2, gleave_free, hr]
      · have a2' : (other == 0) = false := by simpa using a2
        subst a1
        simp [a2, i1] at hr
        simp [a2', bne, gleave_free, hr]
    · have a1' : (cell == 0) = false := by simpa using a1
      simp [a1, i1] at hr
      simp [a1', bne, gleave_free, hr]
  · have i1 : inB 4 1 8 = true := rfl
    by_cases a1 : thing = 0
    · by_cases a2 : cell = 0
      · subst a1; subst a2
        cases a3 : inB hand 0 1 with
        | false =>
          simp [a3, i1] at hr
          simp [in_ok, a3, gleave_free, hr]
        | true =>
          cases a4 : inB other 0 ((r.people.length : Int) - 1) with
          | false =>
            simp [a3, a4, i1] at hr
            simp [in_ok, a3, a4, w1, gleave_free, hr]
          | true =>
            by_cases a5 : other = q2
            · subst a5
              simp [a3, a4, i1] at hr
              simp [in_ok, a3, a4, w1, gleave_free, hr]
            · have a5' : (other == q2) = false := by simpa using a5
              simp [a3, a4, a5, i1] at hr
              simp [in_ok, a3, a4, a5', w1, gleave_free, hr]
      · have a2' : (cell == 0) = false := by simpa using a2
        subst a1
        simp [a2, i1] at hr
        simp [a2', bne, gleave_free, hr]
    · have a1' : (thing == 0) = false := by simpa using a1
      simp [a1, i1] at hr
      simp [a1', bne, gleave_free, hr]
  · have i1 : inB kind 1 8 = true := by simp [inB]; omega
    have m1 : kind ≠ 1 := by omega
    have m2 : kind ≠ 2 := by omega
    have m4 : kind ≠ 4 := by omega
    by_cases a1 : thing = 0
    · by_cases a2 : cell = 0
      · by_cases a3 : other = 0
        · subst a1; subst a2; subst a3
          cases a4 : inB hand 0 1 with
          | false =>
            simp [a4, i1, m1, m2, m4] at hr
            rcases hk with rfl | rfl | rfl | rfl | rfl <;> simp [in_ok, a4, gleave_free, hr]
          | true =>
            simp [a4, i1, m1, m2, m4] at hr
            rcases hk with rfl | rfl | rfl | rfl | rfl <;> simp [in_ok, a4, gleave_free, hr]
        · have a3' : (other == 0) = false := by simpa using a3
          subst a1; subst a2
          simp [a3, i1, m1, m2, m4] at hr
          rcases hk with rfl | rfl | rfl | rfl | rfl <;> simp [a3', bne, gleave_free, hr]
      · have a2' : (cell == 0) = false := by simpa using a2
        subst a1
        simp [a2, i1, m1, m2, m4] at hr
        rcases hk with rfl | rfl | rfl | rfl | rfl <;> simp [a2', bne, gleave_free, hr]
    · have a1' : (thing == 0) = false := by simpa using a1
      simp [a1, i1, m1, m2, m4] at hr
      rcases hk with rfl | rfl | rfl | rfl | rfl <;> simp [a1', bne, gleave_free, hr]
  · have e1 : (kind == 1) = false := by simpa using n1
    have e2 : (kind == 2) = false := by simpa using n2
    have e3 : (kind == 3) = false := by simpa using n3
    have e4 : (kind == 4) = false := by simpa using n4
    have e5 : (kind == 5) = false := by simpa using n5
    have e6 : (kind == 6) = false := by simpa using n6
    have e7 : (kind == 7) = false := by simpa using n7
    have e8 : (kind == 8) = false := by simpa using n8
    simp [hk] at hr
    simp [e1, e2, e3, e4, e5, e6, e7, e8, gleave_free, hr]
end
section
variable {c : Nat} {H : Heap}
def idxI (p : Nat → Bool) : Nat → Nat → Int
 | 0, _ => -1
 | k + 1, i => if p i = true then (i : Int) else idxI p k (i + 1)
theorem idxI_nonneg {p : Nat → Bool} : ∀ {k i : Nat}, 0 ≤ idxI p k i ↔ ∃ j, i ≤ j ∧ j < i + k ∧ p j = true
  | 0, i => by simp [idxI]; intro j h1 h2; omega
  | k + 1, i => by
    unfold idxI
    by_cases h : p i = true
    · simp only [h, if_true]
      exact ⟨fun _ => ⟨i, Nat.le_refl _, by omega, h⟩, fun _ => by omega⟩
    · rw [if_neg h, idxI_nonneg]
      constructor
      · rintro ⟨j, h1, h2, h3⟩
        exact ⟨j, by omega, by omega, h3⟩
      · rintro ⟨j, h1, h2, h3⟩
        rcases Nat.lt_or_ge i j with h4 | h4
        · exact ⟨j, h4, by omega, h3⟩
        · have : j = i := by omega
          subst this; exact absurd h3 h
def act0 : RAct := ⟨0, 0, 0, 0, 0, 0, 0, 0, 0⟩
@[simp] theorem RAct.eta (a : RAct) : (⟨a.at', a.who, a.kind, a.hand, a.thing, a.cell, a.other, a.seasons, a.rank⟩ : RAct) = a := rfl
def pAt (p : RAct → Bool) (l : List RAct) (j : Nat) : Bool := p (l.getD j act0)
theorem pAt_get (p : RAct → Bool) (l : List RAct) (i : Nat) (h : i < l.length) : pAt p l i = p l[i] := by simp [pAt, List.getD_eq_getElem?_getD, h]
theorem idx_loop (l : List RAct) (hn : l.length ≤ 4611686018427387904) (p : RAct → Bool) (g : GV) (hg : ∀ (x : RAct) (c : Nat) (fr : Fr), gcallee KC (geval KC) g [.pure (.agg x.row)] c (fr :: H) = some (.pure (.bool (p x)), fr :: H))
    (hcl : ∀ fr, clean (fr :: H) (H.length - 1) g = g) (Q : GX → GSt → Prop) (hH : 0 < H.length) : ∀ k i : Nat, i + k = l.length →
    (idxI (pAt p l) k i = -1 → Q (.exit 0) ⟨[(4, gdead)], H, 19⟩) → (0 ≤ idxI (pAt p l) k i → Q .ret ⟨[(4, .pure (.int .i64 (idxI (pAt p l) k i)))], H, 19⟩) →
    WPL KC needT 126 (lp Tryz.f126 0) [0, 1, 7, 8] [4] Q [(0, .pure (.slice (l.map RAct.row))), (1, g), (7, .pure (.int .i64 l.length)), (8, .pure (.int .i64 i))] H 19 := by
  intro k
  induction k with
  | zero =>
    intro i hi h1 h2
    apply WPL_step
    conv => arg 4; whnf
    have : ¬ i < l.length := by omega
    simp [this, hH]
    exact h1 rfl
  | succ k ih =>
    intro i hi h1 h2
    have hia : i < l.length := by omega
    have hw := w64 (x := (i : Int) + 1) (by omega) (by omega)
    have ih' := ih (i + 1) (by omega)
    unfold idxI at h1 h2
    rw [pAt_get p l i hia] at h1 h2
    have hg' := hg l[i]
    simp only [RAct.row] at hg'
    apply WPL_step
    conv => arg 4; whnf
    cases hp : p l[i] with
    | true =>
      simp [hp] at h1 h2
      simp [hia, hH, RAct.row, hg', hp]
      exact h2
    | false =>
      simp only [hp, Bool.false_eq_true, if_false] at h1 h2
      simp [hia, hH, RAct.row, hg', hp, hw, hcl]
      have := ih' h1 h2
      simpa [RAct.row] using this
theorem index_ok (l : List RAct) (hn : l.length ≤ 4611686018427387904) (p : RAct → Bool) (g : GV) (hcan : canon g = g) (hfz : ∀ H, frzVal H g = (g, H)) (hg : ∀ (x : RAct) (c : Nat) (f0 fr : Fr), gcallee KC (geval KC) g [.pure (.agg x.row)] c (f0 :: fr :: H) = some (.pure (.bool (p x)), f0 :: fr :: H))
  (hcl : ∀ f0 fr, clean (f0 :: fr :: H) (H.length) g = g) (hH : 0 < H.length) :
  gcall KC (geval KC) 126 [.pure (.slice (l.map RAct.row)), g] c H = some (.pure (.int .i64 (idxI (pAt p l) l.length 0)), H) := by
 refine WPv_eq (call_enter KC needT Tryz.func126 rfl rfl good126 (by simp [frzVals, hfz]) rfl rfl (by simp) hH ?_)
 simp [hcan]
 refine idx_loop (H := [] :: H) l hn p g (fun x c fr => hg x c fr []) (fun fr => by simpa using hcl fr []) _ (by simp) l.length 0 (by omega) (fun h => ?_) (fun h => ?_)
 ·simp [h, gleave_free]
 ·simp [gleave_free]
theorem contains_ok (l : List RAct) (hn : l.length ≤ 4611686018427387904) (p : RAct → Bool) (g : GV) (hcan : canon g = g) (hfz : ∀ H, frzVal H g = (g, H)) (hg : ∀ (x : RAct) (c : Nat) (f0 f1 fr : Fr), gcallee KC (geval KC) g [.pure (.agg x.row)] c (f0 :: f1 :: fr :: H) = some (.pure (.bool (p x)), f0 :: f1 :: fr :: H))
  (hcl : ∀ f0 f1 fr, clean (f0 :: f1 :: fr :: H) (H.length + 1) g = g) (hH : 0 < H.length) :
  gcall KC (geval KC) 90 [.pure (.slice (l.map RAct.row)), g] c H = some (.pure (.bool (l.any p)), H) := by
 refine WPv_eq (call_enter KC needT Tryz.func90 rfl rfl good90 (by simp [frzVals, hfz]) rfl rfl (by simp) hH ?_)
 have I := fun c (fr : Fr) => index_ok (c := c) (H := fr :: H) l hn p g hcan hfz (fun x c f0 f1 => hg x c f0 f1 fr) (fun f0 f1 => by simpa using hcl f0 f1 fr) (by simp)
 have e : (decide (0 ≤ idxI (pAt p l) l.length 0)) = l.any p := by
  rw [Bool.eq_iff_iff, decide_eq_true_eq, idxI_nonneg, List.any_eq_true]
  constructor
  ·rintro ⟨j, _, h2, h3⟩
   have hj : j < l.length := by omega
   exact ⟨l[j], List.getElem_mem hj, by rw [← pAt_get p l j hj]; exact h3⟩
  ·rintro ⟨x, hx, hp⟩
   obtain ⟨j, hj, rfl⟩ := List.getElem_of_mem hx
   exact ⟨j, Nat.zero_le _, by omega, by rw [pAt_get p l j hj]; exact hp⟩
 simp [hcan, I, gleave_free, e]
def abox (a : RAct) : Blk := .box [.pure (.int .i64 a.at'), .pure (.int .i64 a.who), .pure (.int .i64 a.kind), .pure (.int .i64 a.hand), .pure (.int .i64 a.thing), .pure (.int .i64 a.cell), .pure (.int .i64 a.other), .pure (.int .i64 a.seasons), .pure (.int .i64 a.rank)]
def samePM (a b : RAct) : Bool := b.at' == a.at' && b.who == a.who
theorem clash_ok (a b : RAct) {nm : Nm} (hg : H.get nm = some (abox a)) : gcall KC (geval KC) 91 [.pure (.agg b.row), .bptr nm 0] c H = some (.pure (.bool (samePM a b)), H) := by
 have hl : nm.1 < H.length := Heap.get_lt hg
 have hne : ¬ nm.1 = H.length := by omega
 refine WPv_eq (call_enter KC needT Tryz.func91 rfl rfl good91 rfl rfl rfl (by simp) (by omega) ?_)
 unfold abox at hg
 unfold samePM
 cases h1 : (b.at' == a.at') with
 | true => simp [gleave_free, hg, hne, RAct.row, h1]
 | false => simp [gleave_free, hg, hne, RAct.row, h1]
noncomputable def actF : Rite → Nat → Int := hid fun r i =>
 if inB (r.acts.getD i act0).at' 0 1000 = false then 2 else if 0 < i ∧ (r.acts.getD i act0).at' < (r.acts.getD (i - 1) act0).at' then 11
 else if inB (r.acts.getD i act0).who 0 ((r.people.length : Int) - 1) = false then 7 else if (r.acts.take i).any (samePM (r.acts.getD i act0)) = true then 12
 else if fieldsF (topC r.wide r.deep) r.things.length r.people.length (r.acts.getD i act0) ≠ 0 then fieldsF (topC r.wide r.deep) r.things.length r.people.length (r.acts.getD i act0)
 else if inB (r.acts.getD i act0).seasons 0 15 = false ∨ inB (r.acts.getD i act0).rank 0 9 = false then 2 else 0
theorem actF_def (r : Rite) (i : Nat) : actF r i =
 if inB (r.acts.getD i act0).at' 0 1000 = false then 2 else if 0 < i ∧ (r.acts.getD i act0).at' < (r.acts.getD (i - 1) act0).at' then 11
 else if inB (r.acts.getD i act0).who 0 ((r.people.length : Int) - 1) = false then 7 else if (r.acts.take i).any (samePM (r.acts.getD i act0)) = true then 12
 else if fieldsF (topC r.wide r.deep) r.things.length r.people.length (r.acts.getD i act0) ≠ 0 then fieldsF (topC r.wide r.deep) r.things.length r.people.length (r.acts.getD i act0)
 else if inB (r.acts.getD i act0).seasons 0 15 = false ∨ inB (r.acts.getD i act0).rank 0 9 = false then 2 else 0 := by rw [actF, hid_eq]
noncomputable def checkF : Rite → Int := hid fun r => if roomF r ≠ 0 then roomF r else if 40 < r.acts.length then 8 else firstI (actF r) r.acts.length 0
theorem checkF_def (r : Rite) : checkF r = if roomF r ≠ 0 then roomF r else if 40 < r.acts.length then 8 else firstI (actF r) r.acts.length 0 := by rw [checkF, hid_eq]
theorem act_loop (r : Rite) (hl : r.acts.length ≤ 40) (hp : r.people.length ≤ 1000000) (ht : r.things.length ≤ 1000000) (Q : GX → GSt → Prop) : ∀ k i : Nat, i + k = r.acts.length →
    (firstI (actF r) k i = 0 → Q (.exit 0) ⟨[(2, gdead)], [(1, rbox r)] :: H, 77⟩) →
    (firstI (actF r) k i ≠ 0 → Q .ret ⟨[(2, .pure (.int .i64 (firstI (actF r) k i)))], [(1, rbox r)] :: H, 77⟩) →
    WPL KC needT 57 (lp Tryz.f57 0) [1, 17, 18, 19] [2] Q
      [(1, .bptr (H.length, 1) 0), (17, .pure (.slice (r.acts.map RAct.row))), (18, .pure (.int .i64 r.acts.length)), (19, .pure (.int .i64 i))] ([(1, rbox r)] :: H) 77 := by
  intro k
  induction k with
  | zero =>
    intro i hi h1 h2
    apply WPL_step
    conv => arg 4; whnf
    have : ¬ i < r.acts.length := by omega
    simp [this]
    exact h1 rfl
  | succ k ih =>
    intro i hi h1 h2
    have hia : i < r.acts.length := by omega
    have hw := w64 (x := (i : Int) + 1) (by omega) (by omega)
    have hw2 := w64 (x := (i : Int) - 1) (by omega) (by omega)
    have hwp := w64 (x := (r.people.length : Int) - 1) (by omega) (by omega)
    have ih' := ih (i + 1) (by omega)
    unfold firstI at h1 h2
    have hf := actF_def r i
    have hgi : r.acts.getD i act0 = r.acts[i] := by simp [List.getD_eq_getElem?_getD, hia]
    rw [hgi] at hf
    have hile : i ≤ r.acts.length := by omega
    have hmin : min i r.acts.length = i := by omega
    have C := fun (c : Nat) => contains_ok (c := c) (H := [(5, abox r.acts[i])] :: [(1, rbox r)] :: H) (r.acts.take i) (by simp; omega) (samePM r.acts[i]) (.func 91 [] [.bptr (H.length + 1, 5) 0]) rfl (fun _ => rfl) (fun x c f0 f1 fr => by
      rw [gcallee_func]
      exact clash_ok r.acts[i] x (by simp)) (fun f0 f1 fr => by simp) (by simp)
    simp [rbox, abox] at C
    have CF := fun (c : Nat) (H : Heap) (hH : 0 < H.length) => checkFields_ok (c := c) (r := r) (H := H) (q1 := r.acts[i].at') (q2 := r.acts[i].who) (kind := r.acts[i].kind) (hand := r.acts[i].hand) (thing := r.acts[i].thing) (cell := r.acts[i].cell) (other := r.acts[i].other) (q3 := r.acts[i].seasons) (q4 := r.acts[i].rank) hp ht hH
    simp only [RAct.eta, rowR] at CF
    apply WPL_step
    conv => arg 4; whnf
    cases z1 : inB r.acts[i].at' 0 1000 with
    | false =>
      simp [z1] at hf
      simp [hf] at h1 h2
      simp [hia, RAct.row, rbox, in_ok, z1]
      simpa [rbox] using h2
    | true =>
    have ord : (0 < i ∧ r.acts[i].at' < (r.acts.getD (i - 1) act0).at') ∨ ¬ (0 < i ∧ r.acts[i].at' < (r.acts.getD (i - 1) act0).at') := Classical.em _
    have step : ∀ (Q' : Prop), (0 < i → ∀ h : i - 1 < r.acts.length, ¬ ((i : Int) - 1 < 0) → ((i : Int) - 1).toNat = i - 1 → (0 : Int) < i → r.acts.getD (i - 1) act0 = r.acts[i - 1] → Q') → (i = 0 → Q') → Q' := fun Q' a b => by
      by_cases h0 : 0 < i
      · have hi1 : i - 1 < r.acts.length := by omega
        exact a h0 hi1 (by omega) (by omega) (by omega) (by simp [List.getD_eq_getElem?_getD, hi1])
      · exact b (by omega)
    refine step _ (fun h0 hi1 hnn htn h0' hg1 => ?_) (fun h0 => ?_)
    · rw [hg1] at hf
      by_cases z2 : r.acts[i].at' < r.acts[i - 1].at'
      · simp [z1, z2, h0] at hf
        simp [hf] at h1 h2
        simp [hia, RAct.row, rbox, in_ok, z1, h0', hw2, hnn, htn, hi1, z2, h0]
        simpa [rbox] using h2
      · cases z3 : inB r.acts[i].who 0 ((r.people.length : Int) - 1) with
        | false =>
          simp [z1, z2, z3, h0] at hf
          simp [hf] at h1 h2
          simp [hia, RAct.row, rbox, in_ok, z1, h0', hw2, hnn, htn, hi1, z2, hwp, z3, h0]
          simpa [rbox] using h2
        | true =>
        cases z4 : (r.acts.take i).any (samePM r.acts[i]) with
        | true =>
          simp only [z1, z2, z3, z4, and_false, Bool.true_eq_false, if_false, if_true] at hf
          simp [hf] at h1 h2
          simp [hia, RAct.row, rbox, in_ok, z1, h0', hw2, hnn, htn, hi1, z2, hwp, z3, hile, C, z4, h0]
          simpa [rbox] using h2
        | false =>
        by_cases z5 : fieldsF (topC r.wide r.deep) r.things.length r.people.length r.acts[i] = 0
        · cases z6 : inB r.acts[i].seasons 0 15 with
          | false =>
            simp only [z1, z2, z3, z4, z5, z6, and_false, Bool.true_eq_false, Bool.false_eq_true, ne_eq, not_true_eq_false, true_or, if_false, if_true] at hf
            simp [hf] at h1 h2
            simp [hia, RAct.row, rbox, in_ok, z1, h0', hw2, hnn, htn, hi1, z2, hwp, z3, hile, C, z4, CF, z5, z6, h0]
            simpa [rbox] using h2
          | true =>
          cases z7 : inB r.acts[i].rank 0 9 with
          | false =>
            simp only [z1, z2, z3, z4, z5, z6, z7, and_false, Bool.true_eq_false, Bool.false_eq_true, ne_eq, not_true_eq_false, or_true, if_false, if_true] at hf
            simp [hf] at h1 h2
            simp [hia, RAct.row, rbox, in_ok, z1, h0', hw2, hnn, htn, hi1, z2, hwp, z3, hile, C, z4, CF, z5, z6, z7, h0]
            simpa [rbox] using h2
          | true =>
            simp only [z1, z2, z3, z4, z5, z6, z7, and_false, Bool.true_eq_false, Bool.false_eq_true, ne_eq, not_true_eq_false, or_self, if_false, if_true] at hf
            simp [hf] at h1 h2
            simp [hia, RAct.row, rbox, in_ok, z1, h0', hw2, hnn, htn, hi1, z2, hwp, z3, hile, C, z4, CF, z5, z6, z7, hw, h0]
            simpa [rbox, RAct.row] using ih' h1 h2
        · have z5' : (fieldsF (topC r.wide r.deep) r.things.length r.people.length r.acts[i] != 0) = true := by simpa using z5
          simp only [z1, z2, z3, z4, z5, and_false, Bool.true_eq_false, Bool.false_eq_true, ne_eq, not_false_eq_true, if_false, if_true] at hf
          simp [hf, z5] at h1 h2
          simp [hia, RAct.row, rbox, in_ok, z1, h0', hw2, hnn, htn, hi1, z2, hwp, z3, hile, C, z4, CF, z5, z5', h0]
          simpa [rbox] using h2
    · subst h0
      simp at C
      have z4 : (r.acts.take 0).any (samePM r.acts[0]) = false := by simp
      cases z3 : inB r.acts[0].who 0 ((r.people.length : Int) - 1) with
      | false =>
        simp [z1, z3] at hf
        simp [hf] at h1 h2
        simp [hia, RAct.row, rbox, in_ok, z1, hwp, z3]
        simpa [rbox] using h2
      | true =>
      by_cases z5 : fieldsF (topC r.wide r.deep) r.things.length r.people.length r.acts[0] = 0
      · cases z6 : inB r.acts[0].seasons 0 15 with
        | false =>
          simp [z1, z3, z5, z6] at hf
          simp [hf] at h1 h2
          simp [hia, RAct.row, rbox, in_ok, z1, hwp, z3, C, CF, z5, z6]
          simpa [rbox] using h2
        | true =>
        cases z7 : inB r.acts[0].rank 0 9 with
        | false =>
          simp [z1, z3, z5, z6, z7] at hf
          simp [hf] at h1 h2
          simp [hia, RAct.row, rbox, in_ok, z1, hwp, z3, C, CF, z5, z6, z7]
          simpa [rbox] using h2
        | true =>
          simp [z1, z3, z5, z6, z7] at hf
          simp [hf] at h1 h2
          simp [hia, RAct.row, rbox, in_ok, z1, hwp, z3, C, CF, z5, z6, z7, hw]
          simpa [rbox, RAct.row] using ih' h1 h2
      · have z5' : (fieldsF (topC r.wide r.deep) r.things.length r.people.length r.acts[0] != 0) = true := by simpa using z5
        simp [z1, z3, z5] at hf
        simp [hf, z5] at h1 h2
        simp [hia, RAct.row, rbox, in_ok, z1, hwp, z3, C, CF, z5, z5']
        simpa [rbox] using h2
theorem check_ok0 (r : Rite) (h1 : r.seen.length ≤ 1000000) (h2 : r.lapses.length ≤ 1000000) (h3 : r.people.length ≤ 1000000) (h4 : r.things.length ≤ 1000000) (h5 : r.acts.length ≤ 1000000) (hH : 0 < H.length) :
  gcall0 KC (geval KC) 57 [.pure (.agg r.row)] c H = some (.pure (.int .i64 (checkF r)), H) := by
 refine WPv_eq (call_enter0 KC needT Tryz.func57 rfl rfl good57 (by simp) hH ?_)
 have hr := checkF_def r
 have R := fun c (H : Heap) (hH : 0 < H.length) => checkRoom_ok (c := c) (H := H) r h1 h2 h3 h4 hH
 rw [rowR] at R ⊢
 by_cases z1 : roomF r = 0
 ·by_cases z2 : 40 < r.acts.length
  ·have z2' : (40 : Int) < r.acts.length := by omega
   simp [z1, z2] at hr
   simp [R, z1, z2, z2', gleave_free, hr]
  ·have z2' : ¬ (40 : Int) < r.acts.length := by omega
   simp only [z1, z2, ne_eq, not_true_eq_false, if_false] at hr
   simp [R, z1, z2, z2']
   have L := fun Q => act_loop (H := H) r (by omega) h3 h4 Q r.acts.length 0 (by omega)
   simp [rbox] at L
   refine L _ (fun h => ?_) (fun h => ?_)
   ·simp [h] at hr
    simp [gleave_free, hr]
   ·simp [gleave_free, hr]
 ·have z1' : (roomF r != 0) = true := by simpa using z1
  simp [z1] at hr
  simp [R, z1, z1', gleave_free, hr]
theorem check_ok (r : Rite) (h1 : r.seen.length ≤ 1000000) (h2 : r.lapses.length ≤ 1000000) (h3 : r.people.length ≤ 1000000) (h4 : r.things.length ≤ 1000000) (h5 : r.acts.length ≤ 1000000) (hH : 0 < H.length) :
  gcall KC (geval KC) 57 [.pure (.agg r.row)] c H = some (.pure (.int .i64 (checkF r)), H) := bor_c rfl rfl rfl rfl rfl hH fun H hH => check_ok0 r h1 h2 h3 h4 h5 hH
end
section
variable {c : Nat} {H : Heap}
theorem handy_ok {k : Int} (hH : 0 < H.length) : gcall KC (geval KC) 82 [.pure (.int .i64 k)] c H = some (.pure (.bool (k != 1)), H) := by
 refine bor_c rfl rfl rfl rfl rfl hH fun H hH => ?_
 refine WPv_eq (call_enter0 KC needT Tryz.func82 rfl rfl good82 (by simp) hH ?_)
 simp [gleave_free]
theorem checkKind_ok {r : Rite} {q1 q2 kind hand thing cell other q3 q4 : Int} (h1 : r.people.length ≤ 1000000) (h2 : r.things.length ≤ 1000000) (hH : 0 < H.length) :
    gcall KC (geval KC) 76 [.pure (.agg r.row), .pure (.agg [.int .i64 q1, .int .i64 q2, .int .i64 kind, .int .i64 hand, .int .i64 thing, .int .i64 cell, .int .i64 other, .int .i64 q3, .int .i64 q4])] c H =
      some (.pure (.int .i64 (fieldsF (topC r.wide r.deep) r.things.length r.people.length ⟨q1, q2, kind, hand, thing, cell, other, q3, q4⟩)), H) := by
  refine bor_c rfl rfl rfl rfl rfl hH fun H hH => ?_
  refine WPv_eq (call_enter0 KC needT Tryz.func76 rfl rfl good76 (by simp) hH ?_)
  have hr := fieldsF_def (topC r.wide r.deep) r.things.length r.people.length ⟨q1, q2, kind, hand, thing, cell, other, q3, q4⟩
  simp only [formB] at hr
  rw [rowR]
  have w1 := w64 (x := (r.people.length : Int) - 1) (by omega) (by omega)
  have w2 := w64 (x := (r.things.length : Int) - 1) (by omega) (by omega)
  have i0 : inB 0 0 1 = true := rfl
  rcases kind_cases kind with rfl | rfl | rfl | hk | ⟨hk, n1, n2, n3, n4, n5, n6, n7, n8⟩
  · have i1 : inB 1 1 8 = true := rfl
    by_cases a1 : hand = 0
    · by_cases a2 : thing = 0
      · by_cases a3 : other = 0
        · subst a1; subst a2; subst a3
          cases a4 : inB cell 0 (topC r.wide r.deep) with
          | false =>
            simp [a4, i1, i0] at hr
            simp [within_ok, handy_ok, cell_ok, a4, i1, gleave_free, hr]
          | true =>
            simp [a4, i1, i0] at hr
            simp [within_ok, handy_ok, cell_ok, a4, i0, i1, gleave_free, hr]
        · have a3' : (other == 0) = false := by simpa using a3
          subst a1; subst a2
          simp [a3, i1] at hr
          simp [within_ok, handy_ok, i1, a3', bne, gleave_free, hr]
      · have a2' : (thing == 0) = false := by simpa using a2
        subst a1
        simp [a2, i1] at hr
        simp [within_ok, handy_ok, i1, a2', bne, gleave_free, hr]
    · have a1' : (hand == 0) = false := by simpa using a1
      simp [a1, i1] at hr
      simp [within_ok, handy_ok, i1, a1', bne, gleave_free, hr]
  · have i1 : inB 2 1 8 = true := rfl
    by_cases a1 : cell = 0
    · by_cases a2 : other = 0
      · subst a1; subst a2
        cases a3 : inB hand 0 1 with
        | false =>
          simp [a3, i1] at hr
          simp [within_ok, handy_ok, i1, a3, gleave_free, hr]
        | true =>
          cases a4 : inB thing 0 ((r.things.length : Int) - 1) with
          | false =>
            simp [a3, a4, i1] at hr
            simp [within_ok, handy_ok, i1, a3, a4, w2, gleave_free, hr]
          | true =>
            simp [a3, a4, i1] at hr
            simp [within_ok, handy_ok, i1, a3, a4, w2, gleave_free, hr]
      · have a2' : (other == 0) = false := by simpa using a2
        subst a1
        simp [a2, i1] at hr
        simp [within_ok, handy_ok, i1, a2', bne, gleave_free, hr]
    · have a1' : (cell == 0) = false := by simpa using a1
      simp [a1, i1] at hr
      simp [within_ok, handy_ok, i1, a1', bne, gleave_free, hr]
  · have i1 : inB 4 1 8 = true := rfl
    by_cases a1 : thing = 0
    · by_cases a2 : cell = 0
      · subst a1; subst a2
        cases a3 : inB hand 0 1 with
        | false =>
          simp [a3, i1] at hr
          simp [within_ok, handy_ok, i1, a3, gleave_free, hr]
        | true =>
          cases a4 : inB other 0 ((r.people.length : Int) - 1) with
          | false =>
            simp [a3, a4, i1] at hr
            simp [within_ok, handy_ok, i1, a3, a4, w1, gleave_free, hr]
          | true =>
            by_cases a5 : other = q2
            · subst a5
              simp [a3, a4, i1] at hr
              simp [within_ok, handy_ok, i1, a3, a4, w1, gleave_free, hr]
            · have a5' : (other == q2) = false := by simpa using a5
              simp [a3, a4, a5, i1] at hr
              simp [within_ok, handy_ok, i1, a3, a4, a5', w1, gleave_free, hr]
      · have a2' : (cell == 0) = false := by simpa using a2
        subst a1
        simp [a2, i1] at hr
        simp [within_ok, handy_ok, i1, a2', bne, gleave_free, hr]
    · have a1' : (thing == 0) = false := by simpa using a1
      simp [a1, i1] at hr
      simp [within_ok, handy_ok, i1, a1', bne, gleave_free, hr]
  · have i1 : inB kind 1 8 = true := by simp [inB]; omega
    have m1 : kind ≠ 1 := by omega
    have m2 : kind ≠ 2 := by omega
    have m4 : kind ≠ 4 := by omega
    have m1' : (kind == 1) = false := by simpa using m1
    have m2' : (kind == 2) = false := by simpa using m2
    have m4' : (kind == 4) = false := by simpa using m4
    by_cases a1 : thing = 0
    · by_cases a2 : cell = 0
      · by_cases a3 : other = 0
        · subst a1; subst a2; subst a3
          cases a4 : inB hand 0 1 with
          | false =>
            simp [a4, i1, m1, m2, m4] at hr
            simp [within_ok, handy_ok, i1, m1', m2', m4', bne, a4, gleave_free, hr]
          | true =>
            simp [a4, i1, m1, m2, m4] at hr
            simp [within_ok, handy_ok, i1, m1', m2', m4', bne, a4, gleave_free, hr]
        · have a3' : (other == 0) = false := by simpa using a3
          subst a1; subst a2
          simp [a3, i1, m1, m2, m4] at hr
          simp [within_ok, handy_ok, i1, m1', m2', m4', bne, a3', gleave_free, hr]
      · have a2' : (cell == 0) = false := by simpa using a2
        subst a1
        simp [a2, i1, m1, m2, m4] at hr
        simp [within_ok, handy_ok, i1, m1', m2', m4', bne, a2', gleave_free, hr]
    · have a1' : (thing == 0) = false := by simpa using a1
      simp [a1, i1, m1, m2, m4] at hr
      simp [within_ok, handy_ok, i1, m1', m2', m4', bne, a1', gleave_free, hr]
  · simp [hk] at hr
    simp [within_ok, hk, gleave_free, hr]
theorem sameR_loop (r : Rite) (n : Nat) (hn : n ≤ r.people.length) (hl : r.people.length ≤ 4) (p : Person) (Q : GX → GSt → Prop) (f0 : Fr) (hf0 : f0 = [(4, .box [.pure (.int .i64 p.role), .pure (.int .i64 p.cell)])]) :
    ∀ k i : Nat, i + k = n → sameCell r.people i p.cell = false →
    (sameCell r.people n p.cell = false → Q (.exit 2) ⟨[(1, .bptr (H.length, 1) 0), (2, gdead), (3, .pure (.int .i64 n))], f0 :: [(1, rbox r)] :: H, 49⟩) →
    (sameCell r.people n p.cell = true → Q .ret ⟨[(1, .bptr (H.length, 1) 0), (2, .pure (.int .i64 12)), (3, .pure (.int .i64 n))], f0 :: [(1, rbox r)] :: H, 49⟩) →
    WPL KC needT 95 (lp Tryz.f95 1) [1, 3, 4, 5] [1, 2, 3] Q
      [(1, .bptr (H.length, 1) 0), (3, .pure (.int .i64 n)), (4, .bptr (H.length + 1, 4) 0), (5, .pure (.int .i64 i))] (f0 :: [(1, rbox r)] :: H) 49 := by
  subst hf0
  intro k
  induction k with
  | zero =>
    intro i hi hs h1 h2
    have e : i = n := by omega
    subst e
    apply WPL_step
    conv => arg 4; whnf
    simp [rbox]
    exact h1 hs
  | succ k ih =>
    intro i hi hs h1 h2
    have hin : i < n := by omega
    have hil : i < r.people.length := by omega
    have hw := w64 (x := (i : Int) + 1) (by omega) (by omega)
    have hs1 := sameCell_succ r.people i hil p.cell
    apply WPL_step
    conv => arg 4; whnf
    by_cases he : r.people[i].cell = p.cell
    · have ht : sameCell r.people n p.cell = true := by
        unfold sameCell
        rw [List.any_eq_true]
        exact ⟨r.people[i], List.mem_take_iff_getElem.2 ⟨i, by omega, rfl⟩, by simp [he]⟩
      simp [hin, hil, hw, rbox, Person.row, he]
      exact h2 ht
    · have hs' : sameCell r.people (i + 1) p.cell = false := by rw [hs1, hs]; simpa using he
      have he' : (r.people[i].cell == p.cell) = false := by simpa using he
      simp [hin, hil, hw, rbox, Person.row, he']
      simpa [rbox] using ih (i + 1) (by omega) hs' h1 h2
theorem personR_loop (r : Rite) (hl : r.people.length ≤ 4) (Q : GX → GSt → Prop) : ∀ k i : Nat, i + k = r.people.length →
    (firstI (personF (topC r.wide r.deep) r.people) k i = 0 → Q (.exit 0) ⟨[(2, gdead)], [(1, rbox r)] :: H, 49⟩) →
    (firstI (personF (topC r.wide r.deep) r.people) k i ≠ 0 → Q .ret ⟨[(2, .pure (.int .i64 (firstI (personF (topC r.wide r.deep) r.people) k i)))], [(1, rbox r)] :: H, 49⟩) →
    WPL KC needT 95 (lp Tryz.f95 0) [1, 3] [2] Q
      [(1, .bptr (H.length, 1) 0), (3, .pure (.int .i64 i))] ([(1, rbox r)] :: H) 49 := by
  intro k
  induction k with
  | zero =>
    intro i hi h1 h2
    apply WPL_step
    conv => arg 4; whnf
    have : ¬ i < r.people.length := by omega
    simp [this, rbox]
    exact h1 rfl
  | succ k ih =>
    intro i hi h1 h2
    have hia : i < r.people.length := by omega
    have hw := w64 (x := (i : Int) + 1) (by omega) (by omega)
    have ih' := ih (i + 1) (by omega)
    unfold firstI at h1 h2
    have hf := personF_def (topC r.wide r.deep) r.people i
    have hgi : r.people.getD i ⟨0, 0⟩ = r.people[i] := by simp [List.getD_eq_getElem?_getD, hia]
    rw [hgi] at hf
    apply WPL_step
    conv => arg 4; whnf
    by_cases h3 : inB r.people[i].role 1 3 = true
    · by_cases h4 : inB r.people[i].cell 0 (topC r.wide r.deep) = true
      · simp [hia, Person.row, rbox, within_ok, cell_ok, h3, h4]
        have L := fun Q => sameR_loop (H := H) r i (by omega) hl r.people[i] Q _ rfl i 0 (by omega) (by simp [sameCell])
        simp [rbox] at L
        refine L _ (fun h5 => ?_) (fun h5 => ?_)
        · simp [h3, h4, h5] at hf
          simp [hf] at h1 h2
          simp [hw]
          simpa [rbox] using ih' h1 h2
        · simp [h3, h4, h5] at hf
          simp [hf] at h1 h2
          simp
          simpa [rbox] using h2
      · have h4' : inB r.people[i].cell 0 (topC r.wide r.deep) = false := by simpa using h4
        simp [h3, h4'] at hf
        simp [hf] at h1 h2
        simp [hia, Person.row, rbox, within_ok, cell_ok, h3, h4']
        simpa [rbox] using h2
    · have h3' : inB r.people[i].role 1 3 = false := by simpa using h3
      simp [h3'] at hf
      simp [hf] at h1 h2
      simp [hia, Person.row, rbox, within_ok, cell_ok, h3']
      simpa [rbox] using h2
noncomputable def peopleF : Rite → Int := hid fun r => if r.people.length = 0 then 6 else if 4 < r.people.length then 8 else firstI (personF (topC r.wide r.deep) r.people) r.people.length 0
theorem peopleF_def (r : Rite) : peopleF r = if r.people.length = 0 then 6 else if 4 < r.people.length then 8 else firstI (personF (topC r.wide r.deep) r.people) r.people.length 0 := by rw [peopleF, hid_eq]
theorem checkPeople_ok (r : Rite) (hH : 0 < H.length) :
  gcall KC (geval KC) 95 [.pure (.agg r.row)] c H = some (.pure (.int .i64 (peopleF r)), H) := by
 refine bor_c rfl rfl rfl rfl rfl hH fun H hH => ?_
 refine WPv_eq (call_enter0 KC needT Tryz.func95 rfl rfl good95 (by simp) hH ?_)
 have hr := peopleF_def r
 rw [rowR]
 by_cases e3 : r.people.length = 0
 ·have e3' : r.people = [] := List.length_eq_zero_iff.1 e3
  simp [e3, e3'] at hr
  simp [e3, e3', gleave_free, hr]
 have e3' : ((r.people.length : Int) == 0) = false := beq_eq_false_iff_ne.2 (by omega)
 by_cases e4 : 4 < r.people.length
 ·have e4' : (4 : Int) < r.people.length := by omega
  simp [e3, e4] at hr
  simp [e3, e3', e4, e4', gleave_free, hr]
 have e4' : ¬ (4 : Int) < r.people.length := by omega
 simp only [e3, e4, if_false] at hr
 simp [e3, e3', e4, e4']
 have L := fun Q => personR_loop (H := H) r (by omega) Q r.people.length 0 (by omega)
 simp [rbox] at L
 refine L _ (fun z1 => ?_) (fun z1 => ?_)
 ·simp [z1] at hr
  simp [gleave_free, hr]
 ·simp [gleave_free, hr]
end
section
variable {c : Nat} {H : Heap}
theorem thingR_loop (r : Rite) (hl : r.things.length ≤ 8) (Q : GX → GSt → Prop) : ∀ k i : Nat, i + k = r.things.length →
    (firstI (thingF (topC r.wide r.deep) r.things) k i = 0 → Q (.exit 0) ⟨[(1, .bptr (H.length, 1) 0), (2, gdead)], [(1, rbox r)] :: H, 106⟩) →
    (firstI (thingF (topC r.wide r.deep) r.things) k i ≠ 0 → Q .ret ⟨[(1, .bptr (H.length, 1) 0), (2, .pure (.int .i64 (firstI (thingF (topC r.wide r.deep) r.things) k i)))], [(1, rbox r)] :: H, 106⟩) →
    WPL KC needT 96 (lp Tryz.f96 0) [1, 3] [1, 2] Q
      [(1, .bptr (H.length, 1) 0), (3, .pure (.int .i64 i))] ([(1, rbox r)] :: H) 106 := by
  intro k
  induction k with
  | zero =>
    intro i hi h1 h2
    apply WPL_step
    conv => arg 4; whnf
    have : ¬ i < r.things.length := by omega
    simp [this, rbox]
    exact h1 rfl
  | succ k ih =>
    intro i hi h1 h2
    have hia : i < r.things.length := by omega
    have hw := w64 (x := (i : Int) + 1) (by omega) (by omega)
    have ih' := ih (i + 1) (by omega)
    unfold firstI at h1 h2
    have hf := thingF_def (topC r.wide r.deep) r.things i
    have hgi : r.things.getD i ⟨0, 0, 0, 0, false⟩ = r.things[i] := by simp [List.getD_eq_getElem?_getD, hia]
    rw [hgi] at hf
    apply WPL_step
    conv => arg 4; whnf
    cases h3 : inB r.things[i].cell 0 (topC r.wide r.deep) with
    | false =>
      simp [h3] at hf
      simp [hf] at h1 h2
      simp [hia, Thing.row, rbox, within_ok, cell_ok, h3]
      simpa [rbox] using h2
    | true =>
      cases h4 : inB r.things[i].home 0 (topC r.wide r.deep) with
      | false =>
        simp [h3, h4] at hf
        simp [hf] at h1 h2
        simp [hia, Thing.row, rbox, within_ok, cell_ok, h3, h4]
        simpa [rbox] using h2
      | true =>
        cases h5 : inB r.things[i].state 0 15 with
        | false =>
          simp [h3, h4, h5] at hf
          simp [hf] at h1 h2
          simp [hia, Thing.row, rbox, within_ok, cell_ok, h3, h4, h5]
          simpa [rbox] using h2
        | true =>
          cases h6 : inB r.things[i].want 0 15 with
          | false =>
            simp [h3, h4, h5, h6] at hf
            simp [hf] at h1 h2
            simp [hia, Thing.row, rbox, within_ok, cell_ok, h3, h4, h5, h6]
            simpa [rbox] using h2
          | true =>
            simp [h3, h4, h5, h6] at hf
            simp [hf] at h1 h2
            simp [hia, Thing.row, rbox, within_ok, cell_ok, h3, h4, h5, h6, hw]
            simpa [rbox] using ih' h1 h2
theorem seenR_loop (r : Rite) (hl : r.seen.length ≤ 1000000) (Q : GX → GSt → Prop) : ∀ k i : Nat, i + k = r.seen.length →
    (firstI (ascF (fun x => inB x 0 (topC r.wide r.deep)) 7 r.seen) k i = 0 → Q (.exit 2) ⟨[(1, .bptr (H.length, 1) 0), (2, gdead)], [(1, rbox r)] :: H, 106⟩) →
    (firstI (ascF (fun x => inB x 0 (topC r.wide r.deep)) 7 r.seen) k i ≠ 0 → Q .ret ⟨[(1, .bptr (H.length, 1) 0), (2, .pure (.int .i64 (firstI (ascF (fun x => inB x 0 (topC r.wide r.deep)) 7 r.seen) k i)))], [(1, rbox r)] :: H, 106⟩) →
    WPL KC needT 96 (lp Tryz.f96 1) [1, 5] [1, 2] Q
      [(1, .bptr (H.length, 1) 0), (5, .pure (.int .i64 i))] ([(1, rbox r)] :: H) 106 := by
  intro k
  induction k with
  | zero =>
    intro i hi h1 h2
    apply WPL_step
    conv => arg 4; whnf
    have : ¬ i < r.seen.length := by omega
    simp [this, rbox]
    exact h1 rfl
  | succ k ih =>
    intro i hi h1 h2
    have hia : i < r.seen.length := by omega
    have hw := w64 (x := (i : Int) + 1) (by omega) (by omega)
    have hw2 := w64 (x := (i : Int) - 1) (by omega) (by omega)
    have ih' := ih (i + 1) (by omega)
    unfold firstI at h1 h2
    have hf := ascF_def (fun x => inB x 0 (topC r.wide r.deep)) 7 r.seen i
    have hgi : r.seen.getD i 0 = r.seen[i] := by simp [List.getD_eq_getElem?_getD, hia]
    rw [hgi] at hf
    apply WPL_step
    conv => arg 4; whnf
    cases hp : inB r.seen[i] 0 (topC r.wide r.deep) with
    | true =>
      by_cases h0 : 0 < i
      · have h0' : (0 : Int) < i := by omega
        have hi1 : i - 1 < r.seen.length := by omega
        have hgi1 : r.seen.getD (i - 1) 0 = r.seen[i - 1] := by simp [List.getD_eq_getElem?_getD, hi1]
        have hnn : ¬ (i : Int) - 1 < 0 := by omega
        have htn : ((i : Int) - 1).toNat = i - 1 := by omega
        rw [hgi1] at hf
        by_cases hle : r.seen[i] ≤ r.seen[i - 1]
        · simp [hp, h0, hle] at hf
          simp [hf] at h1 h2
          simp [hia, rbox, irow, cell_ok, hp, hw, hw2, h0, h0', hnn, htn, hi1, hle]
          simpa [rbox, irow] using h2
        · simp [hp, h0, hle] at hf
          simp [hf] at h1 h2
          simp [hia, rbox, irow, cell_ok, hp, hw, hw2, h0, h0', hnn, htn, hi1, hle]
          simpa [rbox, irow] using ih' h1 h2
      · have h00 : i = 0 := by omega
        simp [hp, h0] at hf
        simp [hf] at h1 h2
        subst h00
        simp [hia, rbox, irow, cell_ok, hp, hw]
        simpa [rbox, irow] using ih' h1 h2
    | false =>
      simp [hp] at hf
      simp [hf] at h1 h2
      simp [hia, rbox, irow, cell_ok, hp]
      simpa [rbox, irow] using h2
theorem lapseR_loop (r : Rite) (hl : r.lapses.length ≤ 1000000) (Q : GX → GSt → Prop) : ∀ k i : Nat, i + k = r.lapses.length →
    (firstI (ascF (fun x => inB x 1 3) 4 r.lapses) k i = 0 → Q (.exit 4) ⟨[(2, gdead)], [(1, rbox r)] :: H, 106⟩) →
    (firstI (ascF (fun x => inB x 1 3) 4 r.lapses) k i ≠ 0 → Q .ret ⟨[(2, .pure (.int .i64 (firstI (ascF (fun x => inB x 1 3) 4 r.lapses) k i)))], [(1, rbox r)] :: H, 106⟩) →
    WPL KC needT 96 (lp Tryz.f96 2) [1, 6] [2] Q
      [(1, .bptr (H.length, 1) 0), (6, .pure (.int .i64 i))] ([(1, rbox r)] :: H) 106 := by
  intro k
  induction k with
  | zero =>
    intro i hi h1 h2
    apply WPL_step
    conv => arg 4; whnf
    have : ¬ i < r.lapses.length := by omega
    simp [this, rbox]
    exact h1 rfl
  | succ k ih =>
    intro i hi h1 h2
    have hia : i < r.lapses.length := by omega
    have hw := w64 (x := (i : Int) + 1) (by omega) (by omega)
    have hw2 := w64 (x := (i : Int) - 1) (by omega) (by omega)
    have ih' := ih (i + 1) (by omega)
    unfold firstI at h1 h2
    have hf := ascF_def (fun x => inB x 1 3) 4 r.lapses i
    have hgi : r.lapses.getD i 0 = r.lapses[i] := by simp [List.getD_eq_getElem?_getD, hia]
    rw [hgi] at hf
    apply WPL_step
    conv => arg 4; whnf
    cases hp : inB r.lapses[i] 1 3 with
    | true =>
      by_cases h0 : 0 < i
      · have h0' : (0 : Int) < i := by omega
        have hi1 : i - 1 < r.lapses.length := by omega
        have hgi1 : r.lapses.getD (i - 1) 0 = r.lapses[i - 1] := by simp [List.getD_eq_getElem?_getD, hi1]
        have hnn : ¬ (i : Int) - 1 < 0 := by omega
        have htn : ((i : Int) - 1).toNat = i - 1 := by omega
        rw [hgi1] at hf
        by_cases hle : r.lapses[i] ≤ r.lapses[i - 1]
        · simp [hp, h0, hle] at hf
          simp [hf] at h1 h2
          simp [hia, rbox, irow, within_ok, hp, hw, hw2, h0, h0', hnn, htn, hi1, hle]
          simpa [rbox, irow] using h2
        · simp [hp, h0, hle] at hf
          simp [hf] at h1 h2
          simp [hia, rbox, irow, within_ok, hp, hw, hw2, h0, h0', hnn, htn, hi1, hle]
          simpa [rbox, irow] using ih' h1 h2
      · have h00 : i = 0 := by omega
        simp [hp, h0] at hf
        simp [hf] at h1 h2
        subst h00
        simp [hia, rbox, irow, within_ok, hp, hw]
        simpa [rbox, irow] using ih' h1 h2
    | false =>
      simp [hp] at hf
      simp [hf] at h1 h2
      simp [hia, rbox, irow, within_ok, hp]
      simpa [rbox, irow] using h2
noncomputable def thingsF : Rite → Int := hid fun r =>
 if 8 < r.things.length then 8 else if firstI (thingF (topC r.wide r.deep) r.things) r.things.length 0 ≠ 0 then firstI (thingF (topC r.wide r.deep) r.things) r.things.length 0
 else if firstI (ascF (fun x => inB x 0 (topC r.wide r.deep)) 7 r.seen) r.seen.length 0 ≠ 0 then firstI (ascF (fun x => inB x 0 (topC r.wide r.deep)) 7 r.seen) r.seen.length 0
 else firstI (ascF (fun x => inB x 1 3) 4 r.lapses) r.lapses.length 0
theorem thingsF_def (r : Rite) : thingsF r =
 if 8 < r.things.length then 8 else if firstI (thingF (topC r.wide r.deep) r.things) r.things.length 0 ≠ 0 then firstI (thingF (topC r.wide r.deep) r.things) r.things.length 0
 else if firstI (ascF (fun x => inB x 0 (topC r.wide r.deep)) 7 r.seen) r.seen.length 0 ≠ 0 then firstI (ascF (fun x => inB x 0 (topC r.wide r.deep)) 7 r.seen) r.seen.length 0
 else firstI (ascF (fun x => inB x 1 3) 4 r.lapses) r.lapses.length 0 := by rw [thingsF, hid_eq]
theorem checkThings_ok (r : Rite) (h1 : r.seen.length ≤ 1000000) (h2 : r.lapses.length ≤ 1000000) (hH : 0 < H.length) :
  gcall KC (geval KC) 96 [.pure (.agg r.row)] c H = some (.pure (.int .i64 (thingsF r)), H) := by
 refine bor_c rfl rfl rfl rfl rfl hH fun H hH => ?_
 refine WPv_eq (call_enter0 KC needT Tryz.func96 rfl rfl good96 (by simp) hH ?_)
 have hr := thingsF_def r
 rw [rowR]
 by_cases e5 : 8 < r.things.length
 ·have e5' : (8 : Int) < r.things.length := by omega
  simp [e5] at hr
  simp [e5', e5, gleave_free, hr]
 have e5' : ¬ (8 : Int) < r.things.length := by omega
 simp only [e5, if_false] at hr
 simp [e5', e5]
 have L2 := fun Q => thingR_loop (H := H) r (by omega) Q r.things.length 0 (by omega)
 simp [rbox] at L2
 refine L2 _ (fun z2 => ?_) (fun z2 => ?_)
 ·simp only [z2, ne_eq, not_true_eq_false, if_false] at hr
  simp
  have L3 := fun Q => seenR_loop (H := H) r (by omega) Q r.seen.length 0 (by omega)
  simp [rbox] at L3
  refine L3 _ (fun z3 => ?_) (fun z3 => ?_)
  ·simp only [z3, not_true_eq_false, if_false] at hr
   simp
   have L4 := fun Q => lapseR_loop (H := H) r (by omega) Q r.lapses.length 0 (by omega)
   simp [rbox] at L4
   refine L4 _ (fun z4 => ?_) (fun z4 => ?_)
   ·simp [z4] at hr
    simp [gleave_free, hr]
   ·simp [gleave_free, hr]
  ·simp [z3] at hr
   simp [gleave_free, hr]
 ·simp [z2] at hr
  simp [gleave_free, hr]
end
section
variable {c : Nat} {H : Heap}
@[simp] theorem clean_dead {l0 : Nat} : clean H l0 gdead = gdead := .trans rfl rfl
theorem any_take_succ {α : Type} (p : α → Bool) (l : List α) (i : Nat) (h : i < l.length) : (l.take (i + 1)).any p = ((l.take i).any p || p l[i]) := by
 rw [List.take_succ_eq_append_getElem h, List.any_append]
 simp
theorem any_take_hit {α : Type} (p : α → Bool) (l : List α) (i n : Nat) (h : i < l.length) (hin : i < n) (hp : p l[i] = true) : (l.take n).any p = true := by
 rw [List.any_eq_true]
 exact ⟨l[i], List.mem_take_iff_getElem.2 ⟨i, by omega, rfl⟩, hp⟩
theorem clashR_loop (r : Rite) (n : Nat) (hn : n ≤ r.acts.length) (hl : r.acts.length ≤ 40) (a : RAct) (Q : GX → GSt → Prop) (f0 : Fr) (hf0 : f0 = [(4, abox a)]) :
    ∀ k i : Nat, i + k = n → (r.acts.take i).any (samePM a) = false →
    ((r.acts.take n).any (samePM a) = false → Q (.exit 2) ⟨[(1, .bptr (H.length, 1) 0), (2, gdead), (3, .pure (.int .i64 n)), (4, .bptr (H.length + 1, 4) 0)], f0 :: [(1, rbox r)] :: H, 90⟩) →
    ((r.acts.take n).any (samePM a) = true → Q .ret ⟨[(1, .bptr (H.length, 1) 0), (2, .pure (.int .i64 12)), (3, .pure (.int .i64 n)), (4, .bptr (H.length + 1, 4) 0)], f0 :: [(1, rbox r)] :: H, 90⟩) →
    WPL KC needT 97 (lp Tryz.f97 1) [1, 3, 4, 5] [1, 2, 3, 4] Q
      [(1, .bptr (H.length, 1) 0), (3, .pure (.int .i64 n)), (4, .bptr (H.length + 1, 4) 0), (5, .pure (.int .i64 i))] (f0 :: [(1, rbox r)] :: H) 90 := by
  subst hf0
  intro k
  induction k with
  | zero =>
    intro i hi hs h1 h2
    have e : i = n := by omega
    subst e
    apply WPL_step
    conv => arg 4; whnf
    simp [rbox, abox]
    simpa [rbox, abox] using h1 hs
  | succ k ih =>
    intro i hi hs h1 h2
    have hin : i < n := by omega
    have hil : i < r.acts.length := by omega
    have hw := w64 (x := (i : Int) + 1) (by omega) (by omega)
    have hs1 := any_take_succ (samePM a) r.acts i hil
    have hh := any_take_hit (samePM a) r.acts i n hil hin
    have hd : samePM a r.acts[i] = (r.acts[i].at' == a.at' && r.acts[i].who == a.who) := rfl
    apply WPL_step
    conv => arg 4; whnf
    cases z1 : (r.acts[i].at' == a.at') with
    | false =>
      have hs' : (r.acts.take (i + 1)).any (samePM a) = false := by rw [hs1, hs, hd, z1]; rfl
      simp [hin, hil, hw, rbox, abox, RAct.row, z1]
      simpa [rbox, abox, RAct.row] using ih (i + 1) (by omega) hs' h1 h2
    | true =>
      cases z2 : (r.acts[i].who == a.who) with
      | false =>
        have hs' : (r.acts.take (i + 1)).any (samePM a) = false := by rw [hs1, hs, hd, z1, z2]; rfl
        simp [hin, hil, hw, rbox, abox, RAct.row, z1, z2]
        simpa [rbox, abox, RAct.row] using ih (i + 1) (by omega) hs' h1 h2
      | true =>
        have ht : (r.acts.take n).any (samePM a) = true := hh (by rw [hd, z1, z2]; rfl)
        simp [hin, hil, hw, rbox, abox, RAct.row, z1, z2]
        simpa [rbox, abox, RAct.row] using h2 ht
theorem actR_loop (r : Rite) (hl : r.acts.length ≤ 40) (hp : r.people.length ≤ 1000000) (ht : r.things.length ≤ 1000000) (Q : GX → GSt → Prop) : ∀ k i : Nat, i + k = r.acts.length →
    (firstI (actF r) k i = 0 → Q (.exit 0) ⟨[(2, gdead)], [(1, rbox r)] :: H, 90⟩) →
    (firstI (actF r) k i ≠ 0 → Q .ret ⟨[(2, .pure (.int .i64 (firstI (actF r) k i)))], [(1, rbox r)] :: H, 90⟩) →
    WPL KC needT 97 (lp Tryz.f97 0) [1, 3] [2] Q
      [(1, .bptr (H.length, 1) 0), (3, .pure (.int .i64 i))] ([(1, rbox r)] :: H) 90 := by
  intro k
  induction k with
  | zero =>
    intro i hi h1 h2
    apply WPL_step
    conv => arg 4; whnf
    have : ¬ i < r.acts.length := by omega
    simp [this, rbox]
    exact h1 rfl
  | succ k ih =>
    intro i hi h1 h2
    have hia : i < r.acts.length := by omega
    have hw := w64 (x := (i : Int) + 1) (by omega) (by omega)
    have hw2 := w64 (x := (i : Int) - 1) (by omega) (by omega)
    have hwp := w64 (x := (r.people.length : Int) - 1) (by omega) (by omega)
    have ih' := ih (i + 1) (by omega)
    unfold firstI at h1 h2
    have hf := actF_def r i
    have hgi : r.acts.getD i act0 = r.acts[i] := by simp [List.getD_eq_getElem?_getD, hia]
    rw [hgi] at hf
    have CF := fun (c : Nat) (H : Heap) (hH : 0 < H.length) => checkKind_ok (c := c) (r := r) (H := H) (q1 := r.acts[i].at') (q2 := r.acts[i].who) (kind := r.acts[i].kind) (hand := r.acts[i].hand) (thing := r.acts[i].thing) (cell := r.acts[i].cell) (other := r.acts[i].other) (q3 := r.acts[i].seasons) (q4 := r.acts[i].rank) hp ht hH
    simp only [RAct.eta, rowR] at CF
    have L := fun Q => clashR_loop (H := H) r i (by omega) hl r.acts[i] Q _ rfl i 0 (by omega) (by simp)
    simp only [rbox, abox] at L
    apply WPL_step
    conv => arg 4; whnf
    cases z1 : inB r.acts[i].at' 0 1000 with
    | false =>
      simp [z1] at hf
      simp [hf] at h1 h2
      simp [hia, RAct.row, rbox, within_ok, z1]
      simpa [rbox] using h2
    | true =>
    have tail : ∀ Z : Prop, Z = False → inB r.acts[i].who 0 ((r.people.length : Int) - 1) = true → actF r i = (if (r.acts.take i).any (samePM r.acts[i]) = true then 12
        else if fieldsF (topC r.wide r.deep) r.things.length r.people.length r.acts[i] ≠ 0 then fieldsF (topC r.wide r.deep) r.things.length r.people.length r.acts[i]
        else if inB r.acts[i].seasons 0 15 = false ∨ inB r.acts[i].rank 0 9 = false then 2 else 0) → True := fun _ _ _ _ => trivial
    have step : ∀ (Q' : Prop), (0 < i → ∀ h : i - 1 < r.acts.length, ¬ ((i : Int) - 1 < 0) → ((i : Int) - 1).toNat = i - 1 → (0 : Int) < i → r.acts.getD (i - 1) act0 = r.acts[i - 1] → Q') → (i = 0 → Q') → Q' := fun Q' a b => by
      by_cases h0 : 0 < i
      · have hi1 : i - 1 < r.acts.length := by omega
        exact a h0 hi1 (by omega) (by omega) (by omega) (by simp [List.getD_eq_getElem?_getD, hi1])
      · exact b (by omega)
    refine step _ (fun h0 hi1 hnn htn h0' hg1 => ?_) (fun h0 => ?_)
    · rw [hg1] at hf
      by_cases z2 : r.acts[i].at' < r.acts[i - 1].at'
      · simp [z1, z2, h0] at hf
        simp [hf] at h1 h2
        simp [hia, RAct.row, rbox, within_ok, z1, h0', hw2, hnn, htn, hi1, z2, h0]
        simpa [rbox] using h2
      · cases z3 : inB r.acts[i].who 0 ((r.people.length : Int) - 1) with
        | false =>
          simp [z1, z2, z3, h0] at hf
          simp [hf] at h1 h2
          simp [hia, RAct.row, rbox, within_ok, z1, h0', hw2, hnn, htn, hi1, z2, hwp, z3, h0]
          simpa [rbox] using h2
        | true =>
        simp only [z1, z2, z3, and_false, Bool.true_eq_false, if_false] at hf
        simp [hia, RAct.row, rbox, within_ok, z1, h0', hw2, hnn, htn, hi1, z2, hwp, z3, h0]
        refine L _ (fun z4 => ?_) (fun z4 => ?_)
        · have z4' : (r.acts.take i).any (samePM r.acts[i]) = false := by simpa using z4
          by_cases z5 : fieldsF (topC r.wide r.deep) r.things.length r.people.length r.acts[i] = 0
          · cases z6 : inB r.acts[i].seasons 0 15 with
            | false =>
              simp only [z4', z5, z6, Bool.false_eq_true, ne_eq, not_true_eq_false, true_or, if_false, if_true] at hf
              simp [hf] at h1 h2
              simp [CF, z5, z6, within_ok]
              simpa [rbox] using h2
            | true =>
            cases z7 : inB r.acts[i].rank 0 9 with
            | false =>
              simp only [z4', z5, z6, z7, Bool.true_eq_false, Bool.false_eq_true, ne_eq, not_true_eq_false, or_true, if_false, if_true] at hf
              simp [hf] at h1 h2
              simp [CF, z5, z6, z7, within_ok]
              simpa [rbox] using h2
            | true =>
              simp only [z4', z5, z6, z7, Bool.true_eq_false, Bool.false_eq_true, ne_eq, not_true_eq_false, or_self, if_false, if_true] at hf
              simp [hf] at h1 h2
              simp [CF, z5, z6, z7, within_ok, hw]
              simpa [rbox, RAct.row] using ih' h1 h2
          · have z5' : (fieldsF (topC r.wide r.deep) r.things.length r.people.length r.acts[i] != 0) = true := by simpa using z5
            simp only [z4', z5, Bool.false_eq_true, ne_eq, not_false_eq_true, if_false, if_true] at hf
            simp [hf, z5] at h1 h2
            simp [CF, z5, z5', within_ok]
            simpa [rbox] using h2
        · have z4' : (r.acts.take i).any (samePM r.acts[i]) = true := by simpa using z4
          simp only [z4', if_true] at hf
          simp [hf] at h1 h2
          simp
          simpa [rbox] using h2
    · subst h0
      simp only [z1, Nat.lt_irrefl, false_and, Bool.true_eq_false, if_false] at hf
      have z4' : (r.acts.take 0).any (samePM r.acts[0]) = false := by simp
      cases z3 : inB r.acts[0].who 0 ((r.people.length : Int) - 1) with
      | false =>
        simp [z3] at hf
        simp [hf] at h1 h2
        simp [hia, RAct.row, rbox, within_ok, z1, hwp, z3]
        simpa [rbox] using h2
      | true =>
      simp only [z3, z4', Bool.true_eq_false, Bool.false_eq_true, if_false] at hf
      simp [hia, RAct.row, rbox, within_ok, z1, hwp, z3]
      refine L _ (fun _ => ?_) (fun h => by rw [z4'] at h; cases h)
      by_cases z5 : fieldsF (topC r.wide r.deep) r.things.length r.people.length r.acts[0] = 0
      · cases z6 : inB r.acts[0].seasons 0 15 with
        | false =>
          simp [z5, z6] at hf
          simp [hf] at h1 h2
          simp [CF, z5, z6, within_ok]
          simpa [rbox] using h2
        | true =>
        cases z7 : inB r.acts[0].rank 0 9 with
        | false =>
          simp [z5, z6, z7] at hf
          simp [hf] at h1 h2
          simp [CF, z5, z6, z7, within_ok]
          simpa [rbox] using h2
        | true =>
          simp [z5, z6, z7] at hf
          simp [hf] at h1 h2
          simp [CF, z5, z6, z7, within_ok, hw]
          simpa [rbox, RAct.row] using ih' h1 h2
      · have z5' : (fieldsF (topC r.wide r.deep) r.things.length r.people.length r.acts[0] != 0) = true := by simpa using z5
        simp [z5] at hf
        simp [hf, z5] at h1 h2
        simp [CF, z5, z5', within_ok]
        simpa [rbox] using h2
noncomputable def actsF : Rite → Int := hid fun r => if 40 < r.acts.length then 8 else firstI (actF r) r.acts.length 0
theorem actsF_def (r : Rite) : actsF r = if 40 < r.acts.length then 8 else firstI (actF r) r.acts.length 0 := by rw [actsF, hid_eq]
theorem checkActs_ok (r : Rite) (h3 : r.people.length ≤ 1000000) (h4 : r.things.length ≤ 1000000) (hH : 0 < H.length) :
  gcall KC (geval KC) 97 [.pure (.agg r.row)] c H = some (.pure (.int .i64 (actsF r)), H) := by
 refine bor_c rfl rfl rfl rfl rfl hH fun H hH => ?_
 refine WPv_eq (call_enter0 KC needT Tryz.func97 rfl rfl good97 (by simp) hH ?_)
 have hr := actsF_def r
 rw [rowR]
 by_cases z2 : 40 < r.acts.length
 ·have z2' : (40 : Int) < r.acts.length := by omega
  simp [z2] at hr
  simp [z2, z2', gleave_free, hr]
 ·have z2' : ¬ (40 : Int) < r.acts.length := by omega
  simp only [z2, if_false] at hr
  simp [z2, z2']
  have L := fun Q => actR_loop (H := H) r (by omega) h3 h4 Q r.acts.length 0 (by omega)
  simp [rbox] at L
  refine L _ (fun h => ?_) (fun h => ?_)
  ·simp [h] at hr
   simp [gleave_free, hr]
  ·simp [gleave_free, hr]
theorem checkR_ok0 (r : Rite) (h1 : r.seen.length ≤ 1000000) (h2 : r.lapses.length ≤ 1000000) (h3 : r.people.length ≤ 1000000) (h4 : r.things.length ≤ 1000000) (hH : 0 < H.length) :
    gcall0 KC (geval KC) 60 [.pure (.agg r.row)] c H = some (.pure (.int .i64 (checkF r)), H) := by
  refine WPv_eq (call_enter0 KC needT Tryz.func60 rfl rfl good60 (by simp) hH ?_)
  have hr := checkF_def r
  have r1 := roomF_def r
  have r2 := peopleF_def r
  have r3 := thingsF_def r
  have r4 := actsF_def r
  have P := fun c (H : Heap) (hH : 0 < H.length) => checkPeople_ok (c := c) (H := H) r hH
  have T := fun c (H : Heap) (hH : 0 < H.length) => checkThings_ok (c := c) (H := H) r h1 h2 hH
  have A := fun c (H : Heap) (hH : 0 < H.length) => checkActs_ok (c := c) (H := H) r h3 h4 hH
  rw [rowR] at P T A ⊢
  cases e1 : inB r.wide 1 6 with
  | false =>
    simp [e1] at r1
    simp [r1] at hr
    simp [within_ok, e1, gleave_free, hr]
  | true =>
  cases e2 : inB r.deep 1 6 with
  | false =>
    simp [e1, e2] at r1
    simp [r1] at hr
    simp [within_ok, e1, e2, gleave_free, hr]
  | true =>
  have rr : roomF r = if peopleF r ≠ 0 then peopleF r else thingsF r := by
    rw [r1, r2, r3, e1, e2]
    simp only [Bool.true_eq_false, or_self, if_false]
    by_cases q1 : r.people.length = 0
    · simp [q1]
    · by_cases q2 : 4 < r.people.length
      · simp [q1, q2]
      · simp only [q1, q2, if_false]
  by_cases p1 : peopleF r = 0
  · simp only [p1, ne_eq, not_true_eq_false, if_false] at rr
    by_cases p2 : thingsF r = 0
    · rw [p2] at rr
      have ra : checkF r = actsF r := by
        rw [hr, rr, r4]
        simp
      simp [within_ok, e1, e2, P, T, A, p1, p2, gleave_free, ra]
    · have p2' : (thingsF r != 0) = true := by simpa using p2
      have ra : checkF r = thingsF r := by
        rw [hr, rr]
        simp [p2]
      simp [within_ok, e1, e2, P, T, A, p1, p2, p2', gleave_free, ra]
  · have p1' : (peopleF r != 0) = true := by simpa using p1
    have ra : checkF r = peopleF r := by
      rw [hr, rr]
      simp [p1]
    simp [within_ok, e1, e2, P, T, A, p1, p1', gleave_free, ra]
end
section
variable {c : Nat} {H : Heap}
noncomputable def nearV : Int → Int → Int → Bool := hid fun w a b =>
 (IntKind.i64.wrap (a.tmod w - b.tmod w) == 0 && (IntKind.i64.wrap (IntKind.i64.wrap (a.tdiv w) - IntKind.i64.wrap (b.tdiv w)) == 1 || IntKind.i64.wrap (IntKind.i64.wrap (a.tdiv w) - IntKind.i64.wrap (b.tdiv w)) == -1)) ||
 (IntKind.i64.wrap (IntKind.i64.wrap (a.tdiv w) - IntKind.i64.wrap (b.tdiv w)) == 0 && (IntKind.i64.wrap (a.tmod w - b.tmod w) == 1 || IntKind.i64.wrap (a.tmod w - b.tmod w) == -1))
theorem nearV_def (w a b : Int) : nearV w a b =
 ((IntKind.i64.wrap (a.tmod w - b.tmod w) == 0 && (IntKind.i64.wrap (IntKind.i64.wrap (a.tdiv w) - IntKind.i64.wrap (b.tdiv w)) == 1 || IntKind.i64.wrap (IntKind.i64.wrap (a.tdiv w) - IntKind.i64.wrap (b.tdiv w)) == -1)) ||
 (IntKind.i64.wrap (IntKind.i64.wrap (a.tdiv w) - IntKind.i64.wrap (b.tdiv w)) == 0 && (IntKind.i64.wrap (a.tmod w - b.tmod w) == 1 || IntKind.i64.wrap (a.tmod w - b.tmod w) == -1))) := by rw [nearV, hid_eq]
theorem nearR_ok {w d a b : Int} {x1 x2 x3 x4 x5 : PV} (hw : w ≠ 0) (hH : 0 < H.length) : gcall KC (geval KC) 120 [.pure (.agg [.int .i64 w, .int .i64 d, x1, x2, x3, x4, x5]), .pure (.int .i64 a), .pure (.int .i64 b)] c H = some (.pure (.bool (nearV w a b)), H) := by
 refine bor_c rfl rfl rfl rfl rfl hH fun H hH => ?_
 refine WPv_eq (call_enter0 KC needT Tryz.func120 rfl rfl good120 (by simp) hH ?_)
 have hd := nearV_def w a b
 generalize hx : IntKind.i64.wrap (a.tmod w - b.tmod w) = x at hd
 generalize hy : IntKind.i64.wrap (IntKind.i64.wrap (a.tdiv w) - IntKind.i64.wrap (b.tdiv w)) = y at hd
 by_cases x0 : x = 0
 ·subst x0
  by_cases y1 : y = 1
  ·subst y1
   simp at hd
   simp [hw, hx, hy, gleave_free, hd]
  ·have y1' : (y == 1) = false := by simpa using y1
   by_cases y2 : y = -1
   ·subst y2
    simp at hd
    simp [hw, hx, hy, gleave_free, hd]
   ·have y2' : (y == -1) = false := by simpa using y2
    by_cases y0 : y = 0
    ·subst y0
     simp at hd
     simp [hw, hx, hy, gleave_free, hd]
    ·have y0' : (y == 0) = false := by simpa using y0
     simp [y1', y2', y0'] at hd
     simp [hw, hx, hy, y1', y2', y0', gleave_free, hd]
 ·have x0' : (x == 0) = false := by simpa using x0
  by_cases y0 : y = 0
  ·subst y0
   by_cases x1 : x = 1
   ·subst x1
    simp at hd
    simp [hw, hx, hy, gleave_free, hd]
   ·have x1' : (x == 1) = false := by simpa using x1
    by_cases x2 : x = -1
    ·subst x2
     simp at hd
     simp [hw, hx, hy, gleave_free, hd]
    ·have x2' : (x == -1) = false := by simpa using x2
     simp [x0', x1', x2'] at hd
     simp [hw, hx, hy, x0', x1', x2', gleave_free, hd]
  ·have y0' : (y == 0) = false := by simpa using y0
   simp [x0', y0'] at hd
   simp [hw, hx, hy, x0', y0', gleave_free, hd]
def spot0 : Spot := ⟨0, 0⟩
noncomputable def hasV : List Spot → Int → Int → Bool := hid fun ts t st => decide (0 ≤ t) && ((IntKind.i64.wrap ((ts.getD t.toNat spot0).state.tdiv st)).tmod 2 == 1)
theorem hasV_def (ts : List Spot) (t st : Int) : hasV ts t st = (decide (0 ≤ t) && ((IntKind.i64.wrap ((ts.getD t.toNat spot0).state.tdiv st)).tmod 2 == 1)) := by rw [hasV, hid_eq]
theorem hasR_ok {ts : List Spot} {x1 x2 : PV} {t st : Int} (ht : t < ts.length) (hst : st ≠ 0) (hH : 0 < H.length) :
  gcall0 KC (geval KC) 121 [.pure (.agg [x1, x2, .slice (ts.map Spot.row)]), .pure (.int .i64 t), .pure (.int .i64 st)] c H = some (.pure (.bool (hasV ts t st)), H) := by
 refine WPv_eq (call_enter0 KC needT Tryz.func121 rfl rfl good121 (by simp) hH ?_)
 have hd := hasV_def ts t st
 by_cases h0 : 0 ≤ t
 ·have hn : ¬ t < 0 := by omega
  have hl : t.toNat < ts.length := by omega
  have hg : ts.getD t.toNat spot0 = ts[t.toNat] := by simp [List.getD_eq_getElem?_getD, hl]
  rw [hg] at hd
  simp [h0] at hd
  simp [h0, hn, hl, hst, Spot.row, gleave_free, hd]
 ·simp [h0] at hd
  simp [h0, gleave_free, hd]
theorem hasP_ok {ts : List Spot} {x1 x2 : PV} {t st : Int} (ht : t < ts.length) (hst : st ≠ 0) (hH : 0 < H.length) :
  gcall KC (geval KC) 121 [.pure (.agg [x1, x2, .slice (ts.map Spot.row)]), .pure (.int .i64 t), .pure (.int .i64 st)] c H = some (.pure (.bool (hasV ts t st)), H) := bor_c rfl rfl rfl rfl rfl hH fun H hH => hasR_ok ht hst hH
def hands0 : Hands := ⟨0, 0⟩
def takerV (hs : List Hands) (who : Nat) : Int := if (hs.getD who hands0).l = -1 then 0 else if (hs.getD who hands0).r = -1 then 1 else -1
theorem takerR_ok {hs : List Hands} {x1 x2 : PV} {who : Nat} (hw : who < hs.length) (hl : hs.length ≤ 1000000) (hH : 0 < H.length) :
  gcall0 KC (geval KC) 85 [.pure (.agg [x1, .slice (hs.map Hands.row), x2]), .pure (.int .i64 who)] c H = some (.pure (.int .i64 (takerV hs who)), H) := by
 refine WPv_eq (call_enter0 KC needT Tryz.func85 rfl rfl good85 (by simp) hH ?_)
 have hg : hs.getD who hands0 = hs[who] := by simp [List.getD_eq_getElem?_getD, hw]
 have hd : takerV hs who = if hs[who].l = -1 then 0 else if hs[who].r = -1 then 1 else -1 := by unfold takerV; rw [hg]
 have w2 : IntKind.i64.wrap 2 = 2 := rfl
 simp
 apply WPL_step
 conv => arg 4; whnf
 by_cases h1 : hs[who].l = -1
 ·simp [h1] at hd
  simp [hw, Hands.row, h1, gleave_free, hd]
 ·have h1' : (hs[who].l == -1) = false := by simpa using h1
  simp [h1] at hd
  simp [hw, Hands.row, h1']
  apply WPL_step
  conv => arg 4; whnf
  by_cases h2 : hs[who].r = -1
  ·simp [h2] at hd
   simp [hw, Hands.row, h2, gleave_free, hd]
  ·have h2' : (hs[who].r == -1) = false := by simpa using h2
   simp [h2] at hd
   simp [hw, Hands.row, h2', w2]
   apply WPL_step
   conv => arg 4; whnf
   simp [gleave_free, hd]
theorem takerP_ok {hs : List Hands} {x1 x2 : PV} {who : Nat} (hw : who < hs.length) (hl : hs.length ≤ 1000000) (hH : 0 < H.length) :
  gcall KC (geval KC) 85 [.pure (.agg [x1, .slice (hs.map Hands.row), x2]), .pure (.int .i64 who)] c H = some (.pure (.int .i64 (takerV hs who)), H) := bor_c rfl rfl rfl rfl rfl hH fun H hH => takerR_ok hw hl hH
end
section
variable {c : Nat} {H : Heap}
def heldV (s : Scene) (w : Nat) (hand : Int) : Int := if hand = 0 then (s.hands.getD w hands0).l else (s.hands.getD w hands0).r
def thing0 : Thing := ⟨0, 0, 0, 0, false⟩
noncomputable def posV : Rite → Scene → Nat → RAct → Bool := hid fun r s w a =>
 if a.kind = 1 then !(s.people.contains a.cell) && nearV r.wide (s.people.getD w 0) a.cell
 else if a.kind = 2 then heldV s w a.hand == -1 && (s.things.getD a.thing.toNat spot0).cell == s.people.getD w 0
 else if a.kind = 3 then decide (0 ≤ heldV s w a.hand)
 else if a.kind = 4 then decide (0 ≤ heldV s w a.hand) && nearV r.wide (s.people.getD w 0) (s.people.getD a.other.toNat 0) && decide (0 ≤ takerV s.hands a.other.toNat)
 else if a.kind = 5 then decide (0 ≤ heldV s w a.hand) && (r.things.getD (heldV s w a.hand).toNat thing0).cloth && decide (0 ≤ heldV s w (1 - a.hand))
 else if a.kind = 6 then hasV s.things (heldV s w a.hand) 2 && !hasV s.things (heldV s w a.hand) 4 && decide (0 ≤ heldV s w (1 - a.hand)) && !hasV s.things (heldV s w (1 - a.hand)) 2 && !hasV s.things (heldV s w (1 - a.hand)) 4
 else if a.kind = 7 then decide (0 ≤ heldV s w a.hand) && !hasV s.things (heldV s w a.hand) 4
 else hasV s.things (heldV s w a.hand) 4
theorem posV_def (r : Rite) (s : Scene) (w : Nat) (a : RAct) : posV r s w a =
 if a.kind = 1 then !(s.people.contains a.cell) && nearV r.wide (s.people.getD w 0) a.cell
 else if a.kind = 2 then heldV s w a.hand == -1 && (s.things.getD a.thing.toNat spot0).cell == s.people.getD w 0
 else if a.kind = 3 then decide (0 ≤ heldV s w a.hand)
 else if a.kind = 4 then decide (0 ≤ heldV s w a.hand) && nearV r.wide (s.people.getD w 0) (s.people.getD a.other.toNat 0) && decide (0 ≤ takerV s.hands a.other.toNat)
 else if a.kind = 5 then decide (0 ≤ heldV s w a.hand) && (r.things.getD (heldV s w a.hand).toNat thing0).cloth && decide (0 ≤ heldV s w (1 - a.hand))
 else if a.kind = 6 then hasV s.things (heldV s w a.hand) 2 && !hasV s.things (heldV s w a.hand) 4 && decide (0 ≤ heldV s w (1 - a.hand)) && !hasV s.things (heldV s w (1 - a.hand)) 2 && !hasV s.things (heldV s w (1 - a.hand)) 4
 else if a.kind = 7 then decide (0 ≤ heldV s w a.hand) && !hasV s.things (heldV s w a.hand) 4
 else hasV s.things (heldV s w a.hand) 4 := by rw [posV, hid_eq]
def sbox (s : Scene) : Blk := .box [.pure (.slice (s.people.map irow)), .pure (.slice (s.hands.map Hands.row)), .pure (.slice (s.things.map Spot.row))]
theorem notIn_loop (r : Rite) (s : Scene) (hl : s.people.length ≤ 1000000) (cell q1 q2 kind hand thing other q3 q4 : Int) (Q : GX → GSt → Prop) (fr : Fr)
    (hfr : fr = [(3, rbox r), (4, sbox s), (5, .box [.pure (.int .i64 q1), .pure (.int .i64 q2), .pure (.int .i64 kind), .pure (.int .i64 hand), .pure (.int .i64 thing), .pure (.int .i64 cell), .pure (.int .i64 other), .pure (.int .i64 q3), .pure (.int .i64 q4)])]) :
    ∀ k i : Nat, i + k = s.people.length →
    ((s.people.drop i).contains cell = false → Q (.exit 1) ⟨[(3, .bptr (H.length, 3) 0), (4, .bptr (H.length, 4) 0), (5, .bptr (H.length, 5) 0), (6, gdead)], fr :: H, 165⟩) →
    ((s.people.drop i).contains cell = true → Q .ret ⟨[(3, .bptr (H.length, 3) 0), (4, .bptr (H.length, 4) 0), (5, .bptr (H.length, 5) 0), (6, .pure (.bool false))], fr :: H, 165⟩) →
    WPL KC needT 84 (lp Tryz.f84 0) [3, 4, 5, 9] [3, 4, 5, 6] Q
      [(3, .bptr (H.length, 3) 0), (4, .bptr (H.length, 4) 0), (5, .bptr (H.length, 5) 0), (9, .pure (.int .i64 i))] (fr :: H) 165 := by
  subst hfr
  intro k
  induction k with
  | zero =>
    intro i hi h1 h2
    have e1 : s.people.drop i = [] := List.drop_of_length_le (by omega)
    rw [e1] at h1
    apply WPL_step
    conv => arg 4; whnf
    have : ¬ i < s.people.length := by omega
    simp [this, rbox, sbox]
    simpa [rbox, sbox] using h1 rfl
  | succ k ih =>
    intro i hi h1 h2
    have hia : i < s.people.length := by omega
    have hw := w64 (x := (i : Int) + 1) (by omega) (by omega)
    have ih' := ih (i + 1) (by omega)
    rw [List.drop_eq_getElem_cons hia, List.contains_cons] at h1 h2
    apply WPL_step
    conv => arg 4; whnf
    by_cases he : s.people[i] = cell
    · have ht : (cell == s.people[i] || (s.people.drop (i + 1)).contains cell) = true := by simp [he]
      simp [hia, rbox, sbox, irow, he]
      simpa [rbox, sbox] using h2 ht
    · have he' : (s.people[i] == cell) = false := by simpa using he
      have he2 : (cell == s.people[i]) = false := by simpa using fun h => he h.symm
      rw [he2, Bool.false_or] at h1 h2
      simp [hia, rbox, sbox, irow, he', hw]
      simpa [rbox, sbox, irow] using ih' h1 h2
theorem possible0_ok {r : Rite} {s : Scene} {w : Nat} {q1 kind thing cell other q3 q4 : Int} (hw : w < s.people.length) (hwh : w < s.hands.length) (hhl : s.hands.length ≤ 1000000) (hpl : s.people.length ≤ 1000000) (hwide : r.wide ≠ 0)
    (hL : ∀ h : w < s.hands.length, s.hands[w].l < s.things.length ∧ s.hands[w].r < s.things.length ∧ -1 ≤ s.hands[w].l ∧ -1 ≤ s.hands[w].r) (htl : s.things.length = r.things.length)
    (h2 : kind = 2 → ∃ t : Nat, thing = t ∧ t < s.things.length) (h4 : kind = 4 → ∃ o : Nat, other = o ∧ o < s.people.length ∧ o < s.hands.length) (hH : 0 < H.length) :
    gcall0 KC (geval KC) 84 [.pure (.agg r.row), .pure (.agg s.row), .pure (.agg [.int .i64 q1, .int .i64 w, .int .i64 kind, .int .i64 0, .int .i64 thing, .int .i64 cell, .int .i64 other, .int .i64 q3, .int .i64 q4])] c H =
      some (.pure (.bool (posV r s w ⟨q1, w, kind, 0, thing, cell, other, q3, q4⟩)), H) := by
  refine WPv_eq (call_enter0 KC needT Tryz.func84 rfl rfl good84 (by simp) hH ?_)
  have hd := posV_def r s w ⟨q1, w, kind, 0, thing, cell, other, q3, q4⟩
  obtain ⟨l1, l2, l3, l4⟩ := hL hwh
  have hg : s.hands.getD w hands0 = s.hands[w] := by simp [List.getD_eq_getElem?_getD, hwh]
  have hp : s.people.getD w 0 = s.people[w] := by simp [List.getD_eq_getElem?_getD, hw]
  have e1 : heldV s w 0 = s.hands[w].l := by unfold heldV; rw [hg]; simp
  have e2 : heldV s w (1 - 0) = s.hands[w].r := by unfold heldV; rw [hg]; simp
  simp only [e1, e2, hp] at hd
  have wr : IntKind.i64.wrap (1 - 0) = 1 := rfl
  rw [rowR]
  simp only [Scene.row]
  have sw : (1 : Int) - 0 = 1 := rfl
  by_cases k1 : kind = 1
  · subst k1
    rw [if_pos rfl] at hd
    simp [hw, hwh, Hands.row, wr]
    have L := fun Q => notIn_loop (H := H) r s hpl cell q1 w 1 0 thing other q3 q4 Q _ rfl s.people.length 0 (by omega)
    simp only [rbox, sbox] at L
    refine L _ (fun z => ?_) (fun z => ?_)
    · have z' : s.people.contains cell = false := by simpa using z
      rw [z', Bool.not_false, Bool.true_and] at hd
      simp [hw, hwide, irow, nearR_ok, gleave_free, hd]
    · have z' : s.people.contains cell = true := by simpa using z
      rw [z', Bool.not_true, Bool.false_and] at hd
      simp [gleave_free, hd]
  have k1' : (kind == 1) = false := by simpa using k1
  by_cases k2 : kind = 2
  · subst k2
    obtain ⟨t, rfl, ht⟩ := h2 rfl
    have hgt : s.things.getD t spot0 = s.things[t] := by simp [List.getD_eq_getElem?_getD, ht]
    simp [hgt] at hd
    by_cases z1 : s.hands[w].l = -1
    · simp [z1] at hd
      simp [hw, hwh, Hands.row, wr, z1, ht, Spot.row, irow, gleave_free, hd]
    · have z1' : (s.hands[w].l == -1) = false := by simpa using z1
      simp [z1'] at hd
      simp [hw, hwh, Hands.row, wr, z1', gleave_free, hd]
  have k2' : (kind == 2) = false := by simpa using k2
  by_cases k3 : kind = 3
  · subst k3
    simp at hd
    simp [hw, hwh, Hands.row, wr, gleave_free, hd]
  have k3' : (kind == 3) = false := by simpa using k3
  by_cases k4 : kind = 4
  · subst k4
    obtain ⟨o, rfl, ho, ho2⟩ := h4 rfl
    have hgo : s.people.getD o 0 = s.people[o] := by simp [List.getD_eq_getElem?_getD, ho]
    simp [hgo] at hd
    by_cases z1 : 0 ≤ s.hands[w].l
    · cases z2 : nearV r.wide s.people[w] s.people[o] with
      | true =>
        simp [z1, z2] at hd
        simp [hw, hwh, Hands.row, wr, z1, ho, irow, nearR_ok, hwide, z2, takerP_ok, ho2, hhl, gleave_free, hd]
      | false =>
        simp [z1, z2] at hd
        simp [hw, hwh, Hands.row, wr, z1, ho, irow, nearR_ok, hwide, z2, gleave_free, hd]
    · simp [z1] at hd
      simp [hw, hwh, Hands.row, wr, z1, gleave_free, hd]
  have k4' : (kind == 4) = false := by simpa using k4
  by_cases k5 : kind = 5
  · subst k5
    simp at hd
    by_cases z1 : 0 ≤ s.hands[w].l
    · have n1 : ¬ s.hands[w].l < 0 := by omega
      have n2 : (s.hands[w].l).toNat < r.things.length := by omega
      have hgt : r.things[(s.hands[w].l).toNat]?.getD thing0 = r.things[(s.hands[w].l).toNat] := by simp [n2]
      rw [hgt] at hd
      cases z2 : r.things[(s.hands[w].l).toNat].cloth with
      | true =>
        simp [z1, z2] at hd
        simp [hw, hwh, Hands.row, wr, z1, n1, n2, Thing.row, z2, gleave_free, hd]
      | false =>
        simp [z1, z2] at hd
        simp [hw, hwh, Hands.row, wr, z1, n1, n2, Thing.row, z2, gleave_free, hd]
    · simp [z1] at hd
      simp [hw, hwh, Hands.row, wr, z1, gleave_free, hd]
  have k5' : (kind == 5) = false := by simpa using k5
  by_cases k6 : kind = 6
  · subst k6
    simp at hd
    have P := fun (t st : Int) (ht : t < s.things.length) (hst : st ≠ 0) (c : Nat) (H : Heap) (hH : 0 < H.length) => hasP_ok (c := c) (H := H) (ts := s.things) (x1 := .slice (s.people.map irow)) (x2 := .slice (s.hands.map Hands.row)) ht hst hH
    cases z1 : hasV s.things s.hands[w].l 2 with
    | false =>
      simp [z1] at hd
      simp [hw, hwh, Hands.row, wr, P, l1, l2, z1, gleave_free, hd]
    | true =>
    cases z2 : hasV s.things s.hands[w].l 4 with
    | true =>
      simp [z1, z2] at hd
      simp [hw, hwh, Hands.row, wr, P, l1, l2, z1, z2, gleave_free, hd]
    | false =>
    by_cases z3 : 0 ≤ s.hands[w].r
    · cases z4 : hasV s.things s.hands[w].r 2 with
      | true =>
        simp [z1, z2, z3, z4] at hd
        simp [hw, hwh, Hands.row, wr, P, l1, l2, z1, z2, z3, z4, gleave_free, hd]
      | false =>
        simp [z1, z2, z3, z4] at hd
        simp [hw, hwh, Hands.row, wr, P, l1, l2, z1, z2, z3, z4, gleave_free, hd]
    · simp [z1, z2, z3] at hd
      simp [hw, hwh, Hands.row, wr, P, l1, l2, z1, z2, z3, gleave_free, hd]
  have k6' : (kind == 6) = false := by simpa using k6
  have P := fun (t st : Int) (ht : t < s.things.length) (hst : st ≠ 0) (c : Nat) (H : Heap) (hH : 0 < H.length) => hasP_ok (c := c) (H := H) (ts := s.things) (x1 := .slice (s.people.map irow)) (x2 := .slice (s.hands.map Hands.row)) ht hst hH
  by_cases k7 : kind = 7
  · subst k7
    simp at hd
    by_cases z1 : 0 ≤ s.hands[w].l
    · simp [z1] at hd
      simp [hw, hwh, Hands.row, wr, P, l1, l2, z1, gleave_free, hd]
    · simp [z1] at hd
      simp [hw, hwh, Hands.row, wr, z1, gleave_free, hd]
  have k7' : (kind == 7) = false := by simpa using k7
  simp only [k1, k2, k3, k4, k5, k6, k7, if_false] at hd
  simp [hw, hwh, Hands.row, wr, P, l1, l2, k1', k2', k3', k4', k5', k6', k7', gleave_free, hd]
theorem possible1_ok {r : Rite} {s : Scene} {w : Nat} {q1 kind thing cell other q3 q4 : Int} (hw : w < s.people.length) (hwh : w < s.hands.length) (hhl : s.hands.length ≤ 1000000) (hpl : s.people.length ≤ 1000000) (hwide : r.wide ≠ 0)
    (hL : ∀ h : w < s.hands.length, s.hands[w].l < s.things.length ∧ s.hands[w].r < s.things.length ∧ -1 ≤ s.hands[w].l ∧ -1 ≤ s.hands[w].r) (htl : s.things.length = r.things.length)
    (h2 : kind = 2 → ∃ t : Nat, thing = t ∧ t < s.things.length) (h4 : kind = 4 → ∃ o : Nat, other = o ∧ o < s.people.length ∧ o < s.hands.length) (hH : 0 < H.length) :
    gcall0 KC (geval KC) 84 [.pure (.agg r.row), .pure (.agg s.row), .pure (.agg [.int .i64 q1, .int .i64 w, .int .i64 kind, .int .i64 1, .int .i64 thing, .int .i64 cell, .int .i64 other, .int .i64 q3, .int .i64 q4])] c H =
      some (.pure (.bool (posV r s w ⟨q1, w, kind, 1, thing, cell, other, q3, q4⟩)), H) := by
  refine WPv_eq (call_enter0 KC needT Tryz.func84 rfl rfl good84 (by simp) hH ?_)
  have hd := posV_def r s w ⟨q1, w, kind, 1, thing, cell, other, q3, q4⟩
  obtain ⟨l1, l2, l3, l4⟩ := hL hwh
  have hg : s.hands.getD w hands0 = s.hands[w] := by simp [List.getD_eq_getElem?_getD, hwh]
  have hp : s.people.getD w 0 = s.people[w] := by simp [List.getD_eq_getElem?_getD, hw]
  have e1 : heldV s w 1 = s.hands[w].r := by unfold heldV; rw [hg]; simp
  have e2 : heldV s w (1 - 1) = s.hands[w].l := by unfold heldV; rw [hg]; simp
  simp only [e1, e2, hp] at hd
  have wr : IntKind.i64.wrap (1 - 1) = 0 := rfl
  rw [rowR]
  simp only [Scene.row]
  have sw : (1 : Int) - 1 = 0 := rfl
  by_cases k1 : kind = 1
  · subst k1
    rw [if_pos rfl] at hd
    simp [hw, hwh, Hands.row, wr]
    have L := fun Q => notIn_loop (H := H) r s hpl cell q1 w 1 1 thing other q3 q4 Q _ rfl s.people.length 0 (by omega)
    simp only [rbox, sbox] at L
    refine L _ (fun z => ?_) (fun z => ?_)
    · have z' : s.people.contains cell = false := by simpa using z
      rw [z', Bool.not_false, Bool.true_and] at hd
      simp [hw, hwide, irow, nearR_ok, gleave_free, hd]
    · have z' : s.people.contains cell = true := by simpa using z
      rw [z', Bool.not_true, Bool.false_and] at hd
      simp [gleave_free, hd]
  have k1' : (kind == 1) = false := by simpa using k1
  by_cases k2 : kind = 2
  · subst k2
    obtain ⟨t, rfl, ht⟩ := h2 rfl
    have hgt : s.things.getD t spot0 = s.things[t] := by simp [List.getD_eq_getElem?_getD, ht]
    simp [hgt] at hd
    by_cases z1 : s.hands[w].r = -1
    · simp [z1] at hd
      simp [hw, hwh, Hands.row, wr, z1, ht, Spot.row, irow, gleave_free, hd]
    · have z1' : (s.hands[w].r == -1) = false := by simpa using z1
      simp [z1'] at hd
      simp [hw, hwh, Hands.row, wr, z1', gleave_free, hd]
  have k2' : (kind == 2) = false := by simpa using k2
  by_cases k3 : kind = 3
  · subst k3
    simp at hd
    simp [hw, hwh, Hands.row, wr, gleave_free, hd]
  have k3' : (kind == 3) = false := by simpa using k3
  by_cases k4 : kind = 4
  · subst k4
    obtain ⟨o, rfl, ho, ho2⟩ := h4 rfl
    have hgo : s.people.getD o 0 = s.people[o] := by simp [List.getD_eq_getElem?_getD, ho]
    simp [hgo] at hd
    by_cases z1 : 0 ≤ s.hands[w].r
    · cases z2 : nearV r.wide s.people[w] s.people[o] with
      | true =>
        simp [z1, z2] at hd
        simp [hw, hwh, Hands.row, wr, z1, ho, irow, nearR_ok, hwide, z2, takerP_ok, ho2, hhl, gleave_free, hd]
      | false =>
        simp [z1, z2] at hd
        simp [hw, hwh, Hands.row, wr, z1, ho, irow, nearR_ok, hwide, z2, gleave_free, hd]
    · simp [z1] at hd
      simp [hw, hwh, Hands.row, wr, z1, gleave_free, hd]
  have k4' : (kind == 4) = false := by simpa using k4
  by_cases k5 : kind = 5
  · subst k5
    simp at hd
    by_cases z1 : 0 ≤ s.hands[w].r
    · have n1 : ¬ s.hands[w].r < 0 := by omega
      have n2 : (s.hands[w].r).toNat < r.things.length := by omega
      have hgt : r.things[(s.hands[w].r).toNat]?.getD thing0 = r.things[(s.hands[w].r).toNat] := by simp [n2]
      rw [hgt] at hd
      cases z2 : r.things[(s.hands[w].r).toNat].cloth with
      | true =>
        simp [z1, z2] at hd
        simp [hw, hwh, Hands.row, wr, z1, n1, n2, Thing.row, z2, gleave_free, hd]
      | false =>
        simp [z1, z2] at hd
        simp [hw, hwh, Hands.row, wr, z1, n1, n2, Thing.row, z2, gleave_free, hd]
    · simp [z1] at hd
      simp [hw, hwh, Hands.row, wr, z1, gleave_free, hd]
  have k5' : (kind == 5) = false := by simpa using k5
  by_cases k6 : kind = 6
  · subst k6
    simp at hd
    have P := fun (t st : Int) (ht : t < s.things.length) (hst : st ≠ 0) (c : Nat) (H : Heap) (hH : 0 < H.length) => hasP_ok (c := c) (H := H) (ts := s.things) (x1 := .slice (s.people.map irow)) (x2 := .slice (s.hands.map Hands.row)) ht hst hH
    cases z1 : hasV s.things s.hands[w].r 2 with
    | false =>
      simp [z1] at hd
      simp [hw, hwh, Hands.row, wr, P, l1, l2, z1, gleave_free, hd]
    | true =>
    cases z2 : hasV s.things s.hands[w].r 4 with
    | true =>
      simp [z1, z2] at hd
      simp [hw, hwh, Hands.row, wr, P, l1, l2, z1, z2, gleave_free, hd]
    | false =>
    by_cases z3 : 0 ≤ s.hands[w].l
    · cases z4 : hasV s.things s.hands[w].l 2 with
      | true =>
        simp [z1, z2, z3, z4] at hd
        simp [hw, hwh, Hands.row, wr, P, l1, l2, z1, z2, z3, z4, gleave_free, hd]
      | false =>
        simp [z1, z2, z3, z4] at hd
        simp [hw, hwh, Hands.row, wr, P, l1, l2, z1, z2, z3, z4, gleave_free, hd]
    · simp [z1, z2, z3] at hd
      simp [hw, hwh, Hands.row, wr, P, l1, l2, z1, z2, z3, gleave_free, hd]
  have k6' : (kind == 6) = false := by simpa using k6
  have P := fun (t st : Int) (ht : t < s.things.length) (hst : st ≠ 0) (c : Nat) (H : Heap) (hH : 0 < H.length) => hasP_ok (c := c) (H := H) (ts := s.things) (x1 := .slice (s.people.map irow)) (x2 := .slice (s.hands.map Hands.row)) ht hst hH
  by_cases k7 : kind = 7
  · subst k7
    simp at hd
    by_cases z1 : 0 ≤ s.hands[w].r
    · simp [z1] at hd
      simp [hw, hwh, Hands.row, wr, P, l1, l2, z1, gleave_free, hd]
    · simp [z1] at hd
      simp [hw, hwh, Hands.row, wr, z1, gleave_free, hd]
  have k7' : (kind == 7) = false := by simpa using k7
  simp only [k1, k2, k3, k4, k5, k6, k7, if_false] at hd
  simp [hw, hwh, Hands.row, wr, P, l1, l2, k1', k2', k3', k4', k5', k6', k7', gleave_free, hd]
end
section
variable {c : Nat} {H : Heap}
def act1 (who kind hand thing cell other : Int) : RAct := ⟨0, who, kind, hand, thing, cell, other, 0, 0⟩
def stepL (who : Int) (k i : Nat) : List RAct := (List.range' i k).map fun (x : Nat) => act1 who 1 0 0 x 0
def thingL (who hand : Int) (k i : Nat) : List RAct := (List.range' i k).map fun (x : Nat) => act1 who 2 hand x 0 0
def otherL (who hand : Int) (k i : Nat) : List RAct := ((List.range' i k).filter fun (x : Nat) => !((x : Int) == who)).map fun (x : Nat) => act1 who 4 hand 0 0 x
def kindL (nt np : Nat) (who : Int) (kind : Nat) (hand : Int) : List RAct := if kind = 2 then thingL who hand nt 0 else if kind = 4 then otherL who hand np 0 else [act1 who kind hand 0 0 0]
def bothL (nt np : Nat) (who : Int) (kind : Nat) : List RAct := kindL nt np who kind 0 ++ kindL nt np who kind 1
def kindsL (nt np : Nat) (who : Int) (k i : Nat) : List RAct := (List.range' i k).flatMap (bothL nt np who)
def everyL (n nt np : Nat) (who : Int) : List RAct := stepL who n 0 ++ kindsL nt np who 7 2
theorem stepL_succ (who : Int) (k i : Nat) : stepL who (k + 1) i = act1 who 1 0 0 i 0 :: stepL who k (i + 1) := by simp [stepL, List.range'_succ]
theorem thingL_succ (who hand : Int) (k i : Nat) : thingL who hand (k + 1) i = act1 who 2 hand i 0 0 :: thingL who hand k (i + 1) := by simp [thingL, List.range'_succ]
theorem otherL_succ (who hand : Int) (k i : Nat) : otherL who hand (k + 1) i = if (i : Int) = who then otherL who hand k (i + 1) else act1 who 4 hand 0 0 i :: otherL who hand k (i + 1) := by
 by_cases h : (i : Int) = who
 ·simp [otherL, List.range'_succ, h]
 ·simp [otherL, List.range'_succ, h]
theorem kindsL_succ (nt np : Nat) (who : Int) (k i : Nat) : kindsL nt np who (k + 1) i = bothL nt np who i ++ kindsL nt np who k (i + 1) := by simp [kindsL, List.range'_succ]
theorem thingL_len (who hand : Int) (k i : Nat) : (thingL who hand k i).length = k := by simp [thingL]
theorem otherL_len (who hand : Int) (k i : Nat) : (otherL who hand k i).length ≤ k := by
 simp only [otherL, List.length_map]
 exact Nat.le_trans (List.length_filter_le _ _) (by simp)
theorem kindL_len (nt np : Nat) (who : Int) (kind : Nat) (hand : Int) : (kindL nt np who kind hand).length ≤ nt + np + 1 := by
 have := otherL_len who hand np 0
 have := thingL_len who hand nt 0
 unfold kindL
 split
 ·omega
 ·split
  ·omega
  ·simp
theorem bothL_len (nt np : Nat) (who : Int) (kind : Nat) : (bothL nt np who kind).length ≤ 2 * (nt + np + 1) := by
 have := kindL_len nt np who kind 0
 have := kindL_len nt np who kind 1
 simp only [bothL, List.length_append]; omega
def evF (r : Rite) (l : List RAct) : Fr := [(2, rbox r), (26, .arr 9 (l.map RAct.row) 0 false)]
def evH (L : Nat) (l : List RAct) : GV := .hdr (L, 26) 9 l.length 0 l.length
theorem evThing (r : Rite) (who hand : Int) (nt : Nat) (hnt : r.things.length = nt) (hb : nt ≤ 1000000) (Q : GX → GSt → Prop) : ∀ (k i : Nat) (l : List RAct) (x : Int), i + k = nt → l.length + k ≤ 100000000 →
    (∀ y, Q (.exit 7) ⟨[(1, .pure (.int .i64 who)), (2, .bptr (H.length, 2) 0), (5, evH H.length (l ++ thingL who hand k i)), (7, .pure (.int .i64 2)), (8, .pure (.int .i64 hand))], [(9, abox (act1 who 2 hand y 0 0))] :: [] :: evF r (l ++ thingL who hand k i) :: H, 78⟩) →
    WPL KC needT 25 (lp Tryz.f25 3) [1, 2, 5, 7, 8, 9, 10] [1, 2, 5, 7, 8] Q
      [(1, .pure (.int .i64 who)), (2, .bptr (H.length, 2) 0), (5, evH H.length l), (7, .pure (.int .i64 2)), (8, .pure (.int .i64 hand)), (9, .bptr (H.length + 2, 9) 0), (10, .pure (.int .i64 i))]
      ([(9, abox (act1 who 2 hand x 0 0))] :: [] :: evF r l :: H) 78 := by
  intro k
  induction k with
  | zero =>
    intro i l x hi hl h1
    have e0 : thingL who hand 0 i = [] := rfl
    rw [e0, List.append_nil] at h1
    have : ¬ i < nt := by omega
    apply WPL_step
    conv => arg 4; whnf
    simp [evF, evH, rbox, abox, act1, hnt, this]
    simpa [evF, evH, rbox, abox, act1] using h1 x
  | succ k ih =>
    intro i l x hi hl h1
    have hia : i < nt := by omega
    have hw := w64 (x := (i : Int) + 1) (by omega) (by omega)
    rw [thingL_succ] at h1
    have ih' := ih (i + 1) (l ++ [act1 who 2 hand i 0 0]) i (by omega) (by simp; omega)
    simp only [List.append_assoc, List.singleton_append] at ih'
    have hb2 : (l.length + 1) * 72 ≤ 1099511627776 := by omega
    apply WPL_step
    conv => arg 4; whnf
    simp [evF, evH, rbox, abox, act1, hnt, hia, hw, hb2]
    have := ih' h1
    simpa [evF, evH, rbox, abox, act1, RAct.row] using this
theorem evOther (r : Rite) (who hand : Int) (np : Nat) (hnp : r.people.length = np) (hb : np ≤ 1000000) (Q : GX → GSt → Prop) : ∀ (k i : Nat) (l : List RAct) (x : Int), i + k = np → l.length + k ≤ 100000000 → l ≠ [] →
    (∀ y, Q (.exit 9) ⟨[(1, .pure (.int .i64 who)), (2, .bptr (H.length, 2) 0), (5, evH H.length (l ++ otherL who hand k i)), (7, .pure (.int .i64 4)), (8, .pure (.int .i64 hand))], [(9, abox (act1 who 4 hand 0 0 y))] :: [] :: evF r (l ++ otherL who hand k i) :: H, 78⟩) →
    WPL KC needT 25 (lp Tryz.f25 4) [1, 2, 5, 7, 8, 9, 11] [1, 2, 5, 7, 8] Q
      [(1, .pure (.int .i64 who)), (2, .bptr (H.length, 2) 0), (5, evH H.length l), (7, .pure (.int .i64 4)), (8, .pure (.int .i64 hand)), (9, .bptr (H.length + 2, 9) 0), (11, .pure (.int .i64 i))]
      ([(9, abox (act1 who 4 hand 0 0 x))] :: [] :: evF r l :: H) 78 := by
  intro k
  induction k with
  | zero =>
    intro i l x hi hl hne h1
    have e0 : otherL who hand 0 i = [] := rfl
    rw [e0, List.append_nil] at h1
    have : ¬ i < np := by omega
    apply WPL_step
    conv => arg 4; whnf
    simp [evF, evH, rbox, abox, act1, hnp, this]
    simpa [evF, evH, rbox, abox, act1] using h1 x
  | succ k ih =>
    intro i l x hi hl hne h1
    have hia : i < np := by omega
    have hw := w64 (x := (i : Int) + 1) (by omega) (by omega)
    rw [otherL_succ] at h1
    have hb2 : (l.length + 1) * 72 ≤ 1099511627776 := by omega
    by_cases hwho : (i : Int) = who
    · rw [if_pos hwho] at h1
      have ih' := ih (i + 1) l i (by omega) (by omega) hne h1
      apply WPL_step
      conv => arg 4; whnf
      have hwho' : ((i : Int) == who) = true := by simpa using hwho
      simp [evF, evH, rbox, abox, act1, hnp, hia, hw, hb2, bne, hwho']
      simpa [evF, evH, rbox, abox, act1, RAct.row] using ih'
    · rw [if_neg hwho] at h1
      have ih' := ih (i + 1) (l ++ [act1 who 4 hand 0 0 i]) i (by omega) (by simp; omega) (by simp)
      simp only [List.append_assoc, List.singleton_append] at ih'
      have hwho' : ((i : Int) == who) = false := by simpa using hwho
      apply WPL_step
      conv => arg 4; whnf
      simp [evF, evH, rbox, abox, act1, hnp, hia, hw, hb2, bne, hwho']
      have := ih' h1
      simpa [evF, evH, rbox, abox, act1, RAct.row] using this
theorem evRound (r : Rite) (who hand : Int) (kind : Nat) (hh : hand = 0 ∨ hand = 1) (hk : 2 ≤ kind ∧ kind ≤ 8) (nt np : Nat) (hnt : r.things.length = nt) (hnp : r.people.length = np) (hb1 : nt ≤ 1000000) (hb2 : np ≤ 1000000)
  (Q : GX → GSt → Prop) (l : List RAct) (hl : l.length ≤ 50000000) (hne : l ≠ [])
  (h : WPL KC needT 25 (lp Tryz.f25 2) [1, 2, 5, 7, 8] [1, 2, 5, 7] Q
   [(1, .pure (.int .i64 who)), (2, .bptr (H.length, 2) 0), (5, evH H.length (l ++ kindL nt np who kind hand)), (7, .pure (.int .i64 kind)), (8, .pure (.int .i64 (hand + 1)))] ([] :: evF r (l ++ kindL nt np who kind hand) :: H) 78) :
  WPL KC needT 25 (lp Tryz.f25 2) [1, 2, 5, 7, 8] [1, 2, 5, 7] Q
   [(1, .pure (.int .i64 who)), (2, .bptr (H.length, 2) 0), (5, evH H.length l), (7, .pure (.int .i64 kind)), (8, .pure (.int .i64 hand))] ([] :: evF r l :: H) 78 := by
 have hw := w64 (x := hand + 1) (by omega) (by omega)
 have hlt : hand < 2 := by omega
 have hb3 : (l.length + 1) * 72 ≤ 1099511627776 := by omega
 have w2 : IntKind.i64.wrap 2 = 2 := rfl
 apply WPL_step
 conv => arg 4; whnf
 by_cases k2 : kind = 2
 ·subst k2
  have e : kindL nt np who 2 hand = thingL who hand nt 0 := by simp [kindL]
  rw [e] at h
  have L := fun Q h => evThing (H := H) r who hand nt hnt hb1 Q nt 0 l 0 (by omega) (by omega) h
  simp [evF, evH, rbox, abox, act1] at L h
  simp [evF, evH, rbox, hlt]
  refine L _ fun y => ?_
  simp [hw]
  exact h
 ·by_cases k4 : kind = 4
  ·subst k4
   have e : kindL nt np who 4 hand = otherL who hand np 0 := by simp [kindL]
   rw [e] at h
   have L := fun Q h => evOther (H := H) r who hand np hnp hb2 Q np 0 l 0 (by omega) (by omega) hne h
   simp [evF, evH, rbox, abox, act1] at L h
   simp [evF, evH, rbox, hlt]
   refine L _ fun y => ?_
   simp [hw]
   exact h
  ·have e : kindL nt np who kind hand = [act1 who kind hand 0 0 0] := by simp [kindL, k2, k4]
   rw [e] at h
   have k2' : ((kind : Int) == 2) = false := by simp; omega
   have k4' : ((kind : Int) == 4) = false := by simp; omega
   simp [evF, evH, rbox, act1, RAct.row] at h
   simp [evF, evH, rbox, hlt, k2', k4', hb3, hw]
   exact h
theorem evHands (r : Rite) (who : Int) (kind : Nat) (hk : 2 ≤ kind ∧ kind ≤ 8) (nt np : Nat) (hnt : r.things.length = nt) (hnp : r.people.length = np) (hb1 : nt ≤ 1000000) (hb2 : np ≤ 1000000)
  (Q : GX → GSt → Prop) (l : List RAct) (hl : l.length ≤ 40000000) (hne : l ≠ [])
  (h : Q (.exit 4) ⟨[(1, .pure (.int .i64 who)), (2, .bptr (H.length, 2) 0), (5, evH H.length (l ++ bothL nt np who kind)), (7, .pure (.int .i64 kind))], [] :: evF r (l ++ bothL nt np who kind) :: H, 78⟩) :
  WPL KC needT 25 (lp Tryz.f25 2) [1, 2, 5, 7, 8] [1, 2, 5, 7] Q
   [(1, .pure (.int .i64 who)), (2, .bptr (H.length, 2) 0), (5, evH H.length l), (7, .pure (.int .i64 kind)), (8, .pure (.int .i64 0))] ([] :: evF r l :: H) 78 := by
 have l0 := kindL_len nt np who kind 0
 refine evRound r who 0 kind (.inl rfl) hk nt np hnt hnp hb1 hb2 Q l (by omega) hne ?_
 refine evRound r who 1 kind (.inr rfl) hk nt np hnt hnp hb1 hb2 Q _ (by simp; omega) (by simp [hne]) ?_
 rw [bothL, ← List.append_assoc] at h
 apply WPL_step
 conv => arg 4; whnf
 simp [evF, evH] at h ⊢
 exact h
theorem evKinds (r : Rite) (who : Int) (nt np : Nat) (hnt : r.things.length = nt) (hnp : r.people.length = np) (hb1 : nt ≤ 1000000) (hb2 : np ≤ 1000000)
    (Q : GX → GSt → Prop) : ∀ (k i : Nat) (l : List RAct), i + k = 9 → 2 ≤ i → l.length + 5000000 * k ≤ 39000000 → l ≠ [] →
    Q (.exit 2) ⟨[(5, evH H.length (l ++ kindsL nt np who k i))], evF r (l ++ kindsL nt np who k i) :: H, 78⟩ →
    WPL KC needT 25 (lp Tryz.f25 1) [1, 2, 5, 7] [5] Q
      [(1, .pure (.int .i64 who)), (2, .bptr (H.length, 2) 0), (5, evH H.length l), (7, .pure (.int .i64 i))] (evF r l :: H) 78 := by
  intro k
  induction k with
  | zero =>
    intro i l hi h2 hl hne h1
    have e0 : kindsL nt np who 0 i = [] := rfl
    rw [e0, List.append_nil] at h1
    have : i = 9 := by omega
    subst this
    apply WPL_step
    conv => arg 4; whnf
    simp [evF, evH] at h1 ⊢
    exact h1
  | succ k ih =>
    intro i l hi h2 hl hne h1
    have hw := w64 (x := (i : Int) + 1) (by omega) (by omega)
    have hle : (i : Int) ≤ 8 := by omega
    rw [kindsL_succ, ← List.append_assoc] at h1
    have lb := bothL_len nt np who i
    have ih' := ih (i + 1) (l ++ bothL nt np who i) (by omega) (by omega) (by simp; omega) (by simp [hne]) h1
    apply WPL_step
    conv => arg 4; whnf
    have L := fun Q h => evHands (H := H) r who i (by omega) nt np hnt hnp hb1 hb2 Q l (by omega) hne h
    simp [evF, evH] at L ih'
    simp [evF, evH, hle]
    refine L _ ?_
    simp [hw]
    exact ih'
theorem evSteps (r : Rite) (who : Int) (n : Nat) (hn : IntKind.i64.wrap (r.wide * r.deep) = n) (hb : n ≤ 1000000) (Q : GX → GSt → Prop) : ∀ (k i : Nat) (l : List RAct), i + k = n → l.length + k ≤ 1000000 →
    Q (.exit 0) ⟨[(1, .pure (.int .i64 who)), (2, .bptr (H.length, 2) 0), (5, apS (H.length, 26) 9 ((l ++ stepL who k i).map RAct.row))], apF 26 9 ((l ++ stepL who k i).map RAct.row) [(2, rbox r)] :: H, 78⟩ →
    WPL KC needT 25 (lp Tryz.f25 0) [1, 2, 5, 6] [1, 2, 5] Q
      [(1, .pure (.int .i64 who)), (2, .bptr (H.length, 2) 0), (5, apS (H.length, 26) 9 (l.map RAct.row)), (6, .pure (.int .i64 i))] (apF 26 9 (l.map RAct.row) [(2, rbox r)] :: H) 78 := by
  intro k
  induction k with
  | zero =>
    intro i l hi hl h1
    have e0 : stepL who 0 i = [] := rfl
    rw [e0, List.append_nil] at h1
    have : ¬ i < n := by omega
    apply WPL_step
    conv => arg 4; whnf
    simp [rbox, hn, this]
    simpa [rbox] using h1
  | succ k ih =>
    intro i l hi hl h1
    have hia : i < n := by omega
    have hw := w64 (x := (i : Int) + 1) (by omega) (by omega)
    rw [stepL_succ] at h1
    have ih' := ih (i + 1) (l ++ [act1 who 1 0 0 i 0]) (by omega) (by simp; omega)
    simp only [List.append_assoc, List.singleton_append] at ih'
    have hb2 : (l.length + 1) * 72 ≤ 1099511627776 := by omega
    apply WPL_step
    conv => arg 4; whnf
    simp [rbox, hn, hia, hw, hb2, Fr.get]
    have := ih' h1
    simpa [rbox, act1, RAct.row] using this
theorem every_ok (r : Rite) (who : Int) (n nt np : Nat) (hn : IntKind.i64.wrap (r.wide * r.deep) = n) (hn0 : 0 < n) (hb : n ≤ 1000000) (hnt : r.things.length = nt) (hnp : r.people.length = np) (hb1 : nt ≤ 1000000) (hb2 : np ≤ 1000000) (hH : 0 < H.length) :
  gcall KC (geval KC) 25 [.pure (.agg r.row), .pure (.int .i64 who)] c H = some (.pure (.slice ((everyL n nt np who).map RAct.row)), H) := by
 refine WPv_eq ?_
 rw [show gcall KC (geval KC) 25 [.pure (.agg r.row), .pure (.int .i64 who)] c H = gcall0 KC (geval KC) 25 [.pure (.agg r.row), .pure (.int .i64 who)] c H from gcall_plain KC rfl rfl rfl]
 refine call_enter0 KC needT Tryz.func25 rfl rfl good25 (by simp) hH ?_
 rw [rowR]
 simp
 have L := fun Q h => evSteps (H := H) r who n hn hb Q n 0 [] (by omega) (by simp; omega) h
 simp [apS_nil, apF_nil, rbox] at L
 refine L _ ?_
 have hne : stepL who n 0 ≠ [] := by
  obtain ⟨m, rfl⟩ : ∃ m, n = m + 1 := ⟨n - 1, by omega⟩
  rw [stepL_succ]; simp
 have hlen : (stepL who n 0).length = n := by simp [stepL]
 have L2 := fun Q h => evKinds (H := H) r who nt np hnt hnp hb1 hb2 Q 7 2 (stepL who n 0) rfl (by omega) (by omega) hne h
 simp [evF, evH, rbox] at L2
 simp [apS, apF, hne, Fr.ins]
 refine L2 _ ?_
 have e : everyL n nt np who = stepL who n 0 ++ kindsL nt np who 7 2 := rfl
 have hnl : ¬ H.length ≤ H.length - 1 := by omega
 have t1 : List.take ((stepL who n 0).length + (kindsL nt np who 7 2).length) (List.map RAct.row (stepL who n 0) ++ List.map RAct.row (kindsL nt np who 7 2)) = List.map RAct.row (stepL who n 0) ++ List.map RAct.row (kindsL nt np who 7 2) := List.take_of_length_le (by simp)
 simp [gleave_free, e, hne, hnl, t1]
end
section
variable {c : Nat} {H : Heap}
structure ScB (r : Rite) (s : Scene) : Prop where
 pl : s.people.length = r.people.length
 hl : s.hands.length = r.people.length
 tl : s.things.length = r.things.length
 hr : ∀ i (h : i < s.hands.length), s.hands[i].l < s.things.length ∧ s.hands[i].r < s.things.length ∧ -1 ≤ s.hands[i].l ∧ -1 ≤ s.hands[i].r
structure EvB (np nt w : Nat) (a : RAct) : Prop where
 who : a.who = w
 hand : a.hand = 0 ∨ a.hand = 1
 thing : a.kind = 2 → ∃ t : Nat, a.thing = t ∧ t < nt
 other : a.kind = 4 → ∃ o : Nat, a.other = o ∧ o < np
theorem everyL_ok {n nt np w : Nat} {a : RAct} (h : a ∈ everyL n nt np w) : EvB np nt w a := by
 have one : ∀ hand kind : Nat, (hand = 0 ∨ hand = 1) → a ∈ kindL nt np w kind hand → EvB np nt w a := fun hand kind hh ha => by
  have hh' : (hand : Int) = 0 ∨ (hand : Int) = 1 := by omega
  unfold kindL at ha
  split at ha
  ·simp only [thingL, List.mem_map, List.mem_range'] at ha
   obtain ⟨x, ⟨i, hi, rfl⟩, rfl⟩ := ha
   exact ⟨rfl, hh', fun _ => ⟨_, rfl, by omega⟩, fun h => by simp [act1] at h⟩
  ·split at ha
   ·simp only [otherL, List.mem_map, List.mem_filter, List.mem_range'] at ha
    obtain ⟨x, ⟨⟨i, hi, rfl⟩, _⟩, rfl⟩ := ha
    exact ⟨rfl, hh', fun h => by simp [act1] at h, fun _ => ⟨_, rfl, by omega⟩⟩
   ·rename_i k2 k4
    simp only [List.mem_singleton] at ha
    subst ha
    exact ⟨rfl, hh', fun h => by simp [act1] at h; omega, fun h => by simp [act1] at h; omega⟩
 simp only [everyL, List.mem_append] at h
 rcases h with h | h
 ·simp only [stepL, List.mem_map, List.mem_range'] at h
  obtain ⟨x, ⟨i, hi, rfl⟩, rfl⟩ := h
  exact ⟨rfl, .inl rfl, fun h => by simp [act1] at h, fun h => by simp [act1] at h⟩
 ·simp only [kindsL, List.mem_flatMap, bothL, List.mem_append] at h
  obtain ⟨k, _, h | h⟩ := h
  ·exact one 0 k (.inl rfl) h
  ·exact one 1 k (.inr rfl) h
theorem everyL_len (n nt np : Nat) (who : Int) : (everyL n nt np who).length ≤ n + 14 * (nt + np + 1) := by
  have h : ∀ k i, (kindsL nt np who k i).length ≤ k * (2 * (nt + np + 1)) := by
    intro k
    induction k with
    | zero => intro i; simp [kindsL]
    | succ k ih =>
      intro i
      rw [kindsL_succ, List.length_append, Nat.add_mul]
      have := bothL_len nt np who i
      have := ih (i + 1)
      omega
  have := h 7 2
  simp only [everyL, List.length_append, stepL, List.length_map, List.length_range']
  omega
theorem possible_ok {r : Rite} {s : Scene} {w : Nat} {a : RAct} (hs : ScB r s) (hw : w < r.people.length) (hpl : r.people.length ≤ 1000000) (hwide : r.wide ≠ 0) (ha : EvB r.people.length r.things.length w a) (hH : 0 < H.length) :
  gcall0 KC (geval KC) 84 [.pure (.agg r.row), .pure (.agg s.row), .pure (.agg a.row)] c H = some (.pure (.bool (posV r s w a)), H) := by
 obtain ⟨q1, who, kind, hand, thing, cell, other, q3, q4⟩ := a
 obtain ⟨h1, h2, h3, h4⟩ := ha
 simp only at h1 h2 h3 h4
 subst h1
 have e1 := hs.pl
 have e2 := hs.hl
 have e3 := hs.tl
 rcases h2 with rfl | rfl
 ·exact possible0_ok (by omega) (by omega) (by omega) (by omega) hwide (fun h => hs.hr w h) e3 (fun h => by obtain ⟨t, a, b⟩ := h3 h; exact ⟨t, a, by omega⟩) (fun h => by obtain ⟨t, a, b⟩ := h4 h; exact ⟨t, a, by omega, by omega⟩) hH
 ·exact possible1_ok (by omega) (by omega) (by omega) (by omega) hwide (fun h => hs.hr w h) e3 (fun h => by obtain ⟨t, a, b⟩ := h3 h; exact ⟨t, a, by omega⟩) (fun h => by obtain ⟨t, a, b⟩ := h4 h; exact ⟨t, a, by omega, by omega⟩) hH
theorem possibleP_ok {r : Rite} {s : Scene} {w : Nat} {a : RAct} (hs : ScB r s) (hw : w < r.people.length) (hpl : r.people.length ≤ 1000000) (hwide : r.wide ≠ 0) (ha : EvB r.people.length r.things.length w a) (hH : 0 < H.length) :
  gcall KC (geval KC) 84 [.pure (.agg r.row), .pure (.agg s.row), .pure (.agg a.row)] c H = some (.pure (.bool (posV r s w a)), H) := bor_c rfl rfl rfl rfl rfl hH fun H hH => possible_ok hs hw hpl hwide ha hH
noncomputable def mightL : Rite → Scene → Nat → List RAct → List RAct := hid fun r s w l => l.flatMap fun a => if posV r s w a = true then (if a.kind = 1 then [a] else [a, a, a]) else []
theorem mightL_def (r : Rite) (s : Scene) (w : Nat) (l : List RAct) : mightL r s w l = l.flatMap fun a => if posV r s w a = true then (if a.kind = 1 then [a] else [a, a, a]) else [] := by rw [mightL, hid_eq]
theorem mightL_nil (r : Rite) (s : Scene) (w : Nat) : mightL r s w [] = [] := by rw [mightL_def]; rfl
theorem mightL_cons (r : Rite) (s : Scene) (w : Nat) (a : RAct) (l : List RAct) : mightL r s w (a :: l) = (if posV r s w a = true then (if a.kind = 1 then [a] else [a, a, a]) else []) ++ mightL r s w l := by simp only [mightL_def, List.flatMap_cons]
theorem mightL_mem {r : Rite} {s : Scene} {w : Nat} {a : RAct} {l : List RAct} (h : a ∈ mightL r s w l) : a ∈ l ∧ posV r s w a = true := by
 rw [mightL_def, List.mem_flatMap] at h
 obtain ⟨x, hx, h⟩ := h
 split at h
 ·rename_i hp
  split at h
  ·simp at h; subst h; exact ⟨hx, hp⟩
  ·simp at h; subst h; exact ⟨hx, hp⟩
 ·simp at h
theorem mightL_len (r : Rite) (s : Scene) (w : Nat) : ∀ l : List RAct, (mightL r s w l).length ≤ 3 * l.length
  | [] => by simp [mightL_nil]
  | a :: l => by
    have := mightL_len r s w l
    rw [mightL_cons, List.length_append, List.length_cons]
    split
    · split <;> simp <;> omega
    · simp; omega
theorem apK2_1 {key key2 es : Nat} {rows : List (List PV)} {fr f0 : Fr} {l bytes : Nat} {r r1 r2 : List PV} (hl : H.length = l) (hf : fr.get key = none) (hb : (rows.length + 1 + 2) * bytes ≤ 1099511627776) :
  apK l key2 (apS (l, key) es (rows ++ [r])) es bytes [r1, r2] (f0 :: apF key es (rows ++ [r]) fr :: H) = some (apS (l, key) es (rows ++ [r, r1, r2]), f0 :: apF key es (rows ++ [r, r1, r2]) fr :: H) := by
 subst hl
 simp [apS, apF, hb, Fr.get_ins, Fr.ins_ins]
def mightF (r : Rite) (s : Scene) : Fr := [(5, rbox r), (6, sbox s), (8, abox act0)]
theorem might_loop (r : Rite) (s : Scene) (w : Nat) (hs : ScB r s) (hw : w < r.people.length) (hpl : r.people.length ≤ 1000000) (hwide : r.wide ≠ 0) (all : List RAct) (hall : ∀ a ∈ all, EvB r.people.length r.things.length w a) (hal : all.length ≤ 30000000) (nm : Nm) (hnm : nm.1 < H.length) (Q : GX → GSt → Prop) :
    ∀ (k i : Nat) (l : List RAct), i + k = all.length → l.length ≤ 3 * i →
    Q (.exit 0) ⟨[(0, .bptr nm 0), (8, .bptr (H.length, 8) 0), (10, apS (H.length, 35) 9 ((l ++ mightL r s w (all.drop i)).map RAct.row))], apF 35 9 ((l ++ mightL r s w (all.drop i)).map RAct.row) (mightF r s) :: H, 64⟩ →
    WPL KC needT 49 (lp Tryz.f49 0) [0, 5, 6, 8, 10, 11, 12] [0, 8, 10] Q
      [(0, .bptr nm 0), (5, .bptr (H.length, 5) 0), (6, .bptr (H.length, 6) 0), (8, .bptr (H.length, 8) 0), (10, apS (H.length, 35) 9 (l.map RAct.row)), (11, .pure (.slice (all.map RAct.row))), (12, .pure (.int .i64 i))]
      (apF 35 9 (l.map RAct.row) (mightF r s) :: H) 64 := by
  have hle : nm.1 ≤ H.length := by omega
  intro k
  induction k with
  | zero =>
    intro i l hi hl h1
    have e1 : all.drop i = [] := List.drop_of_length_le (by omega)
    rw [e1, mightL_nil, List.append_nil] at h1
    have : ¬ i < all.length := by omega
    apply WPL_step
    conv => arg 4; whnf
    simp [this, hle]
    exact h1
  | succ k ih =>
    intro i l hi hl h1
    have hia : i < all.length := by omega
    have hw1 := w64 (x := (i : Int) + 1) (by omega) (by omega)
    have hev := hall all[i] (List.getElem_mem hia)
    have P := fun (c : Nat) (H : Heap) (hH : 0 < H.length) => possibleP_ok (c := c) (H := H) hs hw hpl hwide hev hH
    simp only [rowR, Scene.row, RAct.row] at P
    rw [List.drop_eq_getElem_cons hia, mightL_cons, ← List.append_assoc] at h1
    apply WPL_step
    conv => arg 4; whnf
    cases hp : posV r s w all[i] with
    | false =>
      simp only [hp, Bool.false_eq_true, if_false, List.append_nil] at h1
      have ih' := ih (i + 1) l (by omega) (by omega) h1
      simp [mightF, rbox, sbox, abox, hia, RAct.row, P, hp, hw1, hle, Fr.get]
      simpa [mightF, rbox, sbox, abox, RAct.row] using ih'
    | true =>
      have hb : (l.length + 1) * 72 ≤ 1099511627776 := by omega
      have hl4 : l.length + 3 ≤ 90000003 := by omega
      have hb2 : (l.length + 1 + 2) * 72 ≤ 1099511627776 := Nat.le_trans (Nat.mul_le_mul_right 72 (show l.length + 1 + 2 ≤ 90000003 from hl4)) (by decide)
      have hi1 : (i + 1) + k = all.length := by omega
      have hl1 : (l ++ [all[i]]).length ≤ 3 * (i + 1) := by simp; omega
      have hl3 : (l ++ [all[i], all[i], all[i]]).length ≤ 3 * (i + 1) := by simp; omega
      by_cases hk : all[i].kind = 1
      · simp only [hp, hk, if_true] at h1
        have ih' := ih (i + 1) (l ++ [all[i]]) hi1 hl1 h1
        have hk' : (all[i].kind == 1) = true := by simpa using hk
        simp [mightF, rbox, sbox, abox, hia, RAct.row, P, hp, hw1, hle, hb, bne, hk', Fr.get]
        simpa [mightF, rbox, sbox, abox, RAct.row] using ih'
      · have hk' : (all[i].kind == 1) = false := by simpa using hk
        simp only [hp, hk, if_true, if_false] at h1
        have ih' := ih (i + 1) (l ++ [all[i], all[i], all[i]]) hi1 hl3 h1
        simp [mightF, rbox, sbox, abox, hia, RAct.row, P, hp, hw1, hle, hb, bne, hk', Fr.get, apK2_1, hb2]
        simpa [mightF, rbox, sbox, abox, RAct.row] using ih'
noncomputable def mightR : Rite → Scene → Nat → List RAct → Int → (RAct × Bool) × Int := hid fun r s w all wd =>
 if mightL r s w all = [] then ((act0, false), wd) else (((mightL r s w all).getD (upR wd (mightL r s w all).length).1.toNat act0, true), (upR wd (mightL r s w all).length).2)
theorem mightR_def (r : Rite) (s : Scene) (w : Nat) (all : List RAct) (wd : Int) : mightR r s w all wd =
 if mightL r s w all = [] then ((act0, false), wd) else (((mightL r s w all).getD (upR wd (mightL r s w all).length).1.toNat act0, true), (upR wd (mightL r s w all).length).2) := by rw [mightR, hid_eq]
theorem might_ok (r : Rite) (s : Scene) (w n : Nat) (hs : ScB r s) (hw : w < r.people.length) (hpl : r.people.length ≤ 1000000) (htl : r.things.length ≤ 1000000) (hwide : r.wide ≠ 0) (hn : IntKind.i64.wrap (r.wide * r.deep) = n) (hn0 : 0 < n) (hnb : n ≤ 1000000) {nm : Nm} (hB : isBox H nm) :
  gcall0 KC (geval KC) 49 [.bptr nm 0, .pure (.agg r.row), .pure (.agg s.row), .pure (.int .i64 w)] c H =
   some (.pure (.tuple [.agg (mightR r s w (everyL n r.things.length r.people.length w) (wordAt H nm)).1.1.row, .bool (mightR r s w (everyL n r.things.length r.people.length w) (wordAt H nm)).1.2]), H.set nm (wbox (mightR r s w (everyL n r.things.length r.people.length w) (wordAt H nm)).2)) := by
 have hlt := isBox_lt hB
 have hset := isBox_set hB
 have hne : ¬ nm.1 = H.length := by omega
 have hle : nm.1 ≤ H.length := by omega
 refine WPv_eq (call_enter0 KC needT Tryz.func49 rfl rfl good49 (by simp) (by omega) ?_)
 have E := fun c (H : Heap) (hH : 0 < H.length) => every_ok (c := c) (H := H) r w n r.things.length r.people.length hn hn0 hnb rfl rfl htl hpl hH
 have el := everyL_len n r.things.length r.people.length (w : Int)
 have L := fun Q h => might_loop (H := H) r s w hs hw hpl hwide (everyL n r.things.length r.people.length w) (fun a ha => everyL_ok ha) (by omega) nm hlt Q _ 0 [] (Nat.zero_add _) (by simp) h
 have hd := mightR_def r s w (everyL n r.things.length r.people.length w) (wordAt H nm)
 have ml := mightL_len r s w (everyL n r.things.length r.people.length w)
 rw [rowR] at E ⊢
 simp only [Scene.row]
 simp [apS_nil, apF_nil, mightF, rbox, sbox, abox, act0] at L
 simp [E]
 refine L _ ?_
 generalize mightL r s w (everyL n r.things.length r.people.length w) = l at *
 generalize mightR r s w (everyL n r.things.length r.people.length w) (wordAt H nm) = res at *
 by_cases hl : l = []
 ·subst hl
  simp at hd
  subst hd
  simp [apS_nil, apF_nil, gleave_free, RAct.row, act0, hset]
 ·rw [if_neg hl] at hd
  have hl0 : 0 < l.length := List.length_pos_iff.2 hl
  have hll : (l.length : Int) ≤ 9223372036854775807 := by omega
  have hr := upR_rng (wordAt H nm) l.length hll
  have h3 : ¬ (upR (wordAt H nm) l.length).1 < 0 := by omega
  have h4 : (upR (wordAt H nm) l.length).1.toNat < l.length := by have := hr; omega
  have h5 : (upR (wordAt H nm) l.length).1 < (l.length : Int) := by have := hr; omega
  have hl2 : ((l.length : Int) == 0) = false := beq_eq_false_iff_ne.2 (by omega)
  have hgd : l.getD (upR (wordAt H nm) l.length).1.toNat act0 = l[(upR (wordAt H nm) l.length).1.toNat] := by simp [List.getD_eq_getElem?_getD, h4]
  rw [hgd] at hd
  subst hd
  have hB' : ∀ fr, isBox (fr :: H) nm := fun fr => isBox_up hB
  simp [apS, apF, hl, hl2, up_ok, hB', hll, wordAt_up, hlt, hne, Heap.set_up, h3, h4, h5, gleave_free, RAct.row, Fr.ins]
end
section
variable {c : Nat} {H : Heap}
def empty : Hands := ⟨-1, -1⟩
def spotOf (t : Thing) : Spot := ⟨t.cell, t.state⟩
def firstV (r : Rite) : Scene := ⟨r.people.map (·.cell), r.people.map fun _ => empty, r.things.map spotOf⟩
def ff1 (r : Rite) (L : Nat) (p : List Int) (h : List Hands) : Fr :=
 [(1, rbox r), (2, .box [.nils, .nils, .nils]), (3, .box [.hdr (L, 22) 1 p.length 0 p.length, .hdr (L, 27) 2 h.length 0 h.length, .nils]), (22, .arr 1 (p.map irow) 0 false), (27, .arr 2 (h.map Hands.row) 0 false)]
def ff2 (r : Rite) (L : Nat) (p : List Int) (h : List Hands) (t : List Spot) : Fr :=
 [(1, rbox r), (2, .box [.nils, .nils, .nils]), (3, .box [.hdr (L, 22) 1 p.length 0 p.length, .hdr (L, 27) 2 h.length 0 h.length, .hdr (L, 53) 2 t.length 0 t.length]), (22, .arr 1 (p.map irow) 0 false), (27, .arr 2 (h.map Hands.row) 0 false), (53, .arr 2 (t.map Spot.row) 0 false)]
theorem first_loop1 (r : Rite) (hpl : r.people.length ≤ 1000000) (Q : GX → GSt → Prop) : ∀ (k i : Nat) (p : List Int) (h : List Hands), i + k = r.people.length → p.length = i → h.length = i → 0 < i →
    Q (.exit 0) ⟨[(1, .bptr (H.length, 1) 0), (2, .bptr (H.length, 2) 0), (3, .bptr (H.length, 3) 0)], ff1 r H.length (p ++ (r.people.drop i).map (·.cell)) (h ++ (r.people.drop i).map fun _ => empty) :: H, 56⟩ →
    WPL KC needT 48 (lp Tryz.f48 0) [1, 2, 3, 4] [1, 2, 3] Q
      [(1, .bptr (H.length, 1) 0), (2, .bptr (H.length, 2) 0), (3, .bptr (H.length, 3) 0), (4, .pure (.int .i64 i))] (ff1 r H.length p h :: H) 56 := by
  intro k
  induction k with
  | zero =>
    intro i p h hi h1 h2 h3 hq
    have e1 : r.people.drop i = [] := List.drop_of_length_le (by omega)
    rw [e1] at hq
    have : ¬ i < r.people.length := by omega
    apply WPL_step
    conv => arg 4; whnf
    simp [ff1, rbox, this]
    simpa [ff1, rbox] using hq
  | succ k ih =>
    intro i p h hi h1 h2 h3 hq
    have hia : i < r.people.length := by omega
    have hw := w64 (x := (i : Int) + 1) (by omega) (by omega)
    rw [List.drop_eq_getElem_cons hia] at hq
    have hb1 : (i + 1) * 8 ≤ 1099511627776 := by omega
    have hb2 : (i + 1) * 16 ≤ 1099511627776 := by omega
    have ih' := ih (i + 1) (p ++ [r.people[i].cell]) (h ++ [empty]) (by omega) (by simp [h1]) (by simp [h2]) (by omega)
    simp only [List.append_assoc, List.singleton_append, List.map_cons] at ih' hq
    apply WPL_step
    conv => arg 4; whnf
    simp [ff1, rbox, hia, hw, Person.row, h1, h2, hb1, hb2]
    have := ih' hq
    simpa [ff1, rbox, irow, Hands.row, empty, h1, h2, Person.row] using this
theorem first_loop2 (r : Rite) (htl : r.things.length ≤ 1000000) (p : List Int) (h : List Hands) (Q : GX → GSt → Prop) : ∀ (k i : Nat) (t : List Spot), i + k = r.things.length → t.length = i → 0 < i →
    Q (.exit 2) ⟨[(2, .bptr (H.length, 2) 0), (3, .bptr (H.length, 3) 0)], ff2 r H.length p h (t ++ (r.things.drop i).map spotOf) :: H, 56⟩ →
    WPL KC needT 48 (lp Tryz.f48 1) [1, 2, 3, 5] [2, 3] Q
      [(1, .bptr (H.length, 1) 0), (2, .bptr (H.length, 2) 0), (3, .bptr (H.length, 3) 0), (5, .pure (.int .i64 i))] (ff2 r H.length p h t :: H) 56 := by
  intro k
  induction k with
  | zero =>
    intro i t hi h1 h3 hq
    have e1 : r.things.drop i = [] := List.drop_of_length_le (by omega)
    rw [e1] at hq
    have : ¬ i < r.things.length := by omega
    apply WPL_step
    conv => arg 4; whnf
    simp [ff2, rbox, this]
    simpa [ff2, rbox] using hq
  | succ k ih =>
    intro i t hi h1 h3 hq
    have hia : i < r.things.length := by omega
    have hw := w64 (x := (i : Int) + 1) (by omega) (by omega)
    rw [List.drop_eq_getElem_cons hia] at hq
    have hb2 : (i + 1) * 16 ≤ 1099511627776 := by omega
    have ih' := ih (i + 1) (t ++ [spotOf r.things[i]]) (by omega) (by simp [h1]) (by omega)
    simp only [List.append_assoc, List.singleton_append, List.map_cons] at ih' hq
    apply WPL_step
    conv => arg 4; whnf
    simp [ff2, rbox, hia, hw, Thing.row, h1, hb2]
    have := ih' hq
    simpa [ff2, rbox, irow, Spot.row, spotOf, h1, Thing.row] using this
def hdrS (L k1 k2 k3 : Nat) (s : Scene) : GV := .agg [.hdr (L, k1) 1 s.people.length 0 s.people.length, .hdr (L, k2) 2 s.hands.length 0 s.hands.length, .hdr (L, k3) 2 s.things.length 0 s.things.length]
theorem map_head {α β : Type} (f : α → β) (l : List α) (h : 0 < l.length) : f l[0] :: (l.drop 1).map f = l.map f := by
 cases l with
 | nil => simp at h
 | cons a t => rfl
theorem first_ok0 (r : Rite) (hp0 : r.people ≠ []) (ht0 : r.things ≠ []) (hpl : r.people.length ≤ 1000000) (htl : r.things.length ≤ 1000000) (hH : 0 < H.length)
  (hf1 : H.get (H.length - 1, newKey c 22) = none) (hf2 : H.get (H.length - 1, newKey c 27) = none) (hf3 : H.get (H.length - 1, newKey c 53) = none) :
  gcall0 KC (geval KC) 48 [.pure (.agg r.row)] c H = some (hdrS (H.length - 1) (newKey c 22) (newKey c 27) (newKey c 53) (firstV r),
   ((H.set (H.length - 1, newKey c 22) (.arr 1 ((firstV r).people.map irow) 0 false)).set (H.length - 1, newKey c 27) (.arr 2 ((firstV r).hands.map Hands.row) 0 false)).set (H.length - 1, newKey c 53) (.arr 2 ((firstV r).things.map Spot.row) 0 false)) := by
 refine WPv_eq (call_enter0 KC needT Tryz.func48 rfl rfl good48 (by simp) hH ?_)
 rw [rowR]
 have lp0 : 0 < r.people.length := List.length_pos_iff.2 hp0
 have lt0 : 0 < r.things.length := List.length_pos_iff.2 ht0
 have n12 : newKey c 22 ≠ newKey c 27 := by unfold newKey; omega
 have n13 : newKey c 22 ≠ newKey c 53 := by unfold newKey; omega
 have n23 : newKey c 27 ≠ newKey c 53 := by unfold newKey; omega
 have L1 := fun Q => first_loop1 (H := H) r hpl Q (r.people.length - 1) 1 [r.people[0].cell] [empty] (by omega) rfl rfl (by omega)
 have L2 := fun p h Q => first_loop2 (H := H) r htl p h Q (r.things.length - 1) 1 [spotOf r.things[0]] (by omega) rfl (by omega)
 have ep : r.people[0].cell :: (r.people.drop 1).map (fun p => p.cell) = r.people.map (fun p => p.cell) := map_head (fun p : Person => p.cell) r.people lp0
 have eh : empty :: ((r.people.drop 1).map fun _ => empty) = r.people.map fun _ => empty := map_head (fun _ : Person => empty) r.people lp0
 have et : spotOf r.things[0] :: (r.things.drop 1).map spotOf = r.things.map spotOf := map_head spotOf r.things lt0
 simp only [List.singleton_append, ep, eh, et] at L1 L2
 simp [ff1, rbox, irow, Hands.row, empty] at L1
 simp
 apply WPL_step
 conv => arg 4; whnf
 simp [lp0, Person.row]
 refine L1 _ ?_
 clear L1
 have L3 := L2 (r.people.map (·.cell)) (r.people.map fun _ => empty)
 simp [ff2, rbox, irow, Hands.row, empty, Spot.row, spotOf] at L3
 simp
 apply WPL_step
 conv => arg 4; whnf
 simp [lt0, Thing.row]
 refine L3 _ ?_
 have k1 : (H.length - 1, newKey c 27) ≠ ((H.length - 1, newKey c 22) : Nm) := fun e => n12 (Prod.mk.inj e).2.symm
 have k2 : (H.length - 1, newKey c 53) ≠ ((H.length - 1, newKey c 22) : Nm) := fun e => n13 (Prod.mk.inj e).2.symm
 have k3 : (H.length - 1, newKey c 53) ≠ ((H.length - 1, newKey c 27) : Nm) := fun e => n23 (Prod.mk.inj e).2.symm
 have g2 : ∀ b, (H.set (H.length - 1, newKey c 22) b).get (H.length - 1, newKey c 27) = none := fun b => (Heap.get_set_other b k1).trans hf2
 have g3 : ∀ b b', ((H.set (H.length - 1, newKey c 22) b).set (H.length - 1, newKey c 27) b').get (H.length - 1, newKey c 53) = none := fun b b' => (Heap.get_set_other b' k3).trans ((Heap.get_set_other b k2).trans hf3)
 simp [gleave_keep, refs, refs2, refs1, dedup, moveOut, cleanBlk, hf1, g2, g3, ren, ren2, ren1, hdrS, firstV, mkAgg, allPure, irow, Hands.row, empty, Spot.row, spotOf]
end
end Go.Gh

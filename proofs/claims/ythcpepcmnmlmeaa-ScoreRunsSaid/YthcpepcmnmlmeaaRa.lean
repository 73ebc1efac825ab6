/- The score's data; calls with lent slices; the kit's functions on boxes of numbers; the chapter's examples. -/
import Derived.Test.YthcpepcmnmlmeaaGs
import Derived.Test.YthcpepcmnmlmeaaGw
namespace Go.Gh
open Go.Proofs
set_option linter.unusedSimpArgs false
set_option linter.unusedVariables false
set_option maxRecDepth 100000
structure Scoring where
  packet : Int
  pair : Int
  whole : Int
  new : Int
  loss : Int
  keys : List Int
  deriving DecidableEq
structure Score where
  points : Int
  packets : Int
  wrong : Int
  pairs : Int
  new : Int
  whole : Int
  start : Int
  honour : Int
  deriving DecidableEq
def irow (n : Int) : List PV := [.int .i64 n]
def Scoring.row (s : Scoring) : List PV := [.int .i64 s.packet, .int .i64 s.pair, .int .i64 s.whole, .int .i64 s.new, .int .i64 s.loss, .slice (s.keys.map irow)]
def Score.row (x : Score) : List PV := [.int .i64 x.points, .int .i64 x.packets, .int .i64 x.wrong, .int .i64 x.pairs, .int .i64 x.new, .int .i64 x.whole, .int .i64 x.start, .int .i64 x.honour]
@[simp] theorem KC_keep {f : Nat} : KC.keep f = keepL.contains f := .trans rfl rfl
attribute [simp] keepL
section
variable {f c : Nat} {H : Heap} {args : List GV} {p : PV}
theorem bor_c (hc : KC.cln f = false) (hb : KC.bor f = true) (hz : (frzVals H args).1.map canon = args) (hq : borBox args = some none) (hfl : flatP p = true) (hH : 0 < H.length)
    (h0 : ∀ H : Heap, 0 < H.length → gcall0 KC (geval KC) f args c H = some (.pure p, H)) : gcall KC (geval KC) f args c H = some (.pure p, H) := bor_flat KC hc hb hz hq hH h0 hfl
end
theorem gcall_geval {K : Ctx} {n : Nat} {f : FuncId} {args : List GV} {c : Nat} {H : Heap} {r : GV × Heap} (h : gcall K (gexec K n) f args c H = some r) : gcall K (geval K) f args c H = some r := by
  obtain ⟨N, hN⟩ := gcall_lim K (F := fun _ => geval K) (rec := gexec K n) (fun fn c st r h => ⟨0, fun _ _ => (geval_iff K).2 (gexec_stable K n _ _ _ _ h)⟩) h
  exact hN N (Nat.le_refl _)
variable {c : Nat} {H : Heap}
def inB (x lo hi : Int) : Bool := decide (lo ≤ x) && decide (x ≤ hi)
theorem withinP_ok {x lo hi : Int} (hH : 0 < H.length) : gcall KC (geval KC) 77 [.pure (.int .i64 x), .pure (.int .i64 lo), .pure (.int .i64 hi)] c H = some (.pure (.bool (inB x lo hi)), H) := by
  refine WPv_eq (call_enter KC needT Try.func77 rfl rfl good77 rfl rfl rfl (by simp) hH ?_)
  by_cases h : lo ≤ x
  · simp [h, inB, gleave_free]
  · simp [h, inB, gleave_free]
theorem withinR_ok {x lo hi : Int} (hH : 0 < H.length) : gcall KC (geval KC) 79 [.pure (.int .i64 x), .pure (.int .i64 lo), .pure (.int .i64 hi)] c H = some (.pure (.bool (inB x lo hi)), H) := by
  refine WPv_eq (call_enter KC needT Try.func79 rfl rfl good79 rfl rfl rfl (by simp) hH ?_)
  by_cases h : lo ≤ x
  · simp [h, inB, gleave_free]
  · simp [h, inB, gleave_free]
theorem inB_iff {x lo hi : Int} : inB x lo hi = true ↔ lo ≤ x ∧ x ≤ hi := by simp [inB]
end Go.Gh


/- The kit's functions: boxes of numbers. -/
namespace Go.Gh
open Go.Proofs
set_option linter.unusedSimpArgs false
set_option linter.unusedVariables false
set_option maxRecDepth 100000
variable {c : Nat} {H : Heap}
noncomputable def turnS : Int → Int := hid fun w => IntKind.u64.wrap (w + 11507291218515648293)
theorem turnS_def (w : Int) : turnS w = IntKind.u64.wrap (w + 11507291218515648293) := by rw [turnS, hid_eq]
def xors (x n : Int) : Int := bxor .u64 x (x.fdiv n)
noncomputable def turnV : Int → Int := hid fun w => xors (IntKind.u64.wrap (xors (IntKind.u64.wrap (xors (IntKind.u64.wrap (w + 11507291218515648293)) 4294967296 * 15485907386658061715)) 536870912 * 14029467366897019727)) 4294967296
theorem turnV_def (w : Int) : turnV w = xors (IntKind.u64.wrap (xors (IntKind.u64.wrap (xors (IntKind.u64.wrap (w + 11507291218515648293)) 4294967296 * 15485907386658061715)) 536870912 * 14029467366897019727)) 4294967296 := by rw [turnV, hid_eq]
theorem u64_rng (x : Int) : 0 ≤ IntKind.u64.wrap x ∧ IntKind.u64.wrap x ≤ 18446744073709551615 := by rw [IntKind.wrap_u64]; omega
theorem turnV_rng (w : Int) : 0 ≤ turnV w ∧ turnV w ≤ 18446744073709551615 := by rw [turnV_def]; exact u64_rng _
@[simp] theorem bits_u64 : IntKind.u64.bits = 64 := rfl
@[simp] theorem bits_i64 : IntKind.i64.bits = 64 := rfl
theorem turn_ok {nm : Nm} (hB : isBox H nm) : gcall KC (geval KC) 54 [.bptr nm 0] c H = some (.pure (.int .u64 (turnV (wordAt H nm))), H.set nm (wbox (turnS (wordAt H nm)))) := by
  have hl := isBox_lt hB
  have hg := isBox_get hB
  refine WPv_eq (call_enter KC needT Try.func54 rfl rfl good54 rfl rfl rfl (by simp) (by omega) ?_)
  have hne : ¬ nm.1 = H.length := by omega
  have h1 : (IntKind.u64.wrap 32) = 32 := rfl
  generalize wordAt H nm = w at *
  unfold wbox at *
  simp [hne, hl, hg, gleave_free, turnV_def, turnS_def, xors]
noncomputable def upR : Int → Int → Int × Int := hid fun w n =>
  if n < 2 then (0, w) else (IntKind.i64.wrap (((turnV w).fdiv 2).tmod (IntKind.u64.wrap n)), turnS w)
theorem upR_def (w : Int) (n : Int) : upR w n =
  (if n < 2 then (0, w) else (IntKind.i64.wrap (((turnV w).fdiv 2).tmod (IntKind.u64.wrap n)), turnS w)) := by rw [upR, hid_eq]
theorem upR_rng (w n : Int) (h : n ≤ 9223372036854775807) : 0 ≤ (upR w n).1 ∧ ((upR w n).1 < n ∨ (upR w n).1 = 0) := by
  rw [upR_def]
  split
  · simp
  · have h1 := turnV_rng w
    have h2 : IntKind.u64.wrap n = n := by rw [IntKind.wrap_u64]; omega
    have h3 : 0 ≤ (turnV w).fdiv 2 := Int.fdiv_nonneg h1.1 (by omega)
    rw [h2, Int.tmod_eq_emod_of_nonneg h3]
    have h4 := Int.emod_nonneg ((turnV w).fdiv 2) (show n ≠ 0 by omega)
    have h5 := Int.emod_lt_of_pos ((turnV w).fdiv 2) (show 0 < n by omega)
    rw [w64 (by omega) (by omega)]
    exact ⟨h4, .inl h5⟩
theorem up_ok {nm : Nm} {n : Int} (hB : isBox H nm) (hn : n ≤ 9223372036854775807) : gcall KC (geval KC) 32 [.bptr nm 0, .pure (.int .i64 n)] c H = some (.pure (.int .i64 (upR (wordAt H nm) n).1), H.set nm (wbox (upR (wordAt H nm) n).2)) := by
  have hl := isBox_lt hB
  have hs := isBox_set hB
  refine WPv_eq (call_enter KC needT Try.func32 rfl rfl good32 rfl rfl rfl (by simp) (by omega) ?_)
  have hne : ¬ nm.1 = H.length := by omega
  by_cases h : n < 2
  · simp [h, upR_def, hs, gleave_free]
  · have h2 : IntKind.u64.wrap n = n := by rw [IntKind.wrap_u64]; omega
    have h3 : ¬ n = 0 := by omega
    have h4 : ¬ IntKind.u64.wrap n = 0 := by rw [h2]; exact h3
    simp [h, upR_def, turn_ok (isBox_up hB), wordAt_up hl, Heap.set_up hl, gleave_free, h4]
noncomputable def anyR : Int → Int → Int → Int × Int := hid fun w lo hi =>
  let r := upR w (IntKind.i64.wrap (IntKind.i64.wrap (hi - lo) + 1))
  (IntKind.i64.wrap (lo + r.1), r.2)
theorem anyR_def (w : Int) (lo : Int) (hi : Int) : anyR w lo hi =
  (let r := upR w (IntKind.i64.wrap (IntKind.i64.wrap (hi - lo) + 1))
  (IntKind.i64.wrap (lo + r.1), r.2)) := by rw [anyR, hid_eq]
theorem i64_rng (x : Int) : -9223372036854775808 ≤ IntKind.i64.wrap x ∧ IntKind.i64.wrap x ≤ 9223372036854775807 := by rw [IntKind.wrap_i64]; omega
theorem anyR_rng (w lo hi : Int) (h0 : -4611686018427387903 ≤ lo) (h1 : hi ≤ 4611686018427387903) (h : lo ≤ hi) : lo ≤ (anyR w lo hi).1 ∧ (anyR w lo hi).1 ≤ hi := by
  rw [anyR_def]
  rw [w64 (x := hi - lo) (by omega) (by omega), w64 (x := hi - lo + 1) (by omega) (by omega)]
  have := upR_rng w (hi - lo + 1) (by omega)
  simp only
  rw [w64 (by omega) (by omega)]
  omega
theorem any_ok {nm : Nm} {lo hi : Int} (hB : isBox H nm) : gcall KC (geval KC) 25 [.bptr nm 0, .pure (.int .i64 lo), .pure (.int .i64 hi)] c H = some (.pure (.int .i64 (anyR (wordAt H nm) lo hi).1), H.set nm (wbox (anyR (wordAt H nm) lo hi).2)) := by
  have hl := isBox_lt hB
  refine WPv_eq (call_enter KC needT Try.func25 rfl rfl good25 rfl rfl rfl (by simp) (by omega) ?_)
  have hr := (i64_rng (IntKind.i64.wrap (hi - lo) + 1)).2
  simp [anyR_def, up_ok (isBox_up hB) hr, wordAt_up hl, Heap.set_up hl, gleave_free]
noncomputable def oneR : Int → Int → Bool × Int := hid fun w n =>
  ((upR w n).1 == 0, (upR w n).2)
theorem oneR_def (w : Int) (n : Int) : oneR w n =
  (((upR w n).1 == 0, (upR w n).2)) := by rw [oneR, hid_eq]
theorem one_ok {nm : Nm} {n : Int} (hB : isBox H nm) (hn : n ≤ 9223372036854775807) : gcall KC (geval KC) 49 [.bptr nm 0, .pure (.int .i64 n)] c H = some (.pure (.bool (oneR (wordAt H nm) n).1), H.set nm (wbox (oneR (wordAt H nm) n).2)) := by
  have hl := isBox_lt hB
  refine WPv_eq (call_enter KC needT Try.func49 rfl rfl good49 rfl rfl rfl (by simp) (by omega) ?_)
  simp [oneR_def, up_ok (isBox_up hB) hn, wordAt_up hl, Heap.set_up hl, gleave_free]
noncomputable def pickR : Int → List Int → Int × Int := hid fun w l =>
  if l.length = 0 then (0, w) else (l.getD (upR w l.length).1.toNat 0, (upR w l.length).2)
theorem pickR_def (w : Int) (l : List Int) : pickR w l =
  (if l.length = 0 then (0, w) else (l.getD (upR w l.length).1.toNat 0, (upR w l.length).2)) := by rw [pickR, hid_eq]
theorem pick_ok {nm : Nm} {l : List Int} (hB : isBox H nm) (hn : l.length < 4611686018427387904) : gcall KC (geval KC) 56 [.bptr nm 0, .pure (.slice (l.map irow))] c H = some (.pure (.int .i64 (pickR (wordAt H nm) l).1), H.set nm (wbox (pickR (wordAt H nm) l).2)) := by
  have hl := isBox_lt hB
  have hs := isBox_set hB
  refine WPv_eq (call_enter KC needT Try.func56 rfl rfl good56 rfl rfl rfl (by simp) (by omega) ?_)
  by_cases h : l.length = 0
  · obtain rfl : l = [] := List.length_eq_zero_iff.1 h
    simp [pickR_def, hs, gleave_free]
  · have h2 : ((l.length : Int) == 0) = false := beq_eq_false_iff_ne.2 (by omega)
    have hr := upR_rng (wordAt H nm) l.length (by omega)
    have h3 : ¬ (upR (wordAt H nm) l.length).1 < 0 := by omega
    have h4 : (upR (wordAt H nm) l.length).1.toNat < l.length := by have := hr; clear hl hs hB; omega
    simp [h, h2, pickR_def, up_ok (isBox_up hB) (show (l.length : Int) ≤ 9223372036854775807 by omega), wordAt_up hl, Heap.set_up hl, gleave_free, h3, h4, irow]
theorem gleave_keep {K : Ctx} {f : Nat} {c : Nat} {r : GV} {fr : Fr} (h : K.keep f = true) : gleave K f c r (fr :: H) = (match moveOut (clM c fr H (dedup (deepRefs fr H.length (refs H.length r))) (H.length - 1)) fr H c (dedup (deepRefs fr H.length (refs H.length r))) H with | some H' => some (ren H.length c r, H') | none => none) := by
  unfold gleave; simp only [h, if_true]; rfl
theorem box_loop (l : List Int) (hn : l.length ≤ 9223372036854775807) (Q : GX → GSt → Prop) (hH : 0 < H.length) : ∀ (k i : Nat) (w : Int), i + k = l.length →
    (∀ w', Q (.exit 0) ⟨[(3, .bptr (H.length, 6) 0)], [(6, wbox w')] :: H, 30⟩) →
    WPL KC needT 14 (lp Try.f14 0) [0, 3, 4] [3] Q [(0, .pure (.slice (l.map irow))), (3, .bptr (H.length, 6) 0), (4, .pure (.int .i64 i))] ([(6, wbox w)] :: H) 30 := by
  intro k
  induction k with
  | zero =>
    intro i w hi h1
    have hia : ¬ i < l.length := by omega
    apply WPL_step
    conv => arg 4; whnf
    simp [hia, hH]
    exact h1 w
  | succ k ih =>
    intro i w hi h1
    have hia : i < l.length := by omega
    have hw := w64 (x := (i : Int) + 1) (by omega) (by omega)
    have ih' := fun w => ih (i + 1) w (by omega) h1
    apply WPL_step
    conv => arg 4; whnf
    have T := fun (v : Int) (c : Nat) => turn_ok (c := c) (H := [] :: [(6, wbox v)] :: H) (nm := (H.length, 6)) ⟨v, by simp, by simp⟩
    simp [wordAt, wbox] at T
    simp [hia, hH, irow, hw, wbox, T]
    simpa [wbox] using ih' _
theorem BoxOf_ok (l : List Int) (hn : l.length ≤ 9223372036854775807) (hH : 0 < H.length) (hfree : H.get (H.length - 1, newKey c 6) = none) :
    ∃ w, gcall KC (geval KC) 14 [.pure (.slice (l.map irow))] c H = some (.bptr (H.length - 1, newKey c 6) 0, H.set (H.length - 1, newKey c 6) (wbox w)) := by
  have key : WPv (gcall KC (geval KC) 14 [.pure (.slice (l.map irow))] c H) (fun x => ∃ w, x = (.bptr (H.length - 1, newKey c 6) 0, H.set (H.length - 1, newKey c 6) (wbox w))) := by
    refine call_enter KC needT Try.func14 rfl rfl good14 rfl rfl rfl (by simp) hH ?_
    have h0 := fun Q hq => box_loop l hn Q hH l.length 0 2685821657736338717 (by omega) hq
    simp [wbox] at h0
    simp
    refine h0 _ (fun w => ?_)
    simp [gleave_keep, KC_keep, refs, refs2, refs1, deepRefs, boxRefs, matRefs, dedup, moveOut, cleanBlk, clM, hfree, ren, ren2, ren1]
    exact ⟨w, rfl⟩
  obtain ⟨r, e1, w, e2⟩ := key
  exact ⟨w, by rw [e1, e2]⟩
end Go.Gh

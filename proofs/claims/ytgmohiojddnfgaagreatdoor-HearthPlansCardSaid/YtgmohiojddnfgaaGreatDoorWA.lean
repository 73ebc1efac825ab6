/- The hearth: data. -/
import Derived.Test.YtgmohiojddnfgaaGreatDoorWC
namespace Go.Gh
open Go.Proofs
set_option linter.unusedSimpArgs false
set_option linter.unusedVariables false
set_option maxRecDepth 100000
set_option maxHeartbeats 2000000

/-! ### data -/
structure Span where
  lo : Int
  hi : Int
  deriving DecidableEq
structure Coal where
  katch : Span
  burn : Span
  heat : Span
  lit : Bool
  deriving DecidableEq
structure Touch where
  a : Int
  b : Int
  deriving DecidableEq
structure Fire where
  coals : List Coal
  touches : List Touch
  deriving DecidableEq
structure Kettle where
  water : Int
  warm : Span
  room : Int
  gain : Int
  lose : Int
  sing : Int
  boil : Int
  deriving DecidableEq
structure Pour where
  minute : Int
  ladles : Int
  warm : Int
  deriving DecidableEq
def Span.row (x : Span) : List PV := [.int .i64 x.lo, .int .i64 x.hi]
def Coal.row (c : Coal) : List PV := [.int .i64 c.katch.lo, .int .i64 c.katch.hi, .int .i64 c.burn.lo, .int .i64 c.burn.hi, .int .i64 c.heat.lo, .int .i64 c.heat.hi, .bool c.lit]
def Touch.row (t : Touch) : List PV := [.int .i64 t.a, .int .i64 t.b]
def Pour.row (p : Pour) : List PV := [.int .i64 p.minute, .int .i64 p.ladles, .int .i64 p.warm]
def irow (n : Int) : List PV := [.int .i64 n]
def Fire.row (f : Fire) : List PV := [.slice (f.coals.map Coal.row), .slice (f.touches.map Touch.row)]
def Kettle.row (k : Kettle) : List PV := [.int .i64 k.water, .int .i64 k.warm.lo, .int .i64 k.warm.hi, .int .i64 k.room, .int .i64 k.gain, .int .i64 k.lose, .int .i64 k.sing, .int .i64 k.boil]
@[simp] theorem Span.eta (x : Span) : (⟨x.lo, x.hi⟩ : Span) = x := rfl
theorem Span.eqv (x y : Span) : (x.lo == y.lo && x.hi == y.hi) = decide (x = y) := by
  cases x; cases y; rw [Bool.eq_iff_iff]; simp
theorem Touch.eqv (x y : Touch) : (x.a == y.a && x.b == y.b) = decide (x = y) := by
  cases x; cases y; rw [Bool.eq_iff_iff]; simp
theorem Pour.eqv (x y : Pour) : (x.minute == y.minute && (x.ladles == y.ladles && x.warm == y.warm)) = decide (x = y) := by
  cases x; cases y; rw [Bool.eq_iff_iff]; simp
theorem drop_eq {α : Type} {a b : List α} {i : Nat} (ha : i < a.length) (hb : i < b.length) : a.drop i = b.drop i ↔ a[i] = b[i] ∧ a.drop (i + 1) = b.drop (i + 1) := by
  rw [List.drop_eq_getElem_cons ha, List.drop_eq_getElem_cons hb, List.cons.injEq]

@[simp] theorem KC_keep {f : Nat} : KC.keep f = keepL.contains f := .trans rfl rfl
attribute [simp] keepL
end Go.Gh


/- The kit's functions: boxes of numbers. -/
namespace Go.Gh
open Go.Proofs
set_option linter.unusedSimpArgs false
set_option linter.unusedVariables false
set_option maxRecDepth 100000

variable {c : Nat} {H : Heap}

/-! ### numbers from a box -/
noncomputable def turnS : Int → Int := hid fun w => IntKind.u64.wrap (w + 11507291218515648293)
theorem turnS_def (w : Int) : turnS w = IntKind.u64.wrap (w + 11507291218515648293) := by rw [turnS, hid_eq]
def xors (x n : Int) : Int := bxor .u64 x (x.fdiv n)
noncomputable def turnV : Int → Int := hid fun w => xors (IntKind.u64.wrap (xors (IntKind.u64.wrap (xors (IntKind.u64.wrap (w + 11507291218515648293)) 4294967296 * 15485907386658061715)) 536870912 * 14029467366897019727)) 4294967296
theorem turnV_def (w : Int) : turnV w = xors (IntKind.u64.wrap (xors (IntKind.u64.wrap (xors (IntKind.u64.wrap (w + 11507291218515648293)) 4294967296 * 15485907386658061715)) 536870912 * 14029467366897019727)) 4294967296 := by rw [turnV, hid_eq]
theorem u64_rng (x : Int) : 0 ≤ IntKind.u64.wrap x ∧ IntKind.u64.wrap x ≤ 18446744073709551615 := by rw [IntKind.wrap_u64]; omega
theorem turnV_rng (w : Int) : 0 ≤ turnV w ∧ turnV w ≤ 18446744073709551615 := by rw [turnV_def]; exact u64_rng _
@[simp] theorem bits_u64 : IntKind.u64.bits = 64 := rfl
@[simp] theorem bits_i64 : IntKind.i64.bits = 64 := rfl

theorem turn_ok {nm : Nm} (hB : isBox H nm) : gcall KC (geval KC) 47 [.bptr nm 0] c H = some (.pure (.int .u64 (turnV (wordAt H nm))), H.set nm (wbox (turnS (wordAt H nm)))) := by
  have hl := isBox_lt hB
  have hg := isBox_get hB
  refine WPv_eq (call_enter KC needT Tryz.func47 rfl rfl good47 rfl rfl rfl (by simp) (by omega) ?_)
  have hne : ¬ nm.1 = H.length := by omega
  have h1 : (IntKind.u64.wrap 32) = 32 := rfl
  generalize wordAt H nm = w at *
  unfold wbox at *
  simp [hne, hl, hg, gleave_free, turnV_def, turnS_def, xors]

noncomputable def upR : Int → Int → Int × Int := hid fun w n =>
  if n < 2 then (0, w) else (IntKind.i64.wrap (((turnV w).fdiv 2).tmod (IntKind.u64.wrap n)), turnS w)
theorem upR_def (w : Int) (n : Int) : upR w n =
  (if n < 2 then (0, w) else (IntKind.i64.wrap (((turnV w).fdiv 2).tmod (IntKind.u64.wrap n)), turnS w)) := by rw [upR, hid_eq]
theorem upR_rng (w n : Int) (h : n ≤ 9223372036854775807) : 0 ≤ (upR w n).1 ∧ ((upR w n).1 < n ∨ (upR w n).1 = 0) := by
  rw [upR_def]
  split
  · simp
  · have h1 := turnV_rng w
    have h2 : IntKind.u64.wrap n = n := by rw [IntKind.wrap_u64]; omega
    have h3 : 0 ≤ (turnV w).fdiv 2 := Int.fdiv_nonneg h1.1 (by omega)
    rw [h2, Int.tmod_eq_emod_of_nonneg h3]
    have h4 := Int.emod_nonneg ((turnV w).fdiv 2) (show n ≠ 0 by omega)
    have h5 := Int.emod_lt_of_pos ((turnV w).fdiv 2) (show 0 < n by omega)
    rw [w64 (by omega) (by omega)]
    exact ⟨h4, .inl h5⟩
theorem up_ok {nm : Nm} {n : Int} (hB : isBox H nm) (hn : n ≤ 9223372036854775807) : gcall KC (geval KC) 42 [.bptr nm 0, .pure (.int .i64 n)] c H = some (.pure (.int .i64 (upR (wordAt H nm) n).1), H.set nm (wbox (upR (wordAt H nm) n).2)) := by
  have hl := isBox_lt hB
  have hs := isBox_set hB
  refine WPv_eq (call_enter KC needT Tryz.func42 rfl rfl good42 rfl rfl rfl (by simp) (by omega) ?_)
  have hne : ¬ nm.1 = H.length := by omega
  by_cases h : n < 2
  · simp [h, upR_def, hs, gleave_free]
  · have h2 : IntKind.u64.wrap n = n := by rw [IntKind.wrap_u64]; omega
    have h3 : ¬ n = 0 := by omega
    have h4 : ¬ IntKind.u64.wrap n = 0 := by rw [h2]; exact h3
    simp [h, upR_def, turn_ok (isBox_up hB), wordAt_up hl, Heap.set_up hl, gleave_free, h4]

noncomputable def anyR : Int → Int → Int → Int × Int := hid fun w lo hi =>
  let r := upR w (IntKind.i64.wrap (IntKind.i64.wrap (hi - lo) + 1))
  (IntKind.i64.wrap (lo + r.1), r.2)
theorem anyR_def (w : Int) (lo : Int) (hi : Int) : anyR w lo hi =
  (let r := upR w (IntKind.i64.wrap (IntKind.i64.wrap (hi - lo) + 1))
  (IntKind.i64.wrap (lo + r.1), r.2)) := by rw [anyR, hid_eq]
theorem i64_rng (x : Int) : -9223372036854775808 ≤ IntKind.i64.wrap x ∧ IntKind.i64.wrap x ≤ 9223372036854775807 := by rw [IntKind.wrap_i64]; omega
theorem anyR_rng (w lo hi : Int) (h0 : -4611686018427387903 ≤ lo) (h1 : hi ≤ 4611686018427387903) (h : lo ≤ hi) : lo ≤ (anyR w lo hi).1 ∧ (anyR w lo hi).1 ≤ hi := by
  rw [anyR_def]
  rw [w64 (x := hi - lo) (by omega) (by omega), w64 (x := hi - lo + 1) (by omega) (by omega)]
  have := upR_rng w (hi - lo + 1) (by omega)
  simp only
  rw [w64 (by omega) (by omega)]
  omega
/-- A span that is turned: the lower number. -/
theorem anyR_turned (w lo hi : Int) (h0 : -4611686018427387904 ≤ lo) (h1 : -4611686018427387904 ≤ hi) (h2 : lo ≤ 4611686018427387904) (h : hi < lo) : (anyR w lo hi) = (lo, w) := by
  rw [anyR_def, upR_def]
  rw [w64 (x := hi - lo) (by omega) (by omega), w64 (x := hi - lo + 1) (by omega) (by omega)]
  rw [if_pos (by omega)]
  simp only
  rw [w64 (by omega) (by omega)]
  simp
theorem any_ok {nm : Nm} {lo hi : Int} (hB : isBox H nm) : gcall KC (geval KC) 46 [.bptr nm 0, .pure (.int .i64 lo), .pure (.int .i64 hi)] c H = some (.pure (.int .i64 (anyR (wordAt H nm) lo hi).1), H.set nm (wbox (anyR (wordAt H nm) lo hi).2)) := by
  have hl := isBox_lt hB
  refine WPv_eq (call_enter KC needT Tryz.func46 rfl rfl good46 rfl rfl rfl (by simp) (by omega) ?_)
  have hr := (i64_rng (IntKind.i64.wrap (hi - lo) + 1)).2
  simp [anyR_def, up_ok (isBox_up hB) hr, wordAt_up hl, Heap.set_up hl, gleave_free]

noncomputable def oneR : Int → Int → Bool × Int := hid fun w n =>
  ((upR w n).1 == 0, (upR w n).2)
theorem oneR_def (w : Int) (n : Int) : oneR w n =
  (((upR w n).1 == 0, (upR w n).2)) := by rw [oneR, hid_eq]
theorem one_ok {nm : Nm} {n : Int} (hB : isBox H nm) (hn : n ≤ 9223372036854775807) : gcall KC (geval KC) 27 [.bptr nm 0, .pure (.int .i64 n)] c H = some (.pure (.bool (oneR (wordAt H nm) n).1), H.set nm (wbox (oneR (wordAt H nm) n).2)) := by
  have hl := isBox_lt hB
  refine WPv_eq (call_enter KC needT Tryz.func27 rfl rfl good27 rfl rfl rfl (by simp) (by omega) ?_)
  simp [oneR_def, up_ok (isBox_up hB) hn, wordAt_up hl, Heap.set_up hl, gleave_free]

noncomputable def pickR : Int → List Int → Int × Int := hid fun w l =>
  if l.length = 0 then (0, w) else (l.getD (upR w l.length).1.toNat 0, (upR w l.length).2)
theorem pickR_def (w : Int) (l : List Int) : pickR w l =
  (if l.length = 0 then (0, w) else (l.getD (upR w l.length).1.toNat 0, (upR w l.length).2)) := by rw [pickR, hid_eq]
theorem pick_ok {nm : Nm} {l : List Int} (hB : isBox H nm) (hn : l.length < 4611686018427387904) : gcall KC (geval KC) 44 [.bptr nm 0, .pure (.slice (l.map irow))] c H = some (.pure (.int .i64 (pickR (wordAt H nm) l).1), H.set nm (wbox (pickR (wordAt H nm) l).2)) := by
  have hl := isBox_lt hB
  have hs := isBox_set hB
  refine WPv_eq (call_enter KC needT Tryz.func44 rfl rfl good44 rfl rfl rfl (by simp) (by omega) ?_)
  by_cases h : l.length = 0
  · obtain rfl : l = [] := List.length_eq_zero_iff.1 h
    simp [pickR_def, hs, gleave_free]
  · have h2 : ((l.length : Int) == 0) = false := beq_eq_false_iff_ne.2 (by omega)
    have hr := upR_rng (wordAt H nm) l.length (by omega)
    have h3 : ¬ (upR (wordAt H nm) l.length).1 < 0 := by omega
    have h4 : (upR (wordAt H nm) l.length).1.toNat < l.length := by have := hr; clear hl hs hB; omega
    simp [h, h2, pickR_def, up_ok (isBox_up hB) (show (l.length : Int) ≤ 9223372036854775807 by omega), wordAt_up hl, Heap.set_up hl, gleave_free, h3, h4, irow]

theorem gleave_keep {K : Ctx} {f : Nat} {c : Nat} {r : GV} {fr : Fr} (h : K.keep f = true) : gleave K f c r (fr :: H) = (match moveOut (clM c fr H (dedup (deepRefs fr H.length (refs H.length r))) (H.length - 1)) fr H c (dedup (deepRefs fr H.length (refs H.length r))) H with | some H' => some (ren H.length c r, H') | none => none) := by
  unfold gleave; simp only [h, if_true]; rfl

theorem box_loop (l : List Int) (hn : l.length ≤ 9223372036854775807) (Q : GX → GSt → Prop) (hH : 0 < H.length) : ∀ (k i : Nat) (w : Int), i + k = l.length →
    (∀ w', Q (.exit 0) ⟨[(3, .bptr (H.length, 6) 0)], [(6, wbox w')] :: H, 30⟩) →
    WPL KC needT 10 (lp Tryz.f10 0) [0, 3, 4] [3] Q [(0, .pure (.slice (l.map irow))), (3, .bptr (H.length, 6) 0), (4, .pure (.int .i64 i))] ([(6, wbox w)] :: H) 30 := by
  intro k
  induction k with
  | zero =>
    intro i w hi h1
    have hia : ¬ i < l.length := by omega
    apply WPL_step
    conv => arg 4; whnf
    simp [hia, hH]
    exact h1 w
  | succ k ih =>
    intro i w hi h1
    have hia : i < l.length := by omega
    have hw := w64 (x := (i : Int) + 1) (by omega) (by omega)
    have ih' := fun w => ih (i + 1) w (by omega) h1
    apply WPL_step
    conv => arg 4; whnf
    have T := fun (v : Int) (c : Nat) => turn_ok (c := c) (H := [] :: [(6, wbox v)] :: H) (nm := (H.length, 6)) ⟨v, by simp, by simp⟩
    simp [wordAt, wbox] at T
    simp [hia, hH, irow, hw, wbox, T]
    simpa [wbox] using ih' _
theorem BoxOf_ok (l : List Int) (hn : l.length ≤ 9223372036854775807) (hH : 0 < H.length) (hfree : H.get (H.length - 1, newKey c 6) = none) (hcc : newKey c 6 < tyBase) :
    ∃ w, gcall KC (geval KC) 10 [.pure (.slice (l.map irow))] c H = some (.bptr (H.length - 1, newKey c 6) 0, H.set (H.length - 1, newKey c 6) (wbox w)) := by
  have key : WPv (gcall KC (geval KC) 10 [.pure (.slice (l.map irow))] c H) (fun x => ∃ w, x = (.bptr (H.length - 1, newKey c 6) 0, H.set (H.length - 1, newKey c 6) (wbox w))) := by
    refine call_enter KC needT Tryz.func10 rfl rfl good10 rfl rfl rfl (by simp) hH ?_
    have h0 := fun Q hq => box_loop l hn Q hH l.length 0 2685821657736338717 (by omega) hq
    simp [wbox] at h0
    simp
    refine h0 _ (fun w => ?_)
    simp [gleave_keep, KC_keep, refs, refs2, refs1, deepRefs, boxRefs, matRefs, dedup, moveOut, cleanBlk, clM, tyOk_lt hcc, hfree, ren, ren2, ren1]
    exact ⟨w, rfl⟩
  obtain ⟨r, e1, w, e2⟩ := key
  exact ⟨w, by rw [e1, e2]⟩

end Go.Gh


/- Spans made of numbers; fires that may be: Check. -/
namespace Go.Gh
open Go.Proofs
set_option linter.unusedSimpArgs false
set_option linter.unusedVariables false
set_option maxRecDepth 100000
set_option maxHeartbeats 2000000

variable {c : Nat} {H : Heap}
noncomputable def spanR : Int → Int → Int → Span × Int := hid fun w lo hi =>
  let n := anyR w lo hi
  let q := upR n.2 3
  if q.1 = 0 then (⟨n.1, n.1⟩, q.2)
  else if q.1 = 1 then (let r := anyR q.2 n.1 (if IntKind.i64.wrap (n.1 + 2) < hi then IntKind.i64.wrap (n.1 + 2) else hi); (⟨n.1, r.1⟩, r.2))
  else (let r := anyR q.2 n.1 hi; (⟨n.1, r.1⟩, r.2))
theorem spanR_def (w : Int) (lo : Int) (hi : Int) : spanR w lo hi =
  (let n := anyR w lo hi
  let q := upR n.2 3
  if q.1 = 0 then (⟨n.1, n.1⟩, q.2)
  else if q.1 = 1 then (let r := anyR q.2 n.1 (if IntKind.i64.wrap (n.1 + 2) < hi then IntKind.i64.wrap (n.1 + 2) else hi); (⟨n.1, r.1⟩, r.2))
  else (let r := anyR q.2 n.1 hi; (⟨n.1, r.1⟩, r.2))) := by rw [spanR, hid_eq]
theorem span_ok {nm : Nm} {lo hi : Int} (hB : isBox H nm) : gcall KC (geval KC) 43 [.bptr nm 0, .pure (.int .i64 lo), .pure (.int .i64 hi)] c H =
    some (.pure (.agg (spanR (wordAt H nm) lo hi).1.row), H.set nm (wbox (spanR (wordAt H nm) lo hi).2)) := by
  have hl := isBox_lt hB
  have hne : ¬ nm.1 = H.length := by omega
  refine WPv_eq (call_enter KC needT Tryz.func43 rfl rfl good43 rfl rfl rfl (by simp) (by omega) ?_)
  have hB' : ∀ fr, isBox (fr :: H) nm := fun fr => isBox_up hB
  have hB2 : ∀ fr w, isBox (fr :: H.set nm (wbox w)) nm := fun fr w => isBox_up (isBox_set' hl)
  have hl2 : ∀ w, nm.1 < (H.set nm (wbox w)).length := fun w => by simpa using hl
  by_cases h1 : (upR (anyR (wordAt H nm) lo hi).2 3).1 = 0
  · simp [any_ok, up_ok, hB', hB2, hne, hl, hl2, wordAt_up, Heap.set_up, h1, spanR_def, Span.row, gleave_free]
  · have e1 : ((upR (anyR (wordAt H nm) lo hi).2 3).1 == 0) = false := by simpa using h1
    by_cases h2 : (upR (anyR (wordAt H nm) lo hi).2 3).1 = 1
    · simp [any_ok, up_ok, hB', hB2, hne, hl, hl2, wordAt_up, Heap.set_up, h1, h2, spanR_def, Span.row, gleave_free]
    · have e2 : ((upR (anyR (wordAt H nm) lo hi).2 3).1 == 1) = false := by simpa using h2
      simp [any_ok, up_ok, hB', hB2, hne, hl, hl2, wordAt_up, Heap.set_up, h1, h2, e1, e2, spanR_def, Span.row, gleave_free]

def inB (x lo hi : Int) : Bool := decide (lo ≤ x) && decide (x ≤ hi)
theorem within_ok {x lo hi : Int} (hH : 0 < H.length) : gcall KC (geval KC) 85 [.pure (.int .i64 x), .pure (.int .i64 lo), .pure (.int .i64 hi)] c H = some (.pure (.bool (inB x lo hi)), H) := by
  refine WPv_eq (call_enter KC needT Tryz.func85 rfl rfl good85 rfl rfl rfl (by simp) hH ?_)
  by_cases h : lo ≤ x
  · simp [h, inB, gleave_free]
  · simp [h, inB, gleave_free]
noncomputable def faultF : Int → Int → Int → Int → Int := hid fun a b lo hi => if inB a lo hi = true ∧ inB b lo hi = true then (if b < a then 11 else 0) else 2
theorem faultF_def (a b lo hi : Int) : faultF a b lo hi = if inB a lo hi = true ∧ inB b lo hi = true then (if b < a then 11 else 0) else 2 := by rw [faultF, hid_eq]
theorem fault_ok {a b lo hi : Int} (hH : 0 < H.length) : gcall KC (geval KC) 122 [.pure (.agg [.int .i64 a, .int .i64 b]), .pure (.int .i64 lo), .pure (.int .i64 hi)] c H = some (.pure (.int .i64 (faultF a b lo hi)), H) := by
  refine WPv_eq (call_enter KC needT Tryz.func122 rfl rfl good122 rfl rfl rfl (by simp) hH ?_)
  rw [faultF_def]
  by_cases h1 : inB a lo hi = true
  · by_cases h2 : inB b lo hi = true
    · by_cases h3 : b < a
      · simp [within_ok, h1, h2, h3, gleave_free]
      · simp [within_ok, h1, h2, h3, gleave_free]
    · simp [within_ok, h1, h2, gleave_free]
  · simp [within_ok, h1, gleave_free]
noncomputable def coalF : Coal → Int := hid fun x =>
  if faultF x.katch.lo x.katch.hi 1 300 ≠ 0 then faultF x.katch.lo x.katch.hi 1 300 else if faultF x.burn.lo x.burn.hi 1 300 ≠ 0 then faultF x.burn.lo x.burn.hi 1 300 else faultF x.heat.lo x.heat.hi 0 1000
theorem coalF_def (x : Coal) : coalF x = if faultF x.katch.lo x.katch.hi 1 300 ≠ 0 then faultF x.katch.lo x.katch.hi 1 300 else if faultF x.burn.lo x.burn.hi 1 300 ≠ 0 then faultF x.burn.lo x.burn.hi 1 300 else faultF x.heat.lo x.heat.hi 0 1000 := by
  rw [coalF, hid_eq]
theorem coal_ok {a1 a2 b1 b2 h1 h2 : Int} {l : Bool} (hH : 0 < H.length) : gcall KC (geval KC) 89 [.pure (.agg [.int .i64 a1, .int .i64 a2, .int .i64 b1, .int .i64 b2, .int .i64 h1, .int .i64 h2, .bool l])] c H =
    some (.pure (.int .i64 (coalF ⟨⟨a1, a2⟩, ⟨b1, b2⟩, ⟨h1, h2⟩, l⟩)), H) := by
  refine WPv_eq (call_enter KC needT Tryz.func89 rfl rfl good89 rfl rfl rfl (by simp) hH ?_)
  rw [coalF_def]
  by_cases e1 : faultF a1 a2 1 300 = 0
  · by_cases e2 : faultF b1 b2 1 300 = 0
    · simp [fault_ok, e1, e2, gleave_free]
    · have e2' : (faultF b1 b2 1 300 != 0) = true := by simpa using e2
      simp [fault_ok, e1, e2, e2', gleave_free]
  · have e1' : (faultF a1 a2 1 300 != 0) = true := by simpa using e1
    simp [fault_ok, e1, e1', gleave_free]

def firstErr {α : Type} (g : α → Int) : List α → Int
  | [] => 0
  | x :: r => if g x ≠ 0 then g x else firstErr g r
theorem firstErr_drop {α : Type} (g : α → Int) (l : List α) (i : Nat) (h : i < l.length) : firstErr g (l.drop i) = if g l[i] ≠ 0 then g l[i] else firstErr g (l.drop (i + 1)) := by
  rw [List.drop_eq_getElem_cons h]; rfl
noncomputable def touchF : Int → Touch → Int := hid fun n t => if inB t.a 0 (n - 1) = true ∧ inB t.b 0 (n - 1) = true then (if t.a = t.b then 12 else 0) else 7
theorem touchF_def (n : Int) (t : Touch) : touchF n t = if inB t.a 0 (n - 1) = true ∧ inB t.b 0 (n - 1) = true then (if t.a = t.b then 12 else 0) else 7 := by rw [touchF, hid_eq]
noncomputable def checkF : List Coal → List Touch → Int := hid fun cs ts =>
  if 12 < cs.length then 8 else if firstErr coalF cs ≠ 0 then firstErr coalF cs else if 40 < ts.length then 8 else firstErr (touchF cs.length) ts
theorem checkF_def (cs : List Coal) (ts : List Touch) : checkF cs ts =
  if 12 < cs.length then 8 else if firstErr coalF cs ≠ 0 then firstErr coalF cs else if 40 < ts.length then 8 else firstErr (touchF cs.length) ts := by rw [checkF, hid_eq]

theorem check_loop1 (cs : List Coal) (hn : cs.length ≤ 12) (nm : Nm) (Q : GX → GSt → Prop) (hH : 0 < H.length) (hnm : nm.1 ≤ H.length - 1) : ∀ k i : Nat, i + k = cs.length →
    (firstErr coalF (cs.drop i) = 0 → Q (.exit 0) ⟨[(1, .bptr nm 0), (2, gdead)], H, 59⟩) → (firstErr coalF (cs.drop i) ≠ 0 → Q .ret ⟨[(1, .bptr nm 0), (2, .pure (.int .i64 (firstErr coalF (cs.drop i))))], H, 59⟩) →
    WPL KC needT 48 (lp Tryz.f48 0) [1, 14, 15, 16] [1, 2] Q [(1, .bptr nm 0), (14, .pure (.slice (cs.map Coal.row))), (15, .pure (.int .i64 cs.length)), (16, .pure (.int .i64 i))] H 59 := by
  intro k
  have hnm2 : nm.1 ≤ H.length - 1 := hnm
  induction k with
  | zero =>
    intro i hi h1 h2
    have e1 : cs.drop i = [] := List.drop_of_length_le (by omega)
    rw [e1] at h1
    apply WPL_step
    conv => arg 4; whnf
    have : ¬ i < cs.length := by omega
    simp [this, hH, hnm2]
    exact h1 rfl
  | succ k ih =>
    intro i hi h1 h2
    have hia : i < cs.length := by omega
    have hw := w64 (x := (i : Int) + 1) (by omega) (by omega)
    rw [firstErr_drop coalF cs i hia] at h1 h2
    apply WPL_step
    conv => arg 4; whnf
    have ih' := ih (i + 1) (by omega)
    by_cases he : coalF cs[i] = 0
    · simp [hia, hH, Coal.row, coal_ok, he, hw, hnm2]
      simp only [he, ne_eq, not_true_eq_false, if_false] at h1 h2
      simpa using ih' h1 h2
    · have he' : (coalF cs[i] != 0) = true := by simpa using he
      simp [hia, hH, Coal.row, coal_ok, he, he', hnm2]
      simp only [he, ne_eq, not_false_eq_true, if_true] at h1 h2
      exact h2 trivial
theorem check_loop2 (cs : List Coal) (ts : List Touch) (hn : ts.length ≤ 40) (n : Int) (nm : Nm) (Q : GX → GSt → Prop) (hH : 0 < H.length) (hnm2 : nm.1 ≤ H.length - 1) : ∀ k i : Nat, i + k = ts.length →
    (firstErr (touchF n) (ts.drop i) = 0 → Q (.exit 2) ⟨[(2, gdead)], H, 59⟩) → (firstErr (touchF n) (ts.drop i) ≠ 0 → Q .ret ⟨[(2, .pure (.int .i64 (firstErr (touchF n) (ts.drop i))))], H, 59⟩) →
    WPL KC needT 48 (lp Tryz.f48 1) [6, 35, 36, 37] [2] Q [(6, .pure (.int .i64 (n - 1))), (35, .pure (.slice (ts.map Touch.row))), (36, .pure (.int .i64 ts.length)), (37, .pure (.int .i64 i))] H 59 := by
  intro k
  induction k with
  | zero =>
    intro i hi h1 h2
    have e1 : ts.drop i = [] := List.drop_of_length_le (by omega)
    rw [e1] at h1
    apply WPL_step
    conv => arg 4; whnf
    have : ¬ i < ts.length := by omega
    simp [this, hH, hnm2]
    exact h1 rfl
  | succ k ih =>
    intro i hi h1 h2
    have hia : i < ts.length := by omega
    have hw := w64 (x := (i : Int) + 1) (by omega) (by omega)
    rw [firstErr_drop (touchF n) ts i hia] at h1 h2
    have ih' := ih (i + 1) (by omega)
    have ht := touchF_def n ts[i]
    apply WPL_step
    conv => arg 4; whnf
    by_cases b1 : inB ts[i].a 0 (n - 1) = true
    · by_cases b2 : inB ts[i].b 0 (n - 1) = true
      · by_cases b3 : ts[i].a = ts[i].b
        · rw [b3] at b1
          simp only [b1, b2, b3, and_self, if_true] at ht
          simp [hia, hH, Touch.row, within_ok, b1, b2, b3, hnm2]
          simp [ht] at h1 h2
          exact h2
        · have b3' : (ts[i].a == ts[i].b) = false := by simpa using b3
          simp only [b1, b2, b3, and_self, if_true, if_false] at ht
          simp [hia, hH, Touch.row, within_ok, b1, b2, b3', hnm2, hw]
          simp [ht] at h1 h2
          simpa using ih' h1 h2
      · simp only [b1, b2, and_false, if_false] at ht
        simp [hia, hH, Touch.row, within_ok, b1, b2, hnm2]
        simp [ht] at h1 h2
        exact h2
    · simp only [b1, false_and, if_false] at ht
      simp [hia, hH, Touch.row, within_ok, b1, hnm2]
      simp [ht] at h1 h2
      exact h2
theorem check_ok (cs : List Coal) (ts : List Touch) (hH : 0 < H.length) : gcall KC (geval KC) 48 [.pure (.agg [.slice (cs.map Coal.row), .slice (ts.map Touch.row)])] c H = some (.pure (.int .i64 (checkF cs ts)), H) := by
  refine WPv_eq (call_enter KC needT Tryz.func48 rfl rfl good48 rfl rfl rfl (by simp) hH ?_)
  rw [checkF_def]
  by_cases h1 : 12 < cs.length
  · have h1' : (12 : Int) < cs.length := by omega
    simp [h1, h1', gleave_free]
  · have h1' : ¬ (12 : Int) < cs.length := by omega
    simp [h1, h1']
    refine check_loop1 cs (by omega) _ _ (by simp) (by simp) cs.length 0 (by omega) (fun h => ?_) (fun h => ?_)
    · simp at h
      by_cases h2 : 40 < ts.length
      · have h2' : (40 : Int) < ts.length := by omega
        simp [h, h2, h2', gleave_free]
      · have h2' : ¬ (40 : Int) < ts.length := by omega
        have hw := w64 (x := (cs.length : Int) - 1) (by omega) (by omega)
        simp [h, h2, h2', hw]
        refine check_loop2 cs ts (by omega) _ (H.length, 1) _ (by simp) (by simp) ts.length 0 (by omega) (fun h3 => ?_) (fun h3 => ?_)
        · simp at h3
          simp [h3, gleave_free]
        · simp at h3
          simp [gleave_free]
    · simp at h
      simp [h, gleave_free]

end Go.Gh


/- Typed blocks in the calculus: a strings.Builder and its bytes. -/
namespace Go.Gh
set_option linter.unusedSimpArgs false
set_option linter.unusedVariables false

section
variable {K : Ctx} {fn : FuncId} {ty : TypeId} {pos : String} {af : Array Edge} {gu : Option (Nat × Bool)} {s : Slots} {H : Heap} {dst : Option Tmp}

@[simp] theorem tyKey_eq {t d : Nat} : tyKey t d = 1329227995784915872903807060280344576 + t * 4096 + d := .trans rfl rfl
@[simp] theorem tyName_eq {n : Nat} : tyName n = if n < 1329227995784915872903807060280344576 then none else some ((n - 1329227995784915872903807060280344576) / 4096) := .trans rfl rfl

def newBoxT (H : Heap) (t d : Nat) (x : Option (List GV)) : Option (GV × Heap) := match x with | some cs => rn (gnewT H (H.length - 1) t d (.box cs)) (fun nm => .bptr nm 0) | none => none
@[simp] theorem newBoxT_some {t d : Nat} {cs : List GV} : newBoxT H t d (some cs) = rn (gnewT H (H.length - 1) t d (.box cs)) (fun nm => .bptr nm 0) := .trans rfl rfl
@[simp] theorem gop_allocT {d : Nat} {t : TypeId} (ht : K.typ t = true) : gop K fn ⟨some d, .alloc t, ty, pos, af, gu⟩ s H = newBoxT H t d (cellsO' (tzero K.P t)) := by
  simp only [gop]
  cases h : tzero K.P t with
  | none => rfl
  | some z =>
    simp only [cellsO'_some, newBoxT]
    cases cellsO z with
    | none => rfl
    | some cs =>
      simp only [gnewE, ht, if_true]
      cases gnewT H (H.length - 1) t d (.box cs) with
      | none => rfl
      | some x => rfl
@[simp] theorem gnewT_cons {fr : Fr} {t d : Nat} {b : Blk} : gnewT (fr :: H) H.length t d b = if (fr.get (tyKey t d)).isSome then none else if tyName (tyKey t d) = some t then some ((H.length, tyKey t d), fr.ins (tyKey t d) b :: H) else none := by
  unfold gnewT
  simp only [List.length_cons]
  rw [if_neg (by omega)]
  simp only [Heap.get, Heap.set, if_true]
  cases fr.get (tyKey t d) <;> simp
theorem gop_appendT {d : Nat} {x y : Operand} {t t2 : TypeId} {l : Nat} (hs : spreads K.P (some t2) = true) (hr : K.row fn d = none) (hu : upLevel H s (K.up fn d) = some l) :
    gop K fn ⟨some d, .call ⟨.builtin .append, #[x, y], #[t, t2]⟩, ty, pos, af, gu⟩ s H = gappend K H l d t (ev s x) (ev s y) := by
  show (if spreads K.P (some t2) = true then (match K.row fn d with | none => (match upLevel H s (K.up fn d) with | some l => gappend K H l d t (ev s x) (ev s y) | none => none) | some key => (match upBox s (K.up fn d) with | some bn => gappendR K H bn key t (ev s x) (ev s y) | none => none)) else none) = _
  rw [if_pos hs, hr, hu]
@[simp] theorem gop_sliceData {x : Operand} {ts : Array TypeId} : gop K fn ⟨dst, .call ⟨.builtin .unsafeSliceData, #[x], ts⟩, ty, pos, af, gu⟩ s H =
    (match ev s x with | .hdr nm es top 0 _ => if 0 < top then some (.eptr nm es top 0 0, H) else none | _ => none) := by
  simp only [gop]; rfl
@[simp] theorem gop_unsafeString {x y : Operand} {pt it : TypeId} : gop K fn ⟨dst, .call ⟨.builtin .unsafeString, #[x, y], #[pt, it]⟩, ty, pos, af, gu⟩ s H = gunsafeStr K pt H (ev s x) (ev s y) := by
  simp only [gop]
end

/-! ### a builder -/
def brow (b : UInt8) : List PV := [.int .u8 b.toNat]
theorem bytesOf_brow : ∀ l : List UInt8, bytesOf (l.map brow) = some l
  | [] => rfl
  | b :: l => by
    have h := b.toNat_lt
    have h1 : (0 : Int) ≤ b.toNat ∧ (b.toNat : Int) < 256 := by omega
    simp only [List.map_cons, brow, bytesOf]
    rw [if_pos h1]
    rw [bytesOf_brow l]
    simp
theorem brow_ne {l : List UInt8} : l.map brow = [] ↔ l = [] := List.map_eq_nil_iff

/-- A builder in memory: its box, its bytes ('ka': their key). -/
structure IsBld (ka : Nat) (H : Heap) (nm : Nm) (l : List UInt8) : Prop where
  lt : nm.1 < H.length
  ne : nm.2 ≠ ka
  box : ∃ a, (a = .pure .nilp ∨ a = .bptr nm 0) ∧ H.get nm = some (.box [a, apS (nm.1, ka) 1 (l.map brow)])
  arr : l ≠ [] → H.get (nm.1, ka) = some (.arr 1 (l.map brow) 0 false)
  none : l = [] → H.get (nm.1, ka) = none
def setB (ka : Nat) (H : Heap) (nm : Nm) (l : List UInt8) : Heap := if l = [] then H.set nm (.box [.bptr nm 0, .nils]) else (H.set nm (.box [.bptr nm 0, apS (nm.1, ka) 1 (l.map brow)])).set (nm.1, ka) (.arr 1 (l.map brow) 0 false)

theorem Heap.set_comm {n m : Nm} {x y : Blk} (h : n ≠ m) : ∀ {H : Heap}, (H.set n x).set m y = (H.set m y).set n x
  | [] => rfl
  | fr :: H => by
    by_cases e1 : n.1 = H.length
    · by_cases e2 : m.1 = H.length
      · have : n.2 ≠ m.2 := fun e => h (Prod.ext (e1.trans e2.symm) e)
        simp [e1, e2, Fr.ins_comm _ _ this.symm]
      · simp [e1, e2]
    · by_cases e2 : m.1 = H.length
      · simp [e1, e2]
      · simp [e1, e2, Heap.length_set, Heap.set_comm h (H := H)]

section
variable {ka : Nat} {H : Heap} {nm : Nm} {l l' : List UInt8}
theorem IsBld.nm_ne (h : IsBld ka H nm l) : nm ≠ (nm.1, ka) := fun e => h.ne (congrArg Prod.snd e)
@[simp] theorem setB_length : (setB ka H nm l).length = H.length := by unfold setB; split <;> simp [Heap.length_set]
theorem IsBld.up {fr : Fr} (h : IsBld ka H nm l) : IsBld ka (fr :: H) nm l := by
  have hne : ¬ nm.1 = H.length := by have := h.lt; omega
  obtain ⟨a, h1, h2⟩ := h.box
  refine ⟨by simp; have := h.lt; omega, h.ne, ⟨a, h1, by simp [hne, h2]⟩, fun hl => by simp [hne, h.arr hl], fun hl => by simp [hne, h.none hl]⟩
theorem setB_up {fr : Fr} (h : nm.1 < H.length) : setB ka (fr :: H) nm l = fr :: setB ka H nm l := by
  have hne : ¬ nm.1 = H.length := by omega
  unfold setB
  split <;> simp [hne, Heap.length_set]
theorem IsBld.set (h : IsBld ka H nm l) (hl : l = [] ∨ l' ≠ []) : IsBld ka (setB ka H nm l') nm l' := by
  have hn := h.nm_ne
  refine ⟨by rw [setB_length]; exact h.lt, h.ne, ⟨.bptr nm 0, .inr rfl, ?_⟩, fun h' => ?_, fun h' => ?_⟩
  · unfold setB
    split
    · rename_i e; subst e; rw [Heap.get_set _ h.lt]; rfl
    · rw [Heap.get_set_other _ hn, Heap.get_set _ h.lt]
  · unfold setB
    rw [if_neg h', Heap.get_set _ (by rw [Heap.length_set]; exact h.lt)]
  · unfold setB
    rw [if_pos h', Heap.get_set_other _ (Ne.symm hn)]
    rcases hl with hl | hl
    · exact h.none hl
    · exact absurd h' hl
theorem setB_setB (h : IsBld ka H nm l) {l1 l2 : List UInt8} (h2 : l1 = [] ∨ l2 ≠ []) : setB ka (setB ka H nm l1) nm l2 = setB ka H nm l2 := by
  have hn := h.nm_ne
  unfold setB
  by_cases e1 : l1 = []
  · subst e1
    simp only [if_true]
    split
    · rw [Heap.set_set]
    · rw [Heap.set_set]
  · have e2 : l2 ≠ [] := by rcases h2 with h2 | h2; exact absurd h2 e1; exact h2
    rw [if_neg e1, if_neg e2, if_neg e2]
    rw [Heap.set_comm hn, Heap.set_set, Heap.set_comm (Ne.symm hn), Heap.set_set]
end
end Go.Gh


/- strings.Builder: WriteString, String. -/
namespace Go.Gh
open Go.Proofs
set_option linter.unusedSimpArgs false
set_option linter.unusedVariables false
set_option maxRecDepth 100000
set_option maxHeartbeats 2000000

variable {c : Nat} {H : Heap}

theorem gop_appendT' {K : Ctx} {fn : FuncId} {ty : TypeId} {pos : String} {af : Array Edge} {gu : Option (Nat × Bool)} {s : Slots} {d : Nat} {x y : Operand} {t t2 : TypeId} (hs : spreads K.P (some t2) = true) (hr : K.row fn d = none) :
    gop K fn ⟨some d, .call ⟨.builtin .append, #[x, y], #[t, t2]⟩, ty, pos, af, gu⟩ s H = apV (upLevel H s (K.up fn d)) fun l => gappend K H l d t (ev s x) (ev s y) := by
  show (if spreads K.P (some t2) = true then (match K.row fn d with | none => (match upLevel H s (K.up fn d) with | some l => gappend K H l d t (ev s x) (ev s y) | none => none) | some key => (match upBox s (K.up fn d) with | some bn => gappendR K H bn key t (ev s x) (ev s y) | none => none)) else none) = _
  rw [if_pos hs, hr]
  cases upLevel H s (K.up fn d) <;> rfl

@[simp] theorem gstr_add {a b : List UInt8} : gstr .add a b = if a.length + b.length ≤ 4611686018427387904 then some (.str (a ++ b)) else none := .trans rfl rfl
@[simp] theorem gstr_eql {a b : List UInt8} : gstr .eql a b = some (.bool (a == b)) := .trans rfl rfl
@[simp] theorem gstr_neq {a b : List UInt8} : gstr .neq a b = some (.bool (!(a == b))) := .trans rfl rfl
/-- The key of a builder's bytes. -/
noncomputable def kA : Nat := hid (tyKey 5 14)
theorem kA_def : kA = tyKey 5 14 := by rw [kA, hid_eq]
theorem kA_name : tyName kA = some 5 := by rw [kA_def]; simp
abbrev Bl (H : Heap) (nm : Nm) (l : List UInt8) : Prop := IsBld kA H nm l ∧ tyName nm.2 = some 105

theorem app_bld {G : Heap} {nm : Nm} {l s : List UInt8} (h : IsBld kA G nm l) (hs : s ≠ []) (hn : l.length + s.length ≤ 1099511627776) :
    gappend KC G nm.1 14 103 (apS (nm.1, kA) 1 (l.map brow)) (.pure (.str s)) = some (apS (nm.1, kA) 1 ((l ++ s).map brow), G.set (nm.1, kA) (.arr 1 ((l ++ s).map brow) 0 false)) := by
  have ht : telem KC.P 103 = some 5 := by kernel_rfl
  have h1 : tsize KC.P 5 = some 1 := by kernel_rfl
  have h2 : tbytes KC.P 5 = some 1 := by kernel_rfl
  have h3 : zsize KC.P 5 = some 1 := by kernel_rfl
  have h4 : KC.typ 5 = true := by kernel_rfl
  have hb : ((s.map brow).all fun r => r.length == 1) = true := by simp [brow]
  have hne : (s.map brow).isEmpty = false := by cases s with | nil => exact absurd rfl hs | cons _ _ => rfl
  have hlen : (s.map brow).length = s.length := List.length_map _
  have hx : gelems G (.pure (.str s)) = some (s.map brow, G) := rfl
  have hap : ∀ r : List UInt8, r ≠ [] → apS (nm.1, kA) 1 (r.map brow) = .hdr (nm.1, kA) 1 r.length 0 r.length := fun r hr => by
    unfold apS
    rw [if_neg (fun e => hr (brow_ne.1 e)), List.length_map]
  have hls : l ++ s ≠ [] := by simp [hs]
  unfold gappend
  simp only [ht, h1, h2, h3, hx, hb, decide_true, Bool.and_true, Bool.true_and, Nat.lt_irrefl, Nat.zero_lt_one, hne, hlen, if_true, Bool.false_eq_true, if_false, hap _ hls, show (1 : Nat) ≤ 1048576 from by decide]
  by_cases hl : l = []
  · subst hl
    simp only [List.map_nil, apS_nil, List.nil_append]
    rw [if_pos (by simp at hn; omega)]
    simp only [gnewE, h4, if_true]
    have hf := h.none rfl
    have hk : gnewT G nm.1 5 14 (.arr 1 (s.map brow) 0 false) = some ((nm.1, kA), G.set (nm.1, kA) (.arr 1 (s.map brow) 0 false)) := by
      have hlt := h.lt
      unfold gnewT
      have hk2 : tyName kA = some 5 := kA_name
      rw [kA_def] at hf hk2 ⊢
      have hk3 : ¬ G.length ≤ nm.1 := by omega
      simp only [hk3, hf, hk2, if_true, if_false, Option.isSome_none, Bool.false_eq_true]
    rw [hk]
  · rw [hap _ hl]
    simp only [h.arr hl]
    have hnm : nmOk KC 5 (nm.1, kA) = true := by
      unfold nmOk
      rw [h4, if_pos rfl, kA_name]
      rfl
    simp [hnm, hn]

def chk (a : GV) (G : Heap) (nm : Nm) (x : GV) : Heap := match a with | .bptr _ _ => G | _ => G.set nm (.box [.bptr nm 0, x])
theorem copy_ok {G : Heap} {nm : Nm} {a : GV} {x : GV} (hlt : nm.1 < G.length) (ha : a = .pure .nilp ∨ a = .bptr nm 0) (hg : G.get nm = some (.box [a, x])) (hT : tyName nm.2 = some 105) :
    gcall KC (geval KC) 90 [.bptr nm 0] c G = some (.pure (.tuple []), chk a G nm x) := by
  refine (gcall_ext KC (e := extCopy 105) (by kernel_rfl) (by rfl) (Nat.lt_of_le_of_lt (Nat.zero_le _) hlt)).trans ?_
  unfold extCopy
  rcases ha with rfl | rfl
  · simp [hg, hT, chk, -tyName_eq]
  · simp [hg, chk]

theorem IsBld.chk {ka : Nat} {nm : Nm} {l : List UInt8} (h : IsBld ka H nm l) : IsBld ka (H.set nm (.box [.bptr nm 0, apS (nm.1, ka) 1 (l.map brow)])) nm l :=
  ⟨by rw [Heap.length_set]; exact h.lt, h.ne, ⟨_, .inr rfl, Heap.get_set _ h.lt⟩, fun hl => by rw [Heap.get_set_other _ (Ne.symm h.nm_ne)]; exact h.arr hl,
    fun hl => by rw [Heap.get_set_other _ (Ne.symm h.nm_ne)]; exact h.none hl⟩
theorem write_ok {nm : Nm} {l s : List UInt8} (hB : Bl H nm l) (hs : s ≠ []) (hn : l.length + s.length ≤ 1099511627776) :
    gcall KC (geval KC) 50 [.bptr nm 0, .pure (.str s)] c H = some (.pure (.tuple [.int .i64 s.length, .nili]), setB kA H nm (l ++ s)) := by
  have hl := hB.1.lt
  have hne : ¬ nm.1 = H.length := by omega
  have hlt : nm.1 < H.length + 1 := by omega
  obtain ⟨a, ha, hg⟩ := hB.1.box
  have hls : l ++ s ≠ [] := by simp [hs]
  have hnn := hB.1.nm_ne
  have hni : ofConst Value.nilIface = .pure .nili := rfl
  have key : ∀ G : Heap, G.length = H.length → G.get nm = some (.box [.bptr nm 0, apS (nm.1, kA) 1 (l.map brow)]) → IsBld kA ([] :: G) nm l → (G.set (nm.1, kA) (.arr 1 ((l ++ s).map brow) 0 false)).set nm (.box [.bptr nm 0, apS (nm.1, kA) 1 ((l ++ s).map brow)]) = setB kA H nm (l ++ s) →
      (gcall KC (geval KC) 90 [.bptr nm 0] 7 ([] :: H) = some (.pure (.tuple []), [] :: G)) → 
      gcall KC (geval KC) 50 [.bptr nm 0, .pure (.str s)] c H = some (.pure (.tuple [.int .i64 s.length, .nili]), setB kA H nm (l ++ s)) := by
    intro G hGl hGg hGb hGe hc
    have hne2 : ¬ nm.1 = G.length := by omega
    have hlt2 : nm.1 < G.length + 1 := by omega
    have hnn2 : ¬ nm = (nm.1, kA) := hnn
    have hap := app_bld hGb hs hn
    refine WPv_eq (call_enter KC needT Tryz.func50 rfl rfl good50 rfl rfl rfl (by simp) (by omega) ?_)
    simp [hne, hlt, gop_appendT', hc, hGg, hne2, hlt2, hni]
    rw [hap]
    simp [hne, hlt, gop_appendT', hc, hGg, hne2, hlt2, hni, Heap.get_set_other _ hnn, gleave_free]
    simpa using hGe
  rcases ha with rfl | rfl
  · refine key (H.set nm (.box [.bptr nm 0, apS (nm.1, kA) 1 (l.map brow)])) (Heap.length_set ..) (Heap.get_set _ hl) hB.1.chk.up ?_ ?_
    · unfold setB
      rw [if_neg hls, Heap.set_comm (Ne.symm hnn), Heap.set_set]
    · have := copy_ok (c := 7) (G := [] :: H) hlt (.inl rfl) (by simpa [hne] using hg) hB.2
      rw [this]
      simp [chk, hne]
  · refine key H rfl hg hB.1.up ?_ ?_
    · unfold setB
      rw [if_neg hls, Heap.set_comm (Ne.symm hnn)]
    · have := copy_ok (c := 7) (G := [] :: H) hlt (.inr rfl) (by simpa [hne] using hg) hB.2
      rw [this]
      rfl
theorem Bl.set {nm : Nm} {l l' : List UInt8} (h : Bl H nm l) (hl : l' ≠ []) : Bl (setB kA H nm l') nm l' := ⟨h.1.set (.inr hl), h.2⟩
theorem Bl.up {fr : Fr} {nm : Nm} {l : List UInt8} (h : Bl H nm l) : Bl (fr :: H) nm l := ⟨h.1.up, h.2⟩

theorem opPure_us {K : Ctx} {fn : FuncId} {dst : Option Tmp} {xs : Array Operand} {ts : Array TypeId} {ty : TypeId} {pos : String} {af : Array Edge} {gu : Option (Nat × Bool)} : opPure K fn ⟨dst, .call ⟨.builtin .unsafeString, xs, ts⟩, ty, pos, af, gu⟩ = false := rfl
theorem string_ok {nm : Nm} {l : List UInt8} (hB : Bl H nm l) (hs : l ≠ []) (hn : l.length ≤ 1099511627776) :
    gcall KC (geval KC) 52 [.bptr nm 0] c H = some (.pure (.str l), H.set (nm.1, kA) .gone) := by
  have hl := hB.1.lt
  have hne : ¬ nm.1 = H.length := by omega
  have hlt : nm.1 < H.length + 1 := by omega
  obtain ⟨a, ha, hg⟩ := hB.1.box
  have harr := hB.1.arr hs
  have hap : apS (nm.1, kA) 1 (l.map brow) = .hdr (nm.1, kA) 1 l.length 0 l.length := by
    unfold apS
    rw [if_neg (fun e => hs (brow_ne.1 e)), List.length_map]
  rw [hap] at hg
  have hp : 0 < l.length := List.length_pos_iff.2 hs
  refine WPv_eq (call_enter KC needT Tryz.func52 rfl rfl good52 rfl rfl rfl (by simp) (by omega) ?_)
  have hu : gunsafeStr KC 162 ([] :: H) (.eptr (nm.1, kA) 1 l.length 0 0) (.pure (.int .i64 l.length)) = some (.pure (.str l), [] :: H.set (nm.1, kA) .gone) := by
    have h1 : KC.P.underlying 162 = some (.pointer 5) := by kernel_rfl
    have h2 : tsize KC.P 5 = some 1 := by kernel_rfl
    have hg2 : Heap.get ([] :: H) (nm.1, kA) = some (.arr 1 (l.map brow) 0 false) := by simp [hne, harr]
    have htk : (l.map brow).take ((l.length : Int).toNat) = l.map brow := by rw [Int.toNat_natCast]; exact List.take_of_length_le (by simp)
    unfold gunsafeStr
    simp only [h1, hg2]
    rw [if_pos ⟨by omega, by simp, by omega, by simp, by omega, kA_name, h2⟩, htk, bytesOf_brow]
    simp [hne]
  simp [hne, hg, hp, hu, opPure_us, gleave_free]
end Go.Gh


/- The writer of words. -/
namespace Go.Gh
open Go.Proofs
set_option linter.unusedSimpArgs false
set_option linter.unusedVariables false
set_option maxRecDepth 100000
set_option maxHeartbeats 2000000

variable {c : Nat} {H : Heap}
def numsS (ns : List Int) : List UInt8 := ns.flatMap fun n => 32 :: itoaL n
def wordS (word : List UInt8) (ns : List Int) : List UInt8 := word ++ numsS ns

theorem itoa_ok {n : Int} (h0 : -9223372036854775808 ≤ n) (h1 : n ≤ 9223372036854775807) (hH : 0 < H.length) : gcall KC (geval KC) 51 [.pure (.int .i64 n)] c H = some (.pure (.str (itoaL n)), H) := by
  refine (gcall_ext KC (e := extItoa) (by kernel_rfl) (by rfl) hH).trans ?_
  unfold extItoa
  simp [h0, h1]

theorem put_loop {nm : Nm} (hl : nm.1 < H.length) (ns : List Int) (hr : ∀ n ∈ ns, -9223372036854775808 ≤ n ∧ n ≤ 9223372036854775807) (hn : ns.length < 4611686018427387904) (Q : GX → GSt → Prop) : ∀ (k i : Nat) (l : List UInt8) (G : Heap), i + k = ns.length → G.length = H.length → Bl G nm l → l ≠ [] → (l ++ numsS (ns.drop i)).length ≤ 1099511627776 →
    (Q (.exit 0) ⟨[], [] :: (if i < ns.length then setB kA G nm (l ++ numsS (ns.drop i)) else G), 20⟩) →
    WPL KC needT 49 (lp Tryz.f49 0) [2, 9, 10, 11] [] Q [(2, .bptr nm 0), (9, .pure (.slice (ns.map irow))), (10, .pure (.int .i64 ns.length)), (11, .pure (.int .i64 i))] ([] :: G) 20 := by
  intro k
  induction k with
  | zero =>
    intro i l G hi hG hB hne hb h1
    have hia : ¬ i < ns.length := by omega
    have hGp : 0 < G.length := by omega
    apply WPL_step
    conv => arg 4; whnf
    simp [hia, hGp]
    simpa [hia] using h1
  | succ k ih =>
    intro i l G hi hG hB hne hb h1
    have hia : i < ns.length := by omega
    have hGp : 0 < G.length := by omega
    have hw := w64 (x := (i : Int) + 1) (by omega) (by omega)
    have hd : ns.drop i = ns[i] :: ns.drop (i + 1) := List.drop_eq_getElem_cons hia
    have hri := hr ns[i] (List.getElem_mem hia)
    have hs : numsS (ns.drop i) = (32 :: itoaL ns[i]) ++ numsS (ns.drop (i + 1)) := by rw [hd]; rfl
    rw [hs, ← List.append_assoc] at hb h1
    rw [if_pos hia] at h1
    have hB2 : Bl (setB kA G nm (l ++ 32 :: itoaL ns[i])) nm (l ++ 32 :: itoaL ns[i]) := hB.set (by simp)
    have ih' := ih (i + 1) (l ++ 32 :: itoaL ns[i]) (setB kA G nm (l ++ 32 :: itoaL ns[i])) (by omega) (by simp [hG]) hB2 (by simp) hb (by
      split
      · rw [setB_setB hB.1 (.inr (by simp))]; exact h1
      · rename_i h2
        have : ns.drop (i + 1) = [] := List.drop_eq_nil_of_le (by omega)
        rw [this] at h1
        simpa [numsS] using h1)
    have hlt := hB.1.lt
    have hW : ∀ c, gcall KC (geval KC) 50 [.bptr nm 0, .pure (.str (32 :: itoaL ns[i]))] c ([] :: [] :: G) = some (.pure (.tuple [.int .i64 ((itoaL ns[i]).length + 1), .nili]), [] :: [] :: setB kA G nm (l ++ 32 :: itoaL ns[i])) := fun c => by
      have := write_ok (c := c) (H := [] :: [] :: G) (hB.up (fr := [])).up (s := 32 :: itoaL ns[i]) (by simp) (by simp at hb ⊢; omega)
      rw [this, setB_up (by simp; omega), setB_up hlt]
      simp
    have hI : ∀ c, gcall KC (geval KC) 51 [.pure (.int .i64 ns[i])] c ([] :: [] :: G) = some (.pure (.str (itoaL ns[i])), [] :: [] :: G) := fun c => itoa_ok hri.1 hri.2 (by simp)
    have hz : [(32 : UInt8)].length + (itoaL ns[i]).length ≤ 4611686018427387904 := by simp at hb ⊢; omega
    have hz : 1 + (itoaL ns[i]).length ≤ 4611686018427387904 := by simpa using hz
    apply WPL_step
    conv => arg 4; whnf
    simp [hia, hGp, irow, hw, hI, hW, hz, Nat.le_of_lt hlt]
    simpa using ih'

theorem put_ok {nm : Nm} {l word : List UInt8} {ns : List Int} {v : GV} (hv : canon v = .pure (.slice (ns.map irow))) (hB : Bl H nm l) (hw : word ≠ []) (hr : ∀ n ∈ ns, -9223372036854775808 ≤ n ∧ n ≤ 9223372036854775807) (hn : ns.length < 4611686018427387904) (hb : (l ++ wordS word ns).length ≤ 1099511627776) :
    gcall KC (geval KC) 49 [.pure (.str word), v, .bptr nm 0] c H = some (.pure (.tuple []), setB kA H nm (l ++ wordS word ns)) := by
  have hl := hB.1.lt
  have hW : ∀ c, gcall KC (geval KC) 50 [.bptr nm 0, .pure (.str word)] c ([] :: H) = some (.pure (.tuple [.int .i64 word.length, .nili]), [] :: setB kA H nm (l ++ word)) := fun c => by
    have := write_ok (c := c) (hB.up (fr := [])) (s := word) hw (by simp [wordS] at hb ⊢; omega)
    rw [this, setB_up hl]
  have hB2 : Bl (setB kA H nm (l ++ word)) nm (l ++ word) := hB.set (by simp [hw])
  refine WPv_eq (call_enterR KC needT Tryz.func49 rfl rfl good49 rfl rfl rfl (by simp) (by omega) ?_)
  simp [hv, hW]
  refine put_loop (H := H) hl ns hr hn _ ns.length 0 (l ++ word) _ (by omega) (by simp) hB2 (by simp [hw]) (by simpa [wordS] using hb) ?_
  simp [gleave_free]
  cases ns with
  | nil => simp [wordS, numsS]
  | cons n ns => simp [setB_setB hB.1, hw, wordS]
end Go.Gh


/- The writer of fires. -/
namespace Go.Gh
open Go.Proofs
set_option linter.unusedSimpArgs false
set_option linter.unusedVariables false
set_option maxRecDepth 100000
set_option maxHeartbeats 2000000

variable {c : Nat} {H : Heap}
def coalN (x : Coal) : List Int := [x.katch.lo, x.katch.hi, x.burn.lo, x.burn.hi, x.heat.lo, x.heat.hi]
def coalW : List UInt8 := [99, 111, 97, 108]
def touchW : List UInt8 := [116, 111, 117, 99, 104]
def endW : List UInt8 := [101, 110, 100]
def litW : List UInt8 := [108, 105, 116]
def coldW : List UInt8 := [99, 111, 108, 100]
def coalS (x : Coal) : List UInt8 := wordS coalW (coalN x) ++ (if x.lit then 32 :: litW ++ [10] else 32 :: coldW ++ [10])
def touchS (x : Touch) : List UInt8 := wordS touchW [x.a, x.b] ++ [10]
def writeS (f : Fire) : List UInt8 := f.coals.flatMap coalS ++ f.touches.flatMap touchS ++ (wordS endW [(f.coals.length : Int)] ++ [10])

noncomputable def kB : Nat := hid (tyKey 105 5)
theorem kB_def : kB = tyKey 105 5 := by rw [kB, hid_eq]
theorem kB_name : tyName kB = some 105 := by rw [kB_def]; simp
def setF (F : Fr) (ka kb : Nat) (L : Nat) (l : List UInt8) : Fr := if l = [] then F.ins kb (.box [.bptr (L, kb) 0, .nils]) else (F.ins kb (.box [.bptr (L, kb) 0, apS (L, ka) 1 (l.map brow)])).ins ka (.arr 1 (l.map brow) 0 false)
theorem setB_top {ka kb : Nat} {F : Fr} {l : List UInt8} : setB ka (F :: H) (H.length, kb) l = setF F ka kb H.length l :: H := by
  unfold setB setF
  split <;> simp
theorem setF_get {ka kb k L : Nat} {F : Fr} {l : List UInt8} (h1 : k ≠ ka) (h2 : k ≠ kb) : (setF F ka kb L l).get k = F.get k := by
  unfold setF
  split
  · rw [Fr.get_ins_other _ h2]
  · rw [Fr.get_ins_other _ h1, Fr.get_ins_other _ h2]

theorem IsBld.top_len {ka kb : Nat} {F : Fr} {l : List UInt8} (_ : Bl (F :: H) (H.length, kb) l) : True := trivial
/-- One word, two frames up. -/
theorem put_up {kb : Nat} {F f0 : Fr} {l word : List UInt8} {ns : List Int} {v : GV} (hv : canon v = .pure (.slice (ns.map irow))) (hB : Bl (F :: H) (H.length, kb) l) (hw : word ≠ []) (hr : ∀ n ∈ ns, -9223372036854775808 ≤ n ∧ n ≤ 9223372036854775807) (hn : ns.length < 4611686018427387904) (hb : (l ++ wordS word ns).length ≤ 1099511627776) :
    gcall KC (geval KC) 49 [.pure (.str word), v, .bptr (H.length, kb) 0] c (f0 :: F :: H) = some (.pure (.tuple []), f0 :: setF F kA kb H.length (l ++ wordS word ns) :: H) := by
  rw [put_ok hv hB.up hw hr hn hb, setB_up (by simp), setB_top]
theorem put_top {kb : Nat} {F : Fr} {l word : List UInt8} {ns : List Int} {v : GV} (hv : canon v = .pure (.slice (ns.map irow))) (hB : Bl (F :: H) (H.length, kb) l) (hw : word ≠ []) (hr : ∀ n ∈ ns, -9223372036854775808 ≤ n ∧ n ≤ 9223372036854775807) (hn : ns.length < 4611686018427387904) (hb : (l ++ wordS word ns).length ≤ 1099511627776) :
    gcall KC (geval KC) 49 [.pure (.str word), v, .bptr (H.length, kb) 0] c (F :: H) = some (.pure (.tuple []), setF F kA kb H.length (l ++ wordS word ns) :: H) := by
  rw [put_ok hv hB hw hr hn hb, setB_top]
theorem Bl.setF {kb : Nat} {F : Fr} {l l' : List UInt8} (h : Bl (F :: H) (H.length, kb) l) (hl : l' ≠ []) : Bl (Go.Gh.setF F kA kb H.length l' :: H) (H.length, kb) l' := by
  have := h.set hl
  rwa [setB_top] at this
theorem setF_setF {kb : Nat} {F : Fr} {l l1 l2 : List UInt8} (h : Bl (F :: H) (H.length, kb) l) (h2 : l2 ≠ []) : Go.Gh.setF (Go.Gh.setF F kA kb H.length l1) kA kb H.length l2 = Go.Gh.setF F kA kb H.length l2 := by
  have := setB_setB h.1 (l1 := l1) (l2 := l2) (.inr h2)
  rw [setB_top, setB_top, setB_top] at this
  exact (List.cons.inj this).1

structure GoodF (f : Fire) : Prop where
  cl : f.coals.length ≤ 12
  tl : f.touches.length ≤ 40
  cn : ∀ x ∈ f.coals, ∀ n ∈ coalN x, 0 ≤ n ∧ n ≤ 1000
  tn : ∀ x ∈ f.touches, 0 ≤ x.a ∧ x.a ≤ 11 ∧ 0 ≤ x.b ∧ x.b ≤ 11

theorem wloop1 (cs : List Coal) (hc : cs.length ≤ 12) (hcn : ∀ x ∈ cs, ∀ n ∈ coalN x, 0 ≤ n ∧ n ≤ 1000) (kb : Nat) (Q : GX → GSt → Prop) : ∀ (k i : Nat) (l : List UInt8) (F : Fr), i + k = cs.length → Bl (F :: H) (H.length, kb) l → (l ++ (cs.drop i).flatMap coalS).length ≤ 1099511627776 →
    (Q (.exit 0) ⟨[(1, .bptr (H.length, 1) 0), (5, .bptr (H.length, kb) 0), (6, .func 49 [] [.bptr (H.length, kb) 0])], (if i < cs.length then setF F kA kb H.length (l ++ (cs.drop i).flatMap coalS) else F) :: H, 78⟩) →
    WPL KC needT 11 (lp Tryz.f11 0) [1, 5, 6, 18, 19, 20] [1, 5, 6] Q [(1, .bptr (H.length, 1) 0), (5, .bptr (H.length, kb) 0), (6, .func 49 [] [.bptr (H.length, kb) 0]), (18, .pure (.slice (cs.map Coal.row))), (19, .pure (.int .i64 cs.length)), (20, .pure (.int .i64 i))] (F :: H) 78 := by
  intro k
  induction k with
  | zero =>
    intro i l F hi hB hb h1
    have hia : ¬ i < cs.length := by omega
    apply WPL_step
    conv => arg 4; whnf
    simp [hia]
    simpa [hia] using h1
  | succ k ih =>
    intro i l F hi hB hb h1
    have hia : i < cs.length := by omega
    have hw := w64 (x := (i : Int) + 1) (by omega) (by omega)
    have hd : cs.drop i = cs[i] :: cs.drop (i + 1) := List.drop_eq_getElem_cons hia
    have hri := hcn cs[i] (List.getElem_mem hia)
    have hri2 : ∀ n ∈ coalN cs[i], -9223372036854775808 ≤ n ∧ n ≤ 9223372036854775807 := fun n hn => by have := hri n hn; omega
    have hs : (cs.drop i).flatMap coalS = coalS cs[i] ++ (cs.drop (i + 1)).flatMap coalS := by rw [hd]; rfl
    rw [hs, ← List.append_assoc] at hb h1
    rw [if_pos hia] at h1
    have hc0 : coalS cs[i] ≠ [] := by simp [coalS, wordS, coalW]
    have ih' := fun (F : Fr) (hB : Bl (F :: H) (H.length, kb) (l ++ coalS cs[i])) => ih (i + 1) (l ++ coalS cs[i]) F (by omega) hB hb
    have hb1 : (l ++ wordS coalW (coalN cs[i])).length ≤ 1099511627776 := by simp [coalS] at hb ⊢; omega
    have hp1 := fun f0 c => put_up (c := c) (f0 := f0) (v := .pure (.slice ((coalN cs[i]).map irow))) (word := coalW) (ns := coalN cs[i]) rfl hB (by simp [coalW]) hri2 (by simp [coalN]) hb1
    have hB1 : Bl (setF F kA kb H.length (l ++ wordS coalW (coalN cs[i])) :: H) (H.length, kb) (l ++ wordS coalW (coalN cs[i])) := hB.setF (by simp [wordS, coalW])
    have hls : ∀ w, l ++ wordS coalW (coalN cs[i]) ++ wordS w [] = l ++ (wordS coalW (coalN cs[i]) ++ w) := fun w => by simp [wordS, numsS]
    have hne : ∀ w, l ++ (wordS coalW (coalN cs[i]) ++ w) ≠ [] := fun w => by simp [wordS, coalW]
    have hp2 := fun f0 c (w : List UInt8) (hw : w ≠ []) (hb2 : (l ++ (wordS coalW (coalN cs[i]) ++ w)).length ≤ 1099511627776) => put_up (c := c) (f0 := f0) (v := .nils) (word := w) (ns := []) rfl hB1 hw (by simp) (by simp) (by rw [hls]; exact hb2)
    simp only [hls, setF_setF hB (hne _)] at hp2
    simp [coalN, coalW, irow] at hp1
    have hB2 : ∀ w, Bl (setF F kA kb H.length (l ++ (wordS coalW (coalN cs[i]) ++ w)) :: H) (H.length, kb) (l ++ (wordS coalW (coalN cs[i]) ++ w)) := fun w => hB.setF (hne w)
    have h2 : Q (GX.exit 0) ⟨[(1, .bptr (H.length, 1) 0), (5, .bptr (H.length, kb) 0), (6, .func 49 [] [.bptr (H.length, kb) 0])], (if i + 1 < cs.length then setF (setF F kA kb H.length (l ++ coalS cs[i])) kA kb H.length (l ++ coalS cs[i] ++ (cs.drop (i + 1)).flatMap coalS) else setF F kA kb H.length (l ++ coalS cs[i])) :: H, 78⟩ := by
      split
      · rw [setF_setF hB (by simp [hc0])]; exact h1
      · have : cs.drop (i + 1) = [] := List.drop_eq_nil_of_le (by omega)
        rw [this] at h1
        simpa using h1
    have hb' : (l ++ coalS cs[i]).length ≤ 1099511627776 := by simp at hb ⊢; omega
    have ih2 := ih' _ (hB.setF (by simp [hc0])) h2
    apply WPL_step
    conv => arg 4; whnf
    cases hlit : cs[i].lit with
    | true =>
      have e1 : coalS cs[i] = wordS coalW (coalN cs[i]) ++ [32, 108, 105, 116, 10] := by unfold coalS; rw [hlit]; rfl
      rw [e1] at ih2 hb'
      have hp3 := fun f0 c => hp2 f0 c [32, 108, 105, 116, 10] (by simp) hb'
      simp [coalN, coalW] at hp3 ih2
      simp [hia, Coal.row, hw, hp1, hlit, hp3]
      exact ih2
    | false =>
      have e1 : coalS cs[i] = wordS coalW (coalN cs[i]) ++ [32, 99, 111, 108, 100, 10] := by unfold coalS; rw [hlit]; rfl
      rw [e1] at ih2 hb'
      have hp3 := fun f0 c => hp2 f0 c [32, 99, 111, 108, 100, 10] (by simp) hb'
      simp [coalN, coalW] at hp3 ih2
      simp [hia, Coal.row, hw, hp1, hlit, hp3]
      exact ih2

theorem wloop2 (cs : List Touch) (hc : cs.length ≤ 40) (hcn : ∀ x ∈ cs, 0 ≤ x.a ∧ x.a ≤ 11 ∧ 0 ≤ x.b ∧ x.b ≤ 11) (kb : Nat) (Q : GX → GSt → Prop) : ∀ (k i : Nat) (l : List UInt8) (F : Fr), i + k = cs.length → Bl (F :: H) (H.length, kb) l → (l ++ (cs.drop i).flatMap touchS).length ≤ 1099511627776 →
    (Q (.exit 2) ⟨[(1, .bptr (H.length, 1) 0), (5, .bptr (H.length, kb) 0), (6, .func 49 [] [.bptr (H.length, kb) 0])], (if i < cs.length then setF F kA kb H.length (l ++ (cs.drop i).flatMap touchS) else F) :: H, 78⟩) →
    WPL KC needT 11 (lp Tryz.f11 1) [1, 5, 6, 53, 54, 55] [1, 5, 6] Q [(1, .bptr (H.length, 1) 0), (5, .bptr (H.length, kb) 0), (6, .func 49 [] [.bptr (H.length, kb) 0]), (53, .pure (.slice (cs.map Touch.row))), (54, .pure (.int .i64 cs.length)), (55, .pure (.int .i64 i))] (F :: H) 78 := by
  intro k
  induction k with
  | zero =>
    intro i l F hi hB hb h1
    have hia : ¬ i < cs.length := by omega
    apply WPL_step
    conv => arg 4; whnf
    simp [hia]
    simpa [hia] using h1
  | succ k ih =>
    intro i l F hi hB hb h1
    have hia : i < cs.length := by omega
    have hw := w64 (x := (i : Int) + 1) (by omega) (by omega)
    have hd : cs.drop i = cs[i] :: cs.drop (i + 1) := List.drop_eq_getElem_cons hia
    have hri := hcn cs[i] (List.getElem_mem hia)
    have hri2 : ∀ n ∈ [cs[i].a, cs[i].b], -9223372036854775808 ≤ n ∧ n ≤ 9223372036854775807 := by
      intro n hn
      simp at hn
      rcases hn with rfl | rfl <;> omega
    have hs : (cs.drop i).flatMap touchS = touchS cs[i] ++ (cs.drop (i + 1)).flatMap touchS := by rw [hd]; rfl
    rw [hs, ← List.append_assoc] at hb h1
    rw [if_pos hia] at h1
    have hc0 : touchS cs[i] ≠ [] := by simp [touchS, wordS, touchW]
    have ih' := fun (F : Fr) (hB : Bl (F :: H) (H.length, kb) (l ++ touchS cs[i])) => ih (i + 1) (l ++ touchS cs[i]) F (by omega) hB hb
    have hb1 : (l ++ wordS touchW [cs[i].a, cs[i].b]).length ≤ 1099511627776 := by simp [touchS] at hb ⊢; omega
    have hp1 := fun f0 c => put_up (c := c) (f0 := f0) (v := .pure (.slice ([cs[i].a, cs[i].b].map irow))) (word := touchW) (ns := [cs[i].a, cs[i].b]) rfl hB (by simp [touchW]) hri2 (by simp) hb1
    have hB1 : Bl (setF F kA kb H.length (l ++ wordS touchW [cs[i].a, cs[i].b]) :: H) (H.length, kb) (l ++ wordS touchW [cs[i].a, cs[i].b]) := hB.setF (by simp [wordS, touchW])
    have hls : l ++ wordS touchW [cs[i].a, cs[i].b] ++ wordS [10] [] = l ++ touchS cs[i] := by simp [wordS, numsS, touchS]
    have hb' : (l ++ touchS cs[i]).length ≤ 1099511627776 := by simp at hb ⊢; omega
    have hp2 := fun f0 c => put_up (c := c) (f0 := f0) (v := .nils) (word := [10]) (ns := []) rfl hB1 (by simp) (by simp) (by simp) (by rw [hls]; exact hb')
    simp only [hls, setF_setF hB (l2 := l ++ touchS cs[i]) (by simp [hc0])] at hp2
    simp [touchW, irow] at hp1 hp2
    have h2 : Q (GX.exit 2) ⟨[(1, .bptr (H.length, 1) 0), (5, .bptr (H.length, kb) 0), (6, .func 49 [] [.bptr (H.length, kb) 0])], (if i + 1 < cs.length then setF (setF F kA kb H.length (l ++ touchS cs[i])) kA kb H.length (l ++ touchS cs[i] ++ (cs.drop (i + 1)).flatMap touchS) else setF F kA kb H.length (l ++ touchS cs[i])) :: H, 78⟩ := by
      split
      · rw [setF_setF hB (by simp [hc0])]; exact h1
      · have : cs.drop (i + 1) = [] := List.drop_eq_nil_of_le (by omega)
        rw [this] at h1
        simpa using h1
    have ih2 := ih' _ (hB.setF (by simp [hc0])) h2
    apply WPL_step
    conv => arg 4; whnf
    simp [hia, Touch.row, hw, hp1, hp2]
    simpa using ih2

theorem digs_len : ∀ f u, (digs f u).length ≤ f
  | 0, u => by simp [digs]
  | f + 1, u => by
    rw [digs]
    split
    · simp
    · have := digs_len f (u / 10)
      simp
      omega
theorem itoaL_len (n : Int) : (itoaL n).length ≤ 21 := by
  unfold itoaL
  split
  · have := digs_len 20 n.natAbs
    simp
    omega
  · have := digs_len 20 n.toNat
    omega
theorem numsS_len : ∀ ns : List Int, (numsS ns).length ≤ 22 * ns.length
  | [] => by simp [numsS]
  | n :: ns => by
    have h1 := numsS_len ns
    have h2 := itoaL_len n
    unfold numsS at h1 ⊢
    simp at h1 ⊢
    omega
theorem flat_len {α : Type} {g : α → List UInt8} {m : Nat} (h : ∀ x, (g x).length ≤ m) : ∀ l : List α, (l.flatMap g).length ≤ m * l.length
  | [] => by simp
  | x :: l => by
    have h1 := flat_len h l
    have h2 := h x
    simp only [List.flatMap_cons, List.length_append, List.length_cons, Nat.mul_add]
    omega
theorem coalS_len (x : Coal) : (coalS x).length ≤ 150 := by
  have := numsS_len (coalN x)
  unfold coalS wordS
  simp [coalN, coalW, litW, coldW] at this ⊢
  split <;> simp <;> omega
theorem touchS_len (x : Touch) : (touchS x).length ≤ 60 := by
  have := numsS_len [x.a, x.b]
  unfold touchS wordS
  simp [touchW] at this ⊢
  omega
theorem writeS_len {f : Fire} (hf : GoodF f) : (writeS f).length ≤ 5000 := by
  have h1 := flat_len coalS_len f.coals
  have h2 := flat_len touchS_len f.touches
  have h3 := numsS_len [(f.coals.length : Int)]
  have h4 := hf.cl
  have h5 := hf.tl
  unfold writeS wordS
  simp [endW] at h1 h2 h3 ⊢
  omega

theorem write0 (f : Fire) (hH : 0 < H.length) (hf : GoodF f) (h0 : checkF f.coals f.touches = 0) : gcall KC (geval KC) 11 [.pure (.agg [.slice (f.coals.map Coal.row), .slice (f.touches.map Touch.row)])] c H = some (.pure (.tuple [.str (writeS f), .int .i64 0]), H) := by
  refine WPv_eq (call_enter KC needT Tryz.func11 rfl rfl good11 rfl rfl rfl (by simp) hH ?_)
  have hC := fun c => check_ok (c := c) (H := [(1, .box [.pure (.slice (f.coals.map Coal.row)), .pure (.slice (f.touches.map Touch.row))])] :: H) f.coals f.touches (by simp)
  rw [h0] at hC
  have hkB : kB = 1329227995784915872903807060280774661 := by rw [kB_def]; simp
  have hne1 : kB ≠ kA := by rw [kB_def, kA_def]; simp
  have h1A : (1 : Nat) ≠ kA := by rw [kA_def]; simp
  have h1B : (1 : Nat) ≠ kB := by rw [kB_def]; simp
  have hlen := writeS_len hf
  have hB0 : Bl (([(1, .box [.pure (.slice (f.coals.map Coal.row)), .pure (.slice (f.touches.map Touch.row))]), (kB, .box [.pure .nilp, .nils])] : Fr) :: H) (H.length, kB) [] := by
    refine ⟨⟨by simp, hne1, ⟨_, .inl rfl, ?_⟩, fun h => absurd rfl h, fun _ => ?_⟩, kB_name⟩
    · simp [Ne.symm h1B, apS_nil]
    · simp [Ne.symm h1A, Ne.symm hne1]
  have hF0 : Fr.get ([(1, .box [.pure (.slice (f.coals.map Coal.row)), .pure (.slice (f.touches.map Touch.row))]), (kB, .box [.pure .nilp, .nils])] : Fr) 1 = some (.box [.pure (.slice (f.coals.map Coal.row)), .pure (.slice (f.touches.map Touch.row))]) := by simp
  simp [hC]
  rw [← hkB]
  generalize ([(1, .box [.pure (.slice (f.coals.map Coal.row)), .pure (.slice (f.touches.map Touch.row))]), (kB, .box [.pure .nilp, .nils])] : Fr) = F0 at hB0 hF0 ⊢
  have hl1 : (f.coals.flatMap coalS).length ≤ 1099511627776 := by unfold writeS at hlen; simp at hlen ⊢; omega
  refine wloop1 f.coals hf.cl hf.cn kB _ f.coals.length 0 [] F0 (by omega) hB0 (by simpa using hl1) ?_
  obtain ⟨F1, hF1, hB1, hE1⟩ : ∃ F1, (if 0 < f.coals.length then setF F0 kA kB H.length ([] ++ (f.coals.drop 0).flatMap coalS) else F0) = F1 ∧ Bl (F1 :: H) (H.length, kB) (f.coals.flatMap coalS) ∧ F1.get 1 = some (.box [.pure (.slice (f.coals.map Coal.row)), .pure (.slice (f.touches.map Touch.row))]) := by
    refine ⟨_, rfl, ?_, ?_⟩
    · cases hcs : f.coals with
      | nil => simpa using hB0
      | cons x r => simpa using hB0.setF (l' := (x :: r).flatMap coalS) (by simp [coalS, wordS, coalW])
    · split
      · rw [setF_get h1A h1B]; exact hF0
      · exact hF0
  rw [hF1]
  simp [hE1]
  have hl2 : (f.coals.flatMap coalS ++ f.touches.flatMap touchS).length ≤ 1099511627776 := by unfold writeS at hlen; simp at hlen ⊢; omega
  refine wloop2 f.touches hf.tl hf.tn kB _ f.touches.length 0 (f.coals.flatMap coalS) F1 (by omega) hB1 (by simpa using hl2) ?_
  obtain ⟨F2, hF2, hB2, hE2⟩ : ∃ F2, (if 0 < f.touches.length then setF F1 kA kB H.length (f.coals.flatMap coalS ++ (f.touches.drop 0).flatMap touchS) else F1) = F2 ∧ Bl (F2 :: H) (H.length, kB) (f.coals.flatMap coalS ++ f.touches.flatMap touchS) ∧ F2.get 1 = some (.box [.pure (.slice (f.coals.map Coal.row)), .pure (.slice (f.touches.map Touch.row))]) := by
    refine ⟨_, rfl, ?_, ?_⟩
    · cases hcs : f.touches with
      | nil => simpa using hB1
      | cons x r => simpa using hB1.setF (l' := f.coals.flatMap coalS ++ (x :: r).flatMap touchS) (by simp [touchS, wordS, touchW])
    · split
      · rw [setF_get h1A h1B]; exact hE1
      · exact hE1
  rw [hF2]
  clear hF1 hF2 hF0 hB0 hB1 hE1
  have hl3 : ((f.coals.flatMap coalS ++ f.touches.flatMap touchS) ++ wordS endW [(f.coals.length : Int)]).length ≤ 1099511627776 := by unfold writeS at hlen; simp at hlen ⊢; omega
  have hcl := hf.cl
  have hw : writeS f = (f.coals.flatMap coalS ++ f.touches.flatMap touchS) ++ wordS endW [(f.coals.length : Int)] ++ wordS [10] [] := by simp [writeS, wordS, numsS]
  rw [hw] at hlen
  have hwn : writeS f ≠ [] := by rw [hw]; simp [wordS]
  have hp1 := fun c => put_top (c := c) (v := .pure (.slice ([(f.coals.length : Int)].map irow))) (word := endW) (ns := [(f.coals.length : Int)]) rfl hB2 (by simp [endW]) (by intro n hn; simp at hn; omega) (by simp) hl3
  have hB3 := hB2.setF (l' := (f.coals.flatMap coalS ++ f.touches.flatMap touchS) ++ wordS endW [(f.coals.length : Int)]) (by simp [wordS, endW])
  have hp2 := fun c => put_top (c := c) (v := .nils) (word := [10]) (ns := []) rfl hB3 (by simp) (by simp) (by simp) (by simp at hlen ⊢; omega)
  rw [← hw] at hp2
  have hB4 := hB3.setF (l' := writeS f) hwn
  have hp3 := fun c => string_ok (c := c) hB4 hwn (by rw [hw]; simp at hlen ⊢; omega)
  generalize setF (setF F2 kA kB H.length _) kA kB H.length _ = F4 at *
  generalize setF F2 kA kB H.length _ = F3 at *
  have hE : F3 = F3 := rfl
  simp [endW, irow] at hp1 hp2 hp3
  simp [hE2, hp1, hp2, hp3, gleave_free]

theorem inB_iff {x lo hi : Int} : inB x lo hi = true ↔ lo ≤ x ∧ x ≤ hi := by simp [inB]
theorem faultF_zero {a b lo hi : Int} (h : faultF a b lo hi = 0) : lo ≤ a ∧ a ≤ b ∧ b ≤ hi := by
  rw [faultF_def] at h
  split at h
  · rename_i h1
    rw [inB_iff, inB_iff] at h1
    split at h
    · omega
    · omega
  · omega
theorem firstErr_zero {α : Type} {g : α → Int} : ∀ {l : List α}, firstErr g l = 0 → ∀ x ∈ l, g x = 0
  | y :: r, h, x, hx => by
    unfold firstErr at h
    by_cases hy : g y = 0
    · rw [if_neg (by simpa using hy)] at h
      rcases List.mem_cons.1 hx with e | e
      · rw [e]; exact hy
      · exact firstErr_zero h x e
    · rw [if_pos hy] at h
      exact absurd h hy
theorem coalF_zero {x : Coal} (h : coalF x = 0) : faultF x.katch.lo x.katch.hi 1 300 = 0 ∧ faultF x.burn.lo x.burn.hi 1 300 = 0 ∧ faultF x.heat.lo x.heat.hi 0 1000 = 0 := by
  rw [coalF_def] at h
  split at h
  · rename_i h1; exact absurd h h1
  · rename_i h1
    split at h
    · rename_i h2; exact absurd h h2
    · rename_i h2; exact ⟨by simpa using h1, by simpa using h2, h⟩
theorem goodF {f : Fire} (h : checkF f.coals f.touches = 0) : GoodF f := by
  rw [checkF_def] at h
  split at h
  · omega
  rename_i h1
  split at h
  · rename_i h2; exact absurd h h2
  rename_i h2
  split at h
  · omega
  rename_i h3
  have hc := firstErr_zero (Decidable.not_not.1 h2)
  have ht := firstErr_zero h
  refine ⟨by omega, by omega, fun x hx n hn => ?_, fun x hx => ?_⟩
  · obtain ⟨e1, e2, e3⟩ := coalF_zero (hc x hx)
    have := faultF_zero e1
    have := faultF_zero e2
    have := faultF_zero e3
    simp [coalN] at hn
    rcases hn with rfl | rfl | rfl | rfl | rfl | rfl <;> omega
  · have e := ht x hx
    rw [touchF_def] at e
    split at e
    · rename_i h4
      rw [inB_iff, inB_iff] at h4
      omega
    · omega
theorem Write_ok (f : Fire) (hH : 0 < H.length) : gcall KC (geval KC) 11 [.pure (.agg [.slice (f.coals.map Coal.row), .slice (f.touches.map Touch.row)])] c H =
    some (.pure (.tuple [.str (if checkF f.coals f.touches = 0 then writeS f else []), .int .i64 (checkF f.coals f.touches)]), H) := by
  by_cases h : checkF f.coals f.touches = 0
  · rw [if_pos h, h]
    exact write0 f hH (goodF h) h
  · rw [if_neg h]
    refine WPv_eq (call_enter KC needT Tryz.func11 rfl rfl good11 rfl rfl rfl (by simp) hH ?_)
    have hC := fun c => check_ok (c := c) (H := [(1, .box [.pure (.slice (f.coals.map Coal.row)), .pure (.slice (f.touches.map Touch.row))])] :: H) f.coals f.touches (by simp)
    have h' : (checkF f.coals f.touches == 0) = false := by simpa using h
    simp [hC, h, h', gleave_free, bne]
end Go.Gh


/- Numbers of words. -/
namespace Go.Gh
open Go.Proofs
set_option linter.unusedSimpArgs false
set_option linter.unusedVariables false
set_option maxRecDepth 100000
set_option maxHeartbeats 2000000

variable {c : Nat} {H : Heap}
noncomputable def numV : List UInt8 → Option Int := hid fun w => match Lib.atoiAll w with
  | .ok n => if 0 ≤ n ∧ w.length ≤ 6 ∧ itoaL n = w then some n else none
  | _ => none
theorem numV_def (w : List UInt8) : numV w = (match Lib.atoiAll w with
  | .ok n => if 0 ≤ n ∧ w.length ≤ 6 ∧ itoaL n = w then some n else none
  | _ => none) := by rw [numV, hid_eq]
noncomputable def allNum : List (List UInt8) → Option (List Int)
  | [] => some []
  | w :: r => match numV w with | none => none | some n => match allNum r with | none => none | some l => some (n :: l)
def srow (w : List UInt8) : List PV := [.str w]

theorem atoi_rng {w : List UInt8} {n : Int} (h : Lib.atoiAll w = .ok n) : -9223372036854775808 ≤ n ∧ n ≤ 9223372036854775807 := by
  unfold Lib.atoiAll at h
  split at h
  · cases h
  · rename_i c r
    simp only at h
    split at h
    · cases h
    · cases h
    · split at h
      · cases h
      · rename_i h1
        split at h
        · cases h
        · rename_i h2
          injection h with h
          subst h
          split <;> omega
theorem num_loop (ws : List (List UInt8)) (hn : ws.length ≤ 1000000) (hsz : ∀ w ∈ ws, w.length ≤ 281474976710656) (Q : GX → GSt → Prop) (hH : 0 < H.length) : ∀ (k i : Nat) (acc : List Int), i + k = ws.length → acc.length + k ≤ 1000000 →
    (∀ ns, allNum (ws.drop i) = some ns → Q (.exit 0) ⟨[(4, gdead), (5, gdead), (6, apS (H.length, 46) 1 ((acc ++ ns).map irow))], apF 46 1 ((acc ++ ns).map irow) [] :: H, 49⟩) →
    (∀ rows, allNum (ws.drop i) = none → Q .ret ⟨[(4, .nils), (5, .pure (.bool false)), (6, apS (H.length, 46) 1 rows)], apF 46 1 rows [] :: H, 49⟩) →
    WPL KC needT 56 (lp Tryz.f56 0) [6, 15, 16, 17] [4, 5, 6] Q [(6, apS (H.length, 46) 1 (acc.map irow)), (15, .pure (.slice (ws.map srow))), (16, .pure (.int .i64 ws.length)), (17, .pure (.int .i64 i))] (apF 46 1 (acc.map irow) [] :: H) 49 := by
  intro k
  induction k with
  | zero =>
    intro i acc hi hb h1 h2
    have hia : ¬ i < ws.length := by omega
    have e1 : ws.drop i = [] := List.drop_of_length_le (by omega)
    rw [e1] at h1
    have h1' := h1 [] rfl
    rw [List.append_nil] at h1'
    apply WPL_step
    conv => arg 4; whnf
    simp [hia]
    exact h1'
  | succ k ih =>
    intro i acc hi hb h1 h2
    have hia : i < ws.length := by omega
    have hw := w64 (x := (i : Int) + 1) (by omega) (by omega)
    have hd : ws.drop i = ws[i] :: ws.drop (i + 1) := List.drop_eq_getElem_cons hia
    have hsi := hsz ws[i] (List.getElem_mem hia)
    have hat : ∀ c G, 0 < List.length G → gcall KC (geval KC) 95 [.pure (.str ws[i])] c G = extAtoi 222 [.pure (.str ws[i])] G := fun c G hG =>
      gcall_ext KC (e := extAtoi 222) (by kernel_rfl) (by rfl) hG
    have hb' : (acc.length + 1) * 8 ≤ 1099511627776 := by omega
    rw [hd] at h1 h2
    apply WPL_step
    conv => arg 4; whnf
    unfold extAtoi at hat
    simp only [hsi, if_true] at hat
    have hnone : numV ws[i] = none → allNum (ws[i] :: ws.drop (i + 1)) = none := fun h => by simp only [allNum, h]
    cases hA : Lib.atoiAll ws[i] with
    | ok n =>
      rw [hA] at hat
      have hnV := numV_def ws[i]
      rw [hA] at hnV
      simp only at hnV
      by_cases c1 : n < 0
      · rw [if_neg (by omega)] at hnV
        have h2' := h2 (acc.map irow) (hnone hnV)
        simp [hia, srow, hat, c1, hw]
        exact h2'
      · by_cases c2 : 6 < ws[i].length
        · rw [if_neg (by omega)] at hnV
          have c2' : (6 : Int) < ws[i].length := by omega
          have h2' := h2 (acc.map irow) (hnone hnV)
          simp [hia, srow, hat, c1, c2, c2', hw]
          exact h2'
        · have hr := atoi_rng hA
          have c2' : ¬ (6 : Int) < ws[i].length := by omega
          have hI : ∀ c G, 0 < List.length G → gcall KC (geval KC) 51 [.pure (.int .i64 n)] c G = some (.pure (.str (itoaL n)), G) := fun c G hG => itoa_ok hr.1 hr.2 hG
          by_cases c3 : itoaL n = ws[i]
          · rw [if_pos ⟨by omega, by omega, c3⟩] at hnV
            have ih' := ih (i + 1) (acc ++ [n]) (by omega) (by simp; omega) (fun ns h => by
              rw [List.append_assoc]
              exact h1 (n :: ns) (by simp only [allNum, hnV, h])) (fun rows h => h2 rows (by simp only [allNum, hnV, h]))
            rw [c3] at hI
            simp [irow] at ih'
            simp [hia, srow, hat, c1, c2, c2', hI, c3, hw, hb', irow]
            exact ih'
          · rw [if_neg (fun h => c3 h.2.2)] at hnV
            have c3' : ¬ ws[i] = itoaL n := fun h => c3 h.symm
            have h2' := h2 (acc.map irow) (hnone hnV)
            simp [hia, srow, hat, c1, c2, c2', hI, c3, c3', hw]
            exact h2'
    | range =>
      rw [hA] at hat
      have hnV := numV_def ws[i]
      rw [hA] at hnV
      have h2' := h2 (acc.map irow) (hnone hnV)
      simp [hia, srow, hat, hw]
      exact h2'
    | _ =>
      rw [hA] at hat
      have hnV := numV_def ws[i]
      rw [hA] at hnV
      have h2' := h2 (acc.map irow) (hnone hnV)
      simp [hia, srow, hat, hw]
      exact h2'

noncomputable def numsV (ws : List (List UInt8)) (k : Int) : Option (List Int) := if (ws.length : Int) = k then allNum ws else none
def numsG : Option (List Int) → PV
  | some ns => .tuple [.slice (ns.map irow), .bool true]
  | none => .tuple [.slice [], .bool false]
theorem numbers_ok (ws : List (List UInt8)) (k : Int) (hn : ws.length ≤ 1000000) (hsz : ∀ w ∈ ws, w.length ≤ 281474976710656) (hH : 0 < H.length) :
    gcall KC (geval KC) 56 [.pure (.slice (ws.map srow)), .pure (.int .i64 k)] c H = some (.pure (numsG (numsV ws k)), H) := by
  refine WPv_eq (call_enter KC needT Tryz.func56 rfl rfl good56 rfl rfl rfl (by simp) hH ?_)
  by_cases hk : (ws.length : Int) = k
  · subst hk
    rw [numsV, if_pos rfl]
    have h0 := fun Q h1 h2 => num_loop (H := H) ws hn hsz Q hH ws.length 0 [] (by omega) (by simpa using hn) h1 h2
    simp [apS_nil, apF_nil] at h0
    simp
    refine h0 _ (fun ns h => ?_) (fun rows h => ?_)
    · rw [h]
      simp [numsG, gleave_free]
      cases ns with
      | nil => simp [apS_nil, apF_nil]
      | cons n r =>
        have e := clean1_apS (H := H) (key := 46) (es := 1) (rows := (n :: r).map irow) (l := H.length) (l0 := H.length - 1) (F := apF 46 1 ((n :: r).map irow) []) rfl (by omega) (fun h => apF_self h)
        have e2 : ∀ G l0, clean2 G l0 (apS (H.length, 46) 1 ((n :: r).map irow)) = clean1 G l0 (apS (H.length, 46) 1 ((n :: r).map irow)) := fun G l0 => by unfold apS; split <;> rfl
        rw [e2, e]
        simp
    · rw [h]
      simp [numsG, gleave_free]
  · rw [numsV, if_neg hk]
    have hk' : ((ws.length : Int) == k) = false := by simpa using hk
    simp [hk, hk', numsG, gleave_free, bne]

theorem allNum_len : ∀ {ws : List (List UInt8)} {ns : List Int}, allNum ws = some ns → ns.length = ws.length
  | [], ns, h => by simp only [allNum, Option.some.injEq] at h; subst h; rfl
  | w :: r, ns, h => by
    simp only [allNum] at h
    split at h
    · cases h
    · split at h
      · cases h
      · rename_i l hl
        simp only [Option.some.injEq] at h
        subst h
        simp [allNum_len hl]
end Go.Gh


/- The reader's rows. -/
namespace Go.Gh
open Go.Proofs
set_option linter.unusedSimpArgs false
set_option linter.unusedVariables false
set_option maxRecDepth 100000
set_option maxHeartbeats 2000000

variable {c : Nat} {H : Heap}
/-- The frame of a reader: the fire so far. -/
def fF (L : Nat) (f : Fire) : Fr := apF 107 2 (f.touches.map Touch.row) (apF 78 7 (f.coals.map Coal.row) [(2, .box [apS (L, 78) 7 (f.coals.map Coal.row), apS (L, 107) 2 (f.touches.map Touch.row)])])
section
variable {L : Nat} {f : Fire}
theorem fF_2 : (fF L f).get 2 = some (.box [apS (L, 78) 7 (f.coals.map Coal.row), apS (L, 107) 2 (f.touches.map Touch.row)]) := by
  unfold fF
  rw [apF_get (by decide), apF_get (by decide)]
  simp
theorem fF_78n (h : f.coals.map Coal.row = []) : (fF L f).get 78 = none := by
  unfold fF
  rw [apF_get (by decide), h, apF_nil]
  simp
theorem fF_78 (h : f.coals.map Coal.row ≠ []) : (fF L f).get 78 = some (.arr 7 (f.coals.map Coal.row) 0 false) := by
  unfold fF
  rw [apF_get (by decide), apF_self h]
theorem fF_107n (h : f.touches.map Touch.row = []) : (fF L f).get 107 = none := by
  unfold fF
  rw [h, apF_nil, apF_get (by decide)]
  simp
theorem fF_107 (h : f.touches.map Touch.row ≠ []) : (fF L f).get 107 = some (.arr 2 (f.touches.map Touch.row) 0 false) := by
  unfold fF
  rw [apF_self h]
theorem fF_coal (x : Coal) (hc : f.touches = []) : ((fF L f).ins 78 (.arr 7 (f.coals.map Coal.row ++ [x.row]) 0 false)).ins 2 (.box [apS (L, 78) 7 (f.coals.map Coal.row ++ [x.row]), .nils]) = fF L ⟨f.coals ++ [x], []⟩ := by
  unfold fF
  rw [hc]
  simp only [List.map_nil, apF_nil, List.map_append, List.map_cons]
  unfold apF
  by_cases h : f.coals.map Coal.row = []
  · simp [h, apS_nil]
  · simp [h, apS_nil]
theorem fF_touch (x : Touch) : ((fF L f).ins 107 (.arr 2 (f.touches.map Touch.row ++ [x.row]) 0 false)).ins 2 (.box [apS (L, 78) 7 (f.coals.map Coal.row), apS (L, 107) 2 (f.touches.map Touch.row ++ [x.row])]) = fF L ⟨f.coals, f.touches ++ [x]⟩ := by
  unfold fF
  simp only [List.map_nil, apF_nil, List.map_append, List.map_cons]
  unfold apF
  by_cases h : f.coals.map Coal.row = []
  · by_cases h2 : f.touches.map Touch.row = []
    · simp [h, h2, apS_nil]
    · simp [h, h2, apS_nil]
  · by_cases h2 : f.touches.map Touch.row = []
    · simp [h, h2, apS_nil]
    · simp [h, h2, apS_nil]
end

noncomputable def takeC (f : Fire) (ps : List (List UInt8)) : Option Fire := match allNum ((ps.drop 1).take 6) with
  | some [a, b, c, d, e, g] => some ⟨f.coals ++ [⟨⟨a, b⟩, ⟨c, d⟩, ⟨e, g⟩, decide (ps.getD 7 [] = litW)⟩], f.touches⟩
  | _ => none
noncomputable def takeT (f : Fire) (ps : List (List UInt8)) : Option Fire := if ps.length = 3 then (match allNum (ps.drop 1) with
  | some [a, b] => some ⟨f.coals, f.touches ++ [⟨a, b⟩]⟩
  | _ => none) else none
noncomputable def takeV (f : Fire) (ps : List (List UInt8)) : Option Fire :=
  if ps.head? = some coalW ∧ ps.length = 8 ∧ f.touches = [] ∧ (ps.getD 7 [] = litW ∨ ps.getD 7 [] = coldW) then takeC f ps
  else if ps.head? = some touchW then takeT f ps else none

theorem apK_coal {L : Nat} {f : Fire} {f0 : Fr} (hL : H.length = L) (x : Coal) (hc : f.coals.length ≤ 1000000) : apK L 78 (apS (L, 78) 7 (f.coals.map Coal.row)) 7 56 [x.row] ([] :: f0 :: fF L f :: H) =
    some (apS (L, 78) 7 (f.coals.map Coal.row ++ [x.row]), [] :: f0 :: (fF L f).ins 78 (.arr 7 (f.coals.map Coal.row ++ [x.row]) 0 false) :: H) := by
  subst hL
  rw [apK_apS (fun h => by simp [fF_78n h]) (fun h => by simp [fF_78 h]) (by simp; omega) (by simp; omega) (by decide)]
  simp
theorem apK_touch {L : Nat} {f : Fire} {f0 : Fr} (hL : H.length = L) (x : Touch) (hc : f.touches.length ≤ 1000000) : apK L 107 (apS (L, 107) 2 (f.touches.map Touch.row)) 2 16 [x.row] ([] :: f0 :: fF L f :: H) =
    some (apS (L, 107) 2 (f.touches.map Touch.row ++ [x.row]), [] :: f0 :: (fF L f).ins 107 (.arr 2 (f.touches.map Touch.row ++ [x.row]) 0 false) :: H) := by
  subst hL
  rw [apK_apS (fun h => by simp [fF_107n h]) (fun h => by simp [fF_107 h]) (by simp; omega) (by simp; omega) (by decide)]
  simp
theorem coal_touch : coalW ≠ touchW := by decide
theorem take_ok (f : Fire) (f0 : Fr) (p : List UInt8) (r : List (List UInt8)) (hc : f.coals.length ≤ 1000000) (ht : f.touches.length ≤ 1000000) (hn : r.length ≤ 1000000) (hsz : ∀ w ∈ p :: r, w.length ≤ 281474976710656) :
    gcall KC (geval KC) 57 [.bptr (H.length, 2) 0, .pure (.slice ((p :: r).map srow))] c (f0 :: fF H.length f :: H) = some (.pure (.bool (takeV f (p :: r)).isSome), f0 :: fF H.length ((takeV f (p :: r)).getD f) :: H) := by
  refine WPv_eq (call_enter KC needT Tryz.func57 rfl rfl good57 rfl rfl rfl (by simp) (by simp) ?_)
  have h2 := fF_2 (L := H.length) (f := f)
  by_cases hp : p = coalW
  · subst hp
    have hpt : (List.head? (coalW :: r) = some touchW) = False := by simp [coal_touch]
    by_cases hr : r.length = 7
    · match r, hr with
      | [a1, a2, a3, a4, a5, a6, l], _ =>
        by_cases htt : f.touches = []
        · by_cases hl : l = litW ∨ l = coldW
          · have hv : takeV f [coalW, a1, a2, a3, a4, a5, a6, l] = takeC f [coalW, a1, a2, a3, a4, a5, a6, l] := by
              unfold takeV; rw [if_pos ⟨rfl, rfl, htt, hl⟩]
            have hN := fun c => numbers_ok (c := c) (H := [] :: f0 :: fF H.length f :: H) [a1, a2, a3, a4, a5, a6] 6 (by simp) (fun w hw => hsz w (List.mem_cons_of_mem _ (List.mem_append_left [l] hw))) (by simp)
            rw [hv]
            rw [htt] at h2
            have hl' : (l == litW || l == coldW) = true := by simpa using hl
            cases hA : allNum [a1, a2, a3, a4, a5, a6] with
            | none =>
              have e : takeC f [coalW, a1, a2, a3, a4, a5, a6, l] = none := by
                unfold takeC; simp [hA]
              rw [e]
              simp [numsV, hA, numsG, srow] at hN
              rcases hl with rfl | rfl
              · simp [srow, coalW, litW, h2, hN, gleave_free, apS_nil]
              · simp [srow, coalW, litW, coldW, h2, hN, gleave_free, apS_nil]
            | some ns =>
              have hlen := allNum_len hA
              match ns, hlen with
              | [n1, n2, n3, n4, n5, n6], _ =>
                have e : takeC f [coalW, a1, a2, a3, a4, a5, a6, l] = some ⟨f.coals ++ [⟨⟨n1, n2⟩, ⟨n3, n4⟩, ⟨n5, n6⟩, decide (l = litW)⟩], f.touches⟩ := by
                  unfold takeC; simp [hA]
                rw [e]
                simp [numsV, hA, numsG, srow, irow] at hN
                rcases hl with rfl | rfl
                · have hK := apK_coal (H := H) (f := f) (f0 := f0) rfl ⟨⟨n1, n2⟩, ⟨n3, n4⟩, ⟨n5, n6⟩, true⟩ hc
                  have hF := fF_coal (L := H.length) (f := f) ⟨⟨n1, n2⟩, ⟨n3, n4⟩, ⟨n5, n6⟩, true⟩ htt
                  simp only [Coal.row] at hK hF
                  simp [srow, coalW, litW, h2, hN, apS_nil, hK, Fr.get_ins_other, gleave_free]
                  rw [htt]
                  simpa using hF
                · have hK := apK_coal (H := H) (f := f) (f0 := f0) rfl ⟨⟨n1, n2⟩, ⟨n3, n4⟩, ⟨n5, n6⟩, false⟩ hc
                  have hF := fF_coal (L := H.length) (f := f) ⟨⟨n1, n2⟩, ⟨n3, n4⟩, ⟨n5, n6⟩, false⟩ htt
                  simp only [Coal.row] at hK hF
                  simp [srow, coalW, litW, coldW, h2, hN, apS_nil, hK, Fr.get_ins_other, gleave_free]
                  rw [htt]
                  simpa using hF
          · have hv : takeV f [coalW, a1, a2, a3, a4, a5, a6, l] = none := by
              unfold takeV; rw [if_neg (fun h => hl h.2.2.2), if_neg (by simp [coal_touch])]
            rw [hv]
            rw [htt] at h2
            have e1 : ¬ l = litW := fun h => hl (.inl h)
            have e2 : ¬ l = coldW := fun h => hl (.inr h)
            simp only [litW, coldW] at e1 e2
            simp [srow, coalW, e1, e2, h2, gleave_free, apS_nil]
        · have hv : takeV f [coalW, a1, a2, a3, a4, a5, a6, l] = none := by
            unfold takeV; rw [if_neg (fun h => htt h.2.2.1), if_neg (by simp [coal_touch])]
          rw [hv]
          have e1 : ((f.touches.length : Int) == 0) = false := by
            have : f.touches.length ≠ 0 := fun h => htt (List.length_eq_zero_iff.1 h)
            simpa using htt
          simp [srow, coalW, h2, e1, htt, gleave_free]
    · have hv : takeV f (coalW :: r) = none := by
        unfold takeV; rw [if_neg (fun h => hr (by simpa using h.2.1)), if_neg (by simp [coal_touch])]
      rw [hv]
      have e1 : ((r.length : Int) + 1 == 8) = false := by
        rw [beq_eq_false_iff_ne]
        omega
      simp [srow, coalW, h2, e1, gleave_free]
  · by_cases hp2 : p = touchW
    · subst hp2
      have hv : takeV f (touchW :: r) = takeT f (touchW :: r) := by
        unfold takeV; rw [if_neg (by simp [coal_touch.symm])]; simp
      rw [hv]
      have hN := fun c => numbers_ok (c := c) (H := [] :: f0 :: fF H.length f :: H) r 2 hn (fun w hw => hsz w (List.mem_cons_of_mem _ hw)) (by simp)
      by_cases hr : r.length = 2
      · match r, hr with
        | [a, b], _ =>
          cases hA : allNum [a, b] with
          | none =>
            have e : takeT f [touchW, a, b] = none := by
              unfold takeT; simp [hA]
            rw [e]
            simp [numsV, hA, numsG, srow] at hN
            simp [srow, touchW, h2, hN, gleave_free]
          | some ns =>
            have hlen := allNum_len hA
            match ns, hlen with
            | [n1, n2], _ =>
              have e : takeT f [touchW, a, b] = some ⟨f.coals, f.touches ++ [⟨n1, n2⟩]⟩ := by
                unfold takeT; simp [hA]
              rw [e]
              simp [numsV, hA, numsG, srow, irow] at hN
              have hK := apK_touch (H := H) (f := f) (f0 := f0) rfl ⟨n1, n2⟩ ht
              have hF := fF_touch (L := H.length) (f := f) ⟨n1, n2⟩
              simp only [Touch.row] at hK hF
              simp [srow, touchW, h2, hN, hK, Fr.get_ins_other, gleave_free]
              simpa using hF
      · have e : takeT f (touchW :: r) = none := by
          unfold takeT; rw [if_neg (by simpa using hr)]
        rw [e]
        have hr' : ¬ (r.length : Int) = 2 := by omega
        simp [numsV, hr', numsG] at hN
        have htk : (r.map srow).take r.length = r.map srow := List.take_of_length_le (by simp)
        simp [srow, touchW, h2, gleave_free, htk, hN]
    · have hv : takeV f (p :: r) = none := by
        unfold takeV; rw [if_neg (by simp [hp]), if_neg (by simp [hp2])]
      rw [hv]
      have e1 : (p == [99, 111, 97, 108]) = false := by simpa [coalW] using hp
      have e2 : (p == [116, 111, 117, 99, 104]) = false := by simpa [touchW] using hp2
      simp [srow, e1, e2, h2, gleave_free]
end Go.Gh


/- The reader. -/
namespace Go.Gh
open Go.Proofs
set_option linter.unusedSimpArgs false
set_option linter.unusedVariables false
set_option maxRecDepth 100000
set_option maxHeartbeats 2000000

variable {c : Nat} {H : Heap}
theorem splitL_len (c : UInt8) : ∀ l, (splitL c l).length ≤ l.length + 1
  | [] => by simp [splitL]
  | b :: r => by
    have := splitL_len c r
    rw [splitL]
    split
    · simp; omega
    · split
      · rename_i x l h
        rw [h] at this
        simp at this ⊢
        omega
      · simp
theorem splitL_mem (c : UInt8) : ∀ l, ∀ w ∈ splitL c l, w.length ≤ l.length
  | [], w, h => by simp [splitL] at h; subst h; simp
  | b :: r, w, h => by
    have ih := splitL_mem c r
    rw [splitL] at h
    split at h
    · rcases List.mem_cons.1 h with rfl | h
      · simp
      · have := ih w h; simp; omega
    · split at h
      · rename_i x l hl
        rw [hl] at ih
        rcases List.mem_cons.1 h with rfl | h
        · have := ih x List.mem_cons_self; simp; omega
        · have := ih w (List.mem_cons_of_mem _ h); simp; omega
      · simp at h; subst h; simp
theorem split_ok {s : List UInt8} {b : UInt8} (hs : s.length < 4294967281) (hH : 0 < H.length) : gcall KC (geval KC) 55 [.pure (.str s), .pure (.str [b])] c H = some (.pure (.slice ((splitL b s).map srow)), H) := by
  refine (gcall_ext KC (e := extSplit) (by kernel_rfl) (by rfl) hH).trans ?_
  unfold extSplit
  simp only [hs, if_true]
  rfl

/-- One row. -/
noncomputable def rowV (i : Nat) (x : Fire × Int × Int) (row : List UInt8) : Option (Fire × Int × Int) :=
  if 0 < x.2.1 then none
  else if (splitL 32 row).head? = some endW then (match numsV ((splitL 32 row).drop 1) 1 with | some [n] => some (x.1, (i : Int) + 1, n) | _ => none)
  else match takeV x.1 (splitL 32 row) with | some f => some (f, x.2) | none => none
noncomputable def rowsV : Nat → Fire × Int × Int → List (List UInt8) → Option (Fire × Int × Int)
  | _, x, [] => some x
  | i, x, row :: r => match rowV i x row with | some y => rowsV (i + 1) y r | none => none
noncomputable def failV : Nat → Fire × Int × Int → List (List UInt8) → Int
  | _, _, [] => 0
  | i, x, row :: r => match rowV i x row with | some y => failV (i + 1) y r | none => (i : Int) + 1
theorem takeV_len {f f' : Fire} {ps : List (List UInt8)} (h : takeV f ps = some f') : f'.coals.length ≤ f.coals.length + 1 ∧ f'.touches.length ≤ f.touches.length + 1 := by
  unfold takeV at h
  split at h
  · unfold takeC at h
    split at h
    · simp at h; subst h; simp
    · cases h
  · split at h
    · unfold takeT at h
      split at h
      · split at h
        · simp at h; subst h; simp
        · cases h
      · cases h
    · cases h

theorem rloop (rows : List (List UInt8)) (hn : rows.length ≤ 100000) (hsz : ∀ w ∈ rows, w.length ≤ 100000) (m : Int) (sp : List (List UInt8)) (Q : GX → GSt → Prop) : ∀ (k i : Nat) (x : Fire × Int × Int), i + k = rows.length → x.1.coals.length ≤ i → x.1.touches.length ≤ i →
    (∀ y, rowsV i x (rows.drop i) = some y → Q (.exit 0) ⟨[(2, .bptr (H.length, 2) 0), (3, gdead), (4, gdead), (5, .pure (.slice (sp.map srow))), (6, .pure (.int .i64 m)), (7, .pure (.int .i64 y.2.1)), (8, .pure (.int .i64 y.2.2))], fF H.length y.1 :: H, 89⟩) →
    (∀ (y : Fire × Int × Int), rowsV i x (rows.drop i) = none → Q .ret ⟨[(2, .bptr (H.length, 2) 0), (3, .pure (.int .i64 (failV i x (rows.drop i)))), (4, .pure (.int .i64 3)), (5, .pure (.slice (sp.map srow))), (6, .pure (.int .i64 m)), (7, .pure (.int .i64 y.2.1)), (8, .pure (.int .i64 y.2.2))], (fF H.length y.1).ins 2 (.box [.nils, .nils]) :: H, 89⟩) →
    WPL KC needT 14 (lp Tryz.f14 0) [2, 5, 6, 7, 8, 26, 27, 28] [2, 3, 4, 5, 6, 7, 8] Q [(2, .bptr (H.length, 2) 0), (5, .pure (.slice (sp.map srow))), (6, .pure (.int .i64 m)), (7, .pure (.int .i64 x.2.1)), (8, .pure (.int .i64 x.2.2)), (26, .pure (.slice (rows.map srow))), (27, .pure (.int .i64 rows.length)), (28, .pure (.int .i64 i))] (fF H.length x.1 :: H) 89 := by
  intro k
  induction k with
  | zero =>
    intro i x hi hc ht h1 h2
    have hia : ¬ i < rows.length := by omega
    have e1 : rows.drop i = [] := List.drop_of_length_le (by omega)
    rw [e1] at h1
    have h1' := h1 x rfl
    apply WPL_step
    conv => arg 4; whnf
    simp [hia]
    exact h1'
  | succ k ih =>
    intro i x hi hc ht h1 h2
    have hia : i < rows.length := by omega
    have hw := w64 (x := (i : Int) + 1) (by omega) (by omega)
    have hd : rows.drop i = rows[i] :: rows.drop (i + 1) := List.drop_eq_getElem_cons hia
    have hsi := hsz rows[i] (List.getElem_mem hia)
    rw [hd] at h1 h2
    have hS : ∀ c G, 0 < List.length G → gcall KC (geval KC) 55 [.pure (.str rows[i]), .pure (.str [32])] c G = some (.pure (.slice ((splitL 32 rows[i]).map srow)), G) := fun c G hG => split_ok (by omega) hG
    obtain ⟨p, r, hp⟩ : ∃ p r, splitL 32 rows[i] = p :: r := by
      cases h : splitL 32 rows[i] with
      | nil => exact absurd h (splitL_ne _ _)
      | cons p r => exact ⟨p, r, rfl⟩
    have hsl := splitL_len 32 rows[i]
    have hsm := splitL_mem 32 rows[i]
    rw [hp] at hsl hsm hS
    have hF2 := fF_2 (L := H.length) (f := x.1)
    apply WPL_step
    conv => arg 4; whnf
    obtain ⟨f, e0, n0⟩ := x
    simp only at hc ht h1 h2 hF2 ⊢
    by_cases he : 0 < e0
    · have hv : rowsV i (f, e0, n0) (rows[i] :: rows.drop (i + 1)) = none := by
        simp only [rowsV, rowV]; rw [if_pos he]
      have h2' := h2 (f, e0, n0) hv
      have hfl : failV i (f, e0, n0) (rows[i] :: rows.drop (i + 1)) = (i : Int) + 1 := by
        simp only [failV, rowV]; rw [if_pos he]
      rw [hfl] at h2'
      simp [hia, srow, hS, he, hw, hF2]
      exact h2'
    · by_cases hend : p = endW
      · subst hend
        have hN := fun c => numbers_ok (c := c) (H := [] :: fF H.length f :: H) r 1 (by simp at hsl; omega) (fun w hw => by have := hsm w (List.mem_cons_of_mem _ hw); omega) (by simp)
        have htk : (r.map srow).take r.length = r.map srow := List.take_of_length_le (by simp)
        have hrv : rowV i (f, e0, n0) rows[i] = (match numsV r 1 with | some [n] => some (f, (i : Int) + 1, n) | _ => none) := by
          unfold rowV; rw [if_neg he, hp, if_pos (show (endW :: r).head? = some endW from rfl)]; rfl
        cases hA : numsV r 1 with
        | none =>
          rw [hA] at hrv hN
          have hv : rowsV i (f, e0, n0) (rows[i] :: rows.drop (i + 1)) = none := by
            simp only [rowsV, hrv]
          have h2' := h2 (f, e0, n0) hv
          have hfl : failV i (f, e0, n0) (rows[i] :: rows.drop (i + 1)) = (i : Int) + 1 := by simp only [failV, hrv]
          rw [hfl] at h2'
          simp only [numsG] at hN
          simp [hia, srow, hS, he, hw, hF2, endW, htk, hN]
          exact h2'
        | some ns =>
          have hlen : ns.length = 1 := by
            unfold numsV at hA
            split at hA
            · rename_i h1
              have := allNum_len hA
              omega
            · cases hA
          match ns, hlen with
          | [n], _ =>
            rw [hA] at hrv hN
            simp only at hrv
            simp only [numsG] at hN
            have ih' := ih (i + 1) (f, (i : Int) + 1, n) (by omega) (by simp only; omega) (by simp only; omega) (fun y hy => h1 y (by simp only [rowsV, hrv]; exact hy)) (fun y hy => by have q := h2 y (by simp only [rowsV, hrv]; exact hy); simp only [failV, hrv] at q; exact q)
            simp [hia, srow, hS, he, hw, hF2, endW, htk, hN, irow]
            simpa using ih'
      · have hT := fun c => take_ok (c := c) (H := H) f [] p r (by omega) (by omega) (by simp at hsl; omega) (fun w hw => by have := hsm w hw; omega)
        have hend' : (p == [101, 110, 100]) = false := by simpa [endW] using hend
        have hrv : rowV i (f, e0, n0) rows[i] = (match takeV f (p :: r) with | some f' => some (f', e0, n0) | none => none) := by
          unfold rowV; rw [if_neg he, hp, if_neg (show ¬ (p :: r).head? = some endW from fun h => hend (by simpa using h))]
        cases hA : takeV f (p :: r) with
        | none =>
          rw [hA] at hrv hT
          have hv : rowsV i (f, e0, n0) (rows[i] :: rows.drop (i + 1)) = none := by
            simp only [rowsV, hrv]
          have h2' := h2 (f, e0, n0) hv
          have hfl : failV i (f, e0, n0) (rows[i] :: rows.drop (i + 1)) = (i : Int) + 1 := by simp only [failV, hrv]
          rw [hfl] at h2'
          simp [srow] at hT
          simp [hia, srow, hS, he, hw, hF2, hend', hT]
          exact h2'
        | some f' =>
          rw [hA] at hrv hT
          simp only at hrv
          have hlen := takeV_len hA
          have ih' := ih (i + 1) (f', e0, n0) (by omega) (by simp only; omega) (by simp only; omega) (fun y hy => h1 y (by simp only [rowsV, hrv]; exact hy)) (fun y hy => by have q := h2 y (by simp only [rowsV, hrv]; exact hy); simp only [failV, hrv] at q; exact q)
          simp [srow] at hT
          simp [hia, srow, hS, he, hw, hF2, hend', hT]
          simpa using ih'

/-- What a text says. -/
noncomputable def readE (s : List UInt8) : Fire × Int × Int :=
  if 4000 < s.length then (⟨[], []⟩, 0, 5) else
  match rowsV 0 (⟨[], []⟩, 0, 0) ((splitL 10 s).take ((splitL 10 s).length - 1)) with
  | none => (⟨[], []⟩, failV 0 (⟨[], []⟩, 0, 0) ((splitL 10 s).take ((splitL 10 s).length - 1)), 3)
  | some y => if y.2.1 = 0 ∨ (splitL 10 s).getD ((splitL 10 s).length - 1) [] ≠ [] then (⟨[], []⟩, (splitL 10 s).length, 3) else if y.2.2 ≠ y.1.coals.length then (⟨[], []⟩, y.2.1, 12)
    else if checkF y.1.coals y.1.touches ≠ 0 then (⟨[], []⟩, 0, checkF y.1.coals y.1.touches) else (y.1, 0, 0)
def Fire.pv (f : Fire) : PV := .agg [.slice (f.coals.map Coal.row), .slice (f.touches.map Touch.row)]
noncomputable def readT (x : Fire × Int × Int) : PV := .tuple [x.1.pv, .int .i64 x.2.1, .int .i64 x.2.2]

theorem gcall_frz {K : Ctx} {rec : Rec} {f : FuncId} {args : List GV} (h1 : K.cln f = false) (h2 : K.bor f = false) (h3 : K.frz f = true) : gcall K rec f args c H = gcall0 K rec f (frzVals H args).1 c (frzVals H args).2 := by
  unfold gcall gcallN
  simp [h1, h2, h3]
theorem gcall0_canonQ {K : Ctx} {rec : Rec} {f : FuncId} {a b : List GV} (h : a.map canon = b.map canon) : gcall0 K rec f a c H = gcall0 K rec f b c H := by
  have hl : a.length = b.length := by have := congrArg List.length h; simpa using this
  unfold gcall0
  rw [h, hl]
def apQ (key es : Nat) (rows : List (List PV)) (fr : Fr) : Fr := if rows = [] then fr else fr.ins key (.arr es rows 0 true)
/-- The frame of a reader whose fire was told. -/
def fR (L : Nat) (f : Fire) : Fr := apQ 107 2 (f.touches.map Touch.row) (apQ 78 7 (f.coals.map Coal.row) [(2, .box [apS (L, 78) 7 (f.coals.map Coal.row), apS (L, 107) 2 (f.touches.map Touch.row)])])
def cV (rows : List (List PV)) : GV := if rows = [] then .nils else .pure (.slice rows)
section
variable {L : Nat} {f : Fire} {key es k : Nat} {rows : List (List PV)} {fr : Fr}
theorem apQ_get (h : k ≠ key) : (apQ key es rows fr).get k = fr.get k := by
  unfold apQ; split
  · rfl
  · exact Fr.get_ins_other _ h _
theorem apQ_self (h : rows ≠ []) : (apQ key es rows fr).get key = some (.arr es rows 0 true) := by
  unfold apQ; rw [if_neg h]; exact Fr.get_ins _ _ _
theorem fR_2 : (fR L f).get 2 = some (.box [apS (L, 78) 7 (f.coals.map Coal.row), apS (L, 107) 2 (f.touches.map Touch.row)]) := by
  unfold fR
  rw [apQ_get (by decide), apQ_get (by decide)]
  simp
theorem fR_78 (h : f.coals.map Coal.row ≠ []) : (fR L f).get 78 = some (.arr 7 (f.coals.map Coal.row) 0 true) := by
  unfold fR
  rw [apQ_get (by decide), apQ_self h]
theorem fR_107 (h : f.touches.map Touch.row ≠ []) : (fR L f).get 107 = some (.arr 2 (f.touches.map Touch.row) 0 true) := by
  unfold fR
  rw [apQ_self h]
theorem clean1_apQ {l l0 : Nat} {F : Fr} (hl : H.length = l) (h : l0 < l) (hF : rows ≠ [] → F.get key = some (.arr es rows 0 true)) : clean1 (F :: H) l0 (apS (l, key) es rows) = cV rows := by
  subst hl
  unfold apS cV
  by_cases hr : rows = []
  · subst hr; simp
  · have : ¬ H.length ≤ l0 := by omega
    simp [hr, this, hF hr]
theorem frz_fire : frzVals (fF H.length f :: H) [.agg [apS (H.length, 78) 7 (f.coals.map Coal.row), apS (H.length, 107) 2 (f.touches.map Touch.row)]] = ([mkAgg [cV (f.coals.map Coal.row), cV (f.touches.map Touch.row)]], fR H.length f :: H) := by
  have t1 : (f.coals.map Coal.row).take f.coals.length = f.coals.map Coal.row := List.take_of_length_le (by simp)
  have t2 : (f.touches.map Touch.row).take f.touches.length = f.touches.map Touch.row := List.take_of_length_le (by simp)
  unfold fF fR apF apQ apS cV
  by_cases h : f.coals.map Coal.row = []
  · by_cases h2 : f.touches.map Touch.row = []
    · simp [h, h2, frzVals, frzVal, frzCells, frzCell]
    · simp [h, h2, frzVals, frzVal, frzCells, frzCell, pureCell, t1, t2]
  · by_cases h2 : f.touches.map Touch.row = []
    · simp [h, h2, frzVals, frzVal, frzCells, frzCell, pureCell, t1, t2]
    · simp [h, h2, frzVals, frzVal, frzCells, frzCell, pureCell, t1, t2]
theorem canon_cV {a b : List (List PV)} : canon (mkAgg [cV a, cV b]) = .pure (.agg [.slice a, .slice b]) := by
  unfold cV
  by_cases h : a = [] <;> by_cases h2 : b = [] <;> simp [h, h2]
end
theorem check_frz (f : Fire) : gcall KC (geval KC) 48 [.agg [apS (H.length, 78) 7 (f.coals.map Coal.row), apS (H.length, 107) 2 (f.touches.map Touch.row)]] c (fF H.length f :: H) = some (.pure (.int .i64 (checkF f.coals f.touches)), fR H.length f :: H) := by
  rw [gcall_frz rfl rfl rfl, frz_fire]
  have h0 := check_ok (c := c) (H := fR H.length f :: H) f.coals f.touches (by simp)
  rw [gcall_frz rfl rfl rfl] at h0
  refine Eq.trans (gcall0_canonQ ?_) h0
  simp only [List.map_cons, List.map_nil, canon_cV]
  rfl
theorem Read_ok (s : List UInt8) (hH : 0 < H.length) (hs : s.length ≤ 9223372036854775807) : gcall KC (geval KC) 14 [.pure (.str s)] c H = some (.pure (readT (readE s)), H) := by
  refine WPv_eq (call_enter KC needT Tryz.func14 rfl rfl good14 rfl rfl rfl (by simp) hH ?_)
  by_cases h1 : 4000 < s.length
  · have hv : readE s = (⟨[], []⟩, 0, 5) := by unfold readE; rw [if_pos h1]
    have h1' : (4000 : Int) < s.length := by omega
    rw [hv]
    simp [h1, h1', readT, Fire.pv, gleave_free]
  · have h1' : ¬ (4000 : Int) < s.length := by omega
    have hS : ∀ c G, 0 < List.length G → gcall KC (geval KC) 55 [.pure (.str s), .pure (.str [10])] c G = some (.pure (.slice ((splitL 10 s).map srow)), G) := fun c G hG => split_ok (by omega) hG
    have hv : readE s = (match rowsV 0 (⟨[], []⟩, 0, 0) ((splitL 10 s).take ((splitL 10 s).length - 1)) with
      | none => (⟨[], []⟩, failV 0 (⟨[], []⟩, 0, 0) ((splitL 10 s).take ((splitL 10 s).length - 1)), 3)
      | some y => if y.2.1 = 0 ∨ (splitL 10 s).getD ((splitL 10 s).length - 1) [] ≠ [] then (⟨[], []⟩, (splitL 10 s).length, 3) else if y.2.2 ≠ y.1.coals.length then (⟨[], []⟩, y.2.1, 12)
        else if checkF y.1.coals y.1.touches ≠ 0 then (⟨[], []⟩, 0, checkF y.1.coals y.1.touches) else (y.1, 0, 0)) := by
      unfold readE; rw [if_neg h1]
    have hsl := splitL_len 10 s
    have hsm := splitL_mem 10 s
    have hne := splitL_ne 10 s
    rw [hv]
    clear hv
    generalize splitL 10 s = sp at *
    obtain ⟨n, hn⟩ : ∃ n, sp.length = n + 1 := ⟨sp.length - 1, by have := List.length_pos_iff.2 hne; omega⟩
    have hw := w64 (x := (n : Int)) (by omega) (by omega)
    have hw2 := w64 (x := (n : Int) + 1) (by omega) (by omega)
    rw [hn, Nat.add_sub_cancel]
    have hsr : ∀ x : List UInt8, (srow x).length = 1 := fun _ => rfl
    have hlt : (sp.take n).length = n := by rw [List.length_take]; omega
    have h0 := fun Q => rloop (H := H) (sp.take n) (by omega) (fun w hw => by have := hsm w (List.mem_of_mem_take hw); omega) (n : Int) sp Q n 0 (⟨[], []⟩, 0, 0) (by omega) (by simp) (by simp)
    rw [hlt] at h0
    have hF0 : fF H.length ⟨[], []⟩ = [(2, .box [.nils, .nils])] := rfl
    simp only [hF0, List.map_take] at h0
    have hmin : min n (n + 1) = n := by omega
    simp [h1, h1', hS, hn, hw, hsr, hmin]
    refine h0 _ (fun y hy => ?_) (fun y hy => ?_)
    · rw [List.drop_zero] at hy
      rw [hy]
      have hF2 := fF_2 (L := H.length) (f := y.1)
      have hm : n < sp.length := by omega
      have hget : sp[n]? = some sp[n] := List.getElem?_eq_getElem hm
      by_cases e1 : y.2.1 = 0
      · simp [e1, hF2, hw2, readT, Fire.pv, Fr.get_ins, gleave_free]
      · by_cases e2 : sp[n] = []
        · by_cases e3 : y.2.2 = y.1.coals.length
          · have hC := fun c => check_frz (c := c) (H := H) y.1
            have hR2 := fR_2 (L := H.length) (f := y.1)
            have k1 := fun F (h) => clean1_apQ (H := H) (key := 78) (es := 7) (rows := y.1.coals.map Coal.row) (l := H.length) (l0 := H.length - 1) (F := F) rfl (by omega) h
            have k2 := fun F (h) => clean1_apQ (H := H) (key := 107) (es := 2) (rows := y.1.touches.map Touch.row) (l := H.length) (l0 := H.length - 1) (F := F) rfl (by omega) h
            by_cases e4 : checkF y.1.coals y.1.touches = 0
            · have q1 := k1 ((fR H.length y.1).ins 2 (.box [apS (H.length, 78) 7 (y.1.coals.map Coal.row), apS (H.length, 107) 2 (y.1.touches.map Touch.row)])) (fun h => by rw [Fr.get_ins_other _ (by decide)]; exact fR_78 h)
              have q2 := k2 ((fR H.length y.1).ins 2 (.box [apS (H.length, 78) 7 (y.1.coals.map Coal.row), apS (H.length, 107) 2 (y.1.touches.map Touch.row)])) (fun h => by rw [Fr.get_ins_other _ (by decide)]; exact fR_107 h)
              simp [e1, e2, e3, hF2, hget, srow, hC, e4, hR2, Fr.get_ins, q1, q2, gleave_free]
              unfold cV readT Fire.pv
              by_cases h5 : y.1.coals.map Coal.row = [] <;> by_cases h6 : y.1.touches.map Touch.row = [] <;> simp [h5, h6]
            · have e4' : (checkF y.1.coals y.1.touches == 0) = false := by simpa using e4
              simp [e1, e2, e3, hF2, hget, srow, hC, e4, e4', hR2, readT, Fire.pv, Fr.get_ins, gleave_free, bne]
          · simp [e1, e2, e3, hF2, hget, srow, readT, Fire.pv, Fr.get_ins, gleave_free]
        · simp [e1, e2, hF2, hget, srow, hw2, readT, Fire.pv, Fr.get_ins, gleave_free]
    · rw [List.drop_zero] at hy
      rw [hy]
      have hF2 := fF_2 (L := H.length) (f := y.1)
      simp [hF2, readT, Fire.pv, Fr.get_ins, gleave_free]
end Go.Gh


/- Texts of fires: what is written is read. -/
namespace Go.Gh
set_option linter.unusedSimpArgs false
set_option linter.unusedVariables false
set_option maxRecDepth 100000

/-! ### parts and words -/
def joinL (c : UInt8) : List (List UInt8) → List UInt8
  | [] => []
  | [x] => x
  | x :: y :: r => x ++ c :: joinL c (y :: r)
theorem joinL_cons {c : UInt8} {x : List UInt8} {l : List (List UInt8)} (h : l ≠ []) : joinL c (x :: l) = x ++ c :: joinL c l := by
  cases l with
  | nil => exact absurd rfl h
  | cons y r => rfl
theorem join_split (c : UInt8) : ∀ l, joinL c (splitL c l) = l
  | [] => rfl
  | b :: r => by
    have ih := join_split c r
    rw [splitL]
    split
    · rename_i h
      subst h
      rw [joinL_cons (splitL_ne _ _), ih]
      rfl
    · have hne := splitL_ne c r
      split
      · rename_i x l hl
        rw [hl] at ih
        cases l with
        | nil => simp only [joinL] at ih ⊢; rw [ih]
        | cons y r2 => simp only [joinL] at ih ⊢; rw [List.cons_append, ih]
      · rename_i hl; exact absurd hl hne
theorem split_word {c : UInt8} : ∀ {w : List UInt8}, c ∉ w → splitL c w = [w]
  | [], _ => rfl
  | b :: w, h => by
    have hb : ¬ b = c := fun e => h (by rw [e]; exact List.mem_cons_self)
    rw [splitL, if_neg hb, split_word (w := w) fun e => h (List.mem_cons_of_mem _ e)]
theorem split_app {c : UInt8} : ∀ {w : List UInt8} (r : List UInt8), c ∉ w → splitL c (w ++ c :: r) = w :: splitL c r
  | [], r, _ => by rw [List.nil_append, splitL, if_pos rfl]
  | b :: w, r, h => by
    have hb : ¬ b = c := fun e => h (by rw [e]; exact List.mem_cons_self)
    rw [List.cons_append, splitL, if_neg hb, split_app r fun e => h (List.mem_cons_of_mem _ e)]
/-- A text of rows. -/
theorem split_rows {c : UInt8} : ∀ {rows : List (List UInt8)} , (∀ w ∈ rows, c ∉ w) → splitL c (rows.flatMap fun w => w ++ [c]) = rows ++ [[]]
  | [], _ => rfl
  | w :: r, h => by
    have ih := split_rows (rows := r) fun x hx => h x (List.mem_cons_of_mem _ hx)
    rw [List.flatMap_cons, List.append_assoc, List.singleton_append, split_app _ (h w List.mem_cons_self), ih]
    rfl
/-- A row of words. -/
theorem split_words {c : UInt8} : ∀ {ws : List (List UInt8)}, ws ≠ [] → (∀ w ∈ ws, c ∉ w) → splitL c (joinL c ws) = ws
  | [], h, _ => absurd rfl h
  | [w], _, h => split_word (h w List.mem_cons_self)
  | w :: y :: r, _, h => by
    rw [joinL_cons (by simp), split_app _ (h w List.mem_cons_self), split_words (by simp) fun x hx => h x (List.mem_cons_of_mem _ hx)]
/-- The text of which the parts are these rows and an empty one. -/
theorem join_rows {c : UInt8} : ∀ (rows : List (List UInt8)), joinL c (rows ++ [[]]) = rows.flatMap fun w => w ++ [c]
  | [] => rfl
  | w :: r => by
    rw [List.cons_append, joinL_cons (by simp), join_rows r, List.flatMap_cons, List.append_assoc]
    rfl

/-! ### numerals -/
theorem digs_mem : ∀ (f u : Nat), ∀ b ∈ digs f u, 48 ≤ b.toNat ∧ b.toNat ≤ 57
  | 0, u, b, h => by simp [digs] at h
  | f + 1, u, b, h => by
    rw [digs] at h
    split at h
    · rw [List.mem_singleton] at h
      subst h
      rw [UInt8.toNat_ofNat']
      omega
    · rcases List.mem_append.1 h with h | h
      · exact digs_mem f _ b h
      · rw [List.mem_singleton] at h
        subst h
        rw [UInt8.toNat_ofNat']
        omega
theorem itoa_mem {n : Int} (h0 : 0 ≤ n) : ∀ b ∈ itoaL n, 48 ≤ b.toNat ∧ b.toNat ≤ 57 := by
  intro b h
  unfold itoaL at h
  rw [if_neg (by omega)] at h
  exact digs_mem _ _ b h
theorem itoa_no {n : Int} (h0 : 0 ≤ n) {c : UInt8} (hc : c.toNat < 48) : c ∉ itoaL n := fun h => by
  have := itoa_mem h0 c h
  omega
theorem digs_short : ∀ (f u k : Nat), u < 10 ^ k → 1 ≤ k → (digs f u).length ≤ k
  | 0, u, k, h, _ => by simp [digs]
  | f + 1, u, k, h, hk => by
    rw [digs]
    split
    · simp; exact hk
    · rename_i h1
      have hk2 : 2 ≤ k := by
        rcases Nat.lt_or_ge k 2 with h2 | h2
        · have : k = 1 := by omega
          subst this
          omega
        · exact h2
      obtain ⟨j, rfl⟩ : ∃ j, k = j + 1 := ⟨k - 1, by omega⟩
      have := digs_short f (u / 10) j (by rw [Nat.pow_succ] at h; omega) (by omega)
      simp
      exact this
theorem itoa_short {n : Int} (h0 : 0 ≤ n) (h1 : n < 100000) : (itoaL n).length ≤ 5 := by
  unfold itoaL
  rw [if_neg (by omega)]
  exact digs_short _ _ 5 (by omega) (by omega)
theorem digs_ne : ∀ (f u : Nat), 0 < f → digs f u ≠ []
  | f + 1, u, _ => by
    rw [digs]
    split <;> simp
/-- Digits behind others. -/
theorem parse_app : ∀ (l : List UInt8) (acc u : Nat) (d : Nat), Lib.parseUint10 acc l = .ok u → u < 1000000000 → d < 10 → Lib.parseUint10 acc (l ++ [UInt8.ofNat (48 + d)]) = .ok (u * 10 + d)
  | [], acc, u, d, h, hu, hd => by
    simp only [Lib.parseUint10] at h
    injection h with h
    subst h
    have hb : (UInt8.ofNat (48 + d)).toNat = 48 + d := by rw [UInt8.toNat_ofNat']; omega
    rw [List.nil_append, Lib.parseUint10, hb, if_pos (by omega), if_neg (by omega), if_neg (by omega)]
    have : 48 + d - 48 = d := by omega
    rw [this, Lib.parseUint10]
  | c :: r, acc, u, d, h, hu, hd => by
    rw [Lib.parseUint10] at h
    rw [List.cons_append, Lib.parseUint10]
    split at h
    · rename_i h1
      rw [if_pos h1]
      split at h
      · cases h
      · rename_i h2
        rw [if_neg h2]
        split at h
        · cases h
        · rename_i h3
          rw [if_neg h3]
          exact parse_app r _ u d h hu hd
    · cases h
theorem parse_digs : ∀ (f u : Nat), u < 10 ^ f → u < 1000000000 → 0 < f → Lib.parseUint10 0 (digs f u) = .ok u
  | f + 1, u, h, hu, _ => by
    rw [digs]
    split
    · rename_i h1
      have := parse_app [] 0 0 u rfl (by omega) h1
      rw [List.nil_append] at this
      rw [this]
      congr 1
      omega
    · rename_i h1
      have hf : 0 < f := by
        rcases Nat.eq_zero_or_pos f with e | e
        · subst e; simp at h; omega
        · exact e
      have ih := parse_digs f (u / 10) (by rw [Nat.pow_succ] at h; omega) (by omega) hf
      rw [parse_app _ 0 (u / 10) (u % 10) ih (by omega) (by omega)]
      congr 1
      omega
theorem atoi_itoa {n : Int} (h0 : 0 ≤ n) (h1 : n < 1000000) : Lib.atoiAll (itoaL n) = .ok n := by
  have hm := itoa_mem h0
  unfold itoaL at hm ⊢
  rw [if_neg (by omega)] at hm ⊢
  have hp := parse_digs 20 n.toNat (by omega) (by omega) (by omega)
  have hne := digs_ne 20 n.toNat (by omega)
  cases hd : digs 20 n.toNat with
  | nil => exact absurd hd hne
  | cons b r =>
    rw [hd] at hp hm
    have hb := hm b List.mem_cons_self
    unfold Lib.atoiAll
    simp only
    rw [if_neg (by omega)]
    unfold Lib.parseMag
    rw [if_neg (by simp), hp]
    simp only
    rw [if_neg (by omega), if_neg (by omega), if_neg (by omega)]
    congr 1
    omega
theorem numV_itoa {n : Int} (h0 : 0 ≤ n) (h1 : n < 100000) : numV (itoaL n) = some n := by
  rw [numV_def, atoi_itoa h0 (by omega)]
  have := itoa_short h0 h1
  simp only
  rw [if_pos ⟨h0, by omega, trivial⟩]
theorem numV_of {w : List UInt8} {n : Int} (h : numV w = some n) : itoaL n = w ∧ 0 ≤ n := by
  rw [numV_def] at h
  split at h
  · split at h
    · rename_i h1
      simp only [Option.some.injEq] at h
      subst h
      exact ⟨h1.2.2, h1.1⟩
    · cases h
  · cases h
theorem allNum_itoa : ∀ {ns : List Int}, (∀ n ∈ ns, 0 ≤ n ∧ n < 100000) → allNum (ns.map itoaL) = some ns
  | [], _ => rfl
  | n :: r, h => by
    have h1 := h n List.mem_cons_self
    rw [List.map_cons, allNum, numV_itoa h1.1 h1.2]
    simp only
    rw [allNum_itoa fun m hm => h m (List.mem_cons_of_mem _ hm)]
theorem allNum_of : ∀ {ws : List (List UInt8)} {ns : List Int}, allNum ws = some ns → ws = ns.map itoaL
  | [], ns, h => by simp only [allNum, Option.some.injEq] at h; subst h; rfl
  | w :: r, ns, h => by
    rw [allNum] at h
    split at h
    · cases h
    · rename_i n hn
      split at h
      · cases h
      · rename_i l hl
        simp only [Option.some.injEq] at h
        subst h
        rw [List.map_cons, (numV_of hn).1, ← allNum_of hl]
/-- A word and numbers, as parts. -/
theorem join_nums (w : List UInt8) : ∀ ns : List Int, joinL 32 (w :: ns.map itoaL) = wordS w ns
  | [] => by simp [joinL, wordS, numsS]
  | n :: ns => by
    rw [List.map_cons, joinL_cons (by simp), join_nums (itoaL n) ns]
    simp [wordS, numsS]
end Go.Gh


/- The reference's numbers: digits one by one. -/
namespace Go.Gh
set_option linter.unusedSimpArgs false
set_option linter.unusedVariables false
set_option maxRecDepth 100000

def numD : Int → List UInt8 → Option Int
  | acc, [] => some acc
  | acc, b :: r => if b.toNat < 48 ∨ 57 < b.toNat then none else numD (10 * acc + ((b.toNat : Int) - 48)) r
def numR (w : List UInt8) : Option Int := if w.length < 1 ∨ 6 < w.length ∨ (w.head? = some 48 ∧ 1 < w.length) then none else numD 0 w
theorem numD_app : ∀ (a b : List UInt8) (acc : Int), numD acc (a ++ b) = (match numD acc a with | some v => numD v b | none => none)
  | [], b, acc => rfl
  | x :: a, b, acc => by
    rw [List.cons_append, numD, numD]
    split
    · rfl
    · exact numD_app a b _
theorem dig_toNat {d : Nat} (h : d < 10) : (UInt8.ofNat (48 + d)).toNat = 48 + d := by
  rw [UInt8.toNat_ofNat']; omega
theorem numD_digs : ∀ (f u : Nat), u < 10 ^ f → 0 < f → numD 0 (digs f u) = some (u : Int)
  | f + 1, u, h, _ => by
    rw [digs]
    split
    · rename_i h1
      rw [numD, dig_toNat h1, if_neg (by omega), numD]
      congr 1
      omega
    · rename_i h1
      have hf : 0 < f := by
        rcases Nat.eq_zero_or_pos f with e | e
        · subst e; simp at h; omega
        · exact e
      rw [numD_app, numD_digs f (u / 10) (by rw [Nat.pow_succ] at h; omega) hf]
      simp only
      rw [numD, dig_toNat (by omega), if_neg (by omega), numD]
      congr 1
      omega
theorem head_app {a b : List UInt8} (h : a ≠ []) : (a ++ b).head? = a.head? := by
  cases a with
  | nil => exact absurd rfl h
  | cons x r => rfl
theorem digs_head : ∀ (f u : Nat), u < 10 ^ f → 0 < f → (digs f u).head? = some 48 → u = 0
  | f + 1, u, h, _, hh => by
    rw [digs] at hh
    split at hh
    · rename_i h1
      simp only [List.head?_cons, Option.some.injEq] at hh
      have := congrArg UInt8.toNat hh
      rw [dig_toNat h1] at this
      have e : (48 : UInt8).toNat = 48 := rfl
      omega
    · rename_i h1
      have hf : 0 < f := by
        rcases Nat.eq_zero_or_pos f with e | e
        · subst e; simp at h; omega
        · exact e
      rw [head_app (digs_ne f _ hf)] at hh
      have := digs_head f (u / 10) (by rw [Nat.pow_succ] at h; omega) hf hh
      omega
theorem digs_len1 : ∀ (f : Nat), 0 < f → (digs f 0).length = 1
  | f + 1, _ => by rw [digs, if_pos (by omega)]; rfl
theorem numR_itoa {n : Int} (h0 : 0 ≤ n) (h1 : n ≤ 9223372036854775807) (hl : (itoaL n).length ≤ 6) : numR (itoaL n) = some n := by
  unfold itoaL at hl ⊢
  rw [if_neg (by omega)] at hl ⊢
  have hu : n.toNat < 10 ^ 20 := by omega
  have hne := digs_ne 20 n.toNat (by omega)
  unfold numR
  rw [if_neg, numD_digs 20 _ hu (by omega)]
  · congr 1; omega
  · intro h
    rcases h with h | h | ⟨h, h2⟩
    · have := List.length_pos_iff.2 hne; omega
    · omega
    · have := digs_head 20 n.toNat hu (by omega) h
      rw [this, digs_len1 20 (by omega)] at h2
      omega
/-- Digits without a nought ahead are the numeral of what they say. -/
theorem digs_numD : ∀ (k : Nat) (w : List UInt8) (n : Int), w.length = k → 0 < k → (w.head? = some 48 → k = 1) → numD 0 w = some n → (∀ f, k ≤ f → digs f n.toNat = w) ∧ 0 ≤ n ∧ n < 10 ^ k ∧ (k ≠ 1 → 1 ≤ n)
  | 0, w, n, hk, h0, _, _ => absurd h0 (by omega)
  | k + 1, w, n, hk, _, hh, hn => by
    have hne : w ≠ [] := fun e => by rw [e] at hk; simp at hk
    obtain ⟨a, b, rfl⟩ : ∃ a b, w = a ++ [b] := ⟨w.dropLast, w.getLast hne, (List.dropLast_concat_getLast hne).symm⟩
    have hla : a.length = k := by simpa using hk
    rw [numD_app] at hn
    split at hn
    · rename_i v hv
      rw [numD] at hn
      split at hn
      · cases hn
      · rename_i hb
        simp only [numD, Option.some.injEq] at hn
        obtain ⟨d, hd, hd2⟩ : ∃ d : Nat, b.toNat = 48 + d ∧ d < 10 := ⟨b.toNat - 48, by omega, by omega⟩
        have hbd : b = UInt8.ofNat (48 + d) := by
          apply UInt8.toNat_inj.1
          rw [dig_toNat hd2, hd]
        rcases Nat.eq_zero_or_pos k with e | e
        · subst e
          obtain rfl : a = [] := List.length_eq_zero_iff.1 hla
          simp only [numD, Option.some.injEq] at hv
          subst hv
          have hnd : n = d := by omega
          refine ⟨fun f hf => ?_, by omega, by omega, fun h => absurd rfl h⟩
          obtain ⟨f, rfl⟩ : ∃ j, f = j + 1 := ⟨f - 1, by omega⟩
          have : n.toNat = d := by omega
          rw [digs, this, if_pos hd2, hbd]
          rfl
        · have hane : a ≠ [] := fun e2 => by rw [e2] at hla; simp at hla; omega
          have hh2 : a.head? = some 48 → k = 1 := fun h => by
            have : (a ++ [b]).head? = some 48 := by rw [head_app hane]; exact h
            have := hh this
            omega
          obtain ⟨g1, g2, g3, g4⟩ := digs_numD k a v hla e hh2 hv
          have hv1 : 1 ≤ v := by
            by_cases hk1 : k = 1
            · rcases Int.lt_or_le v 1 with h | h
              · have hv0 : v = 0 := by omega
                have := g1 1 (by omega)
                rw [hv0] at this
                have hd0 : digs 1 (0 : Int).toNat = [48] := rfl
                rw [hd0] at this
                have hx : (a ++ [b]).head? = some 48 := by rw [← this]; rfl
                have := hh hx
                omega
              · exact h
            · exact g4 hk1
          have hnv : n = 10 * v + d := by omega
          refine ⟨fun f hf => ?_, by omega, by rw [Int.pow_succ]; omega, fun _ => by omega⟩
          obtain ⟨f, rfl⟩ : ∃ j, f = j + 1 := ⟨f - 1, by omega⟩
          have e1 : n.toNat / 10 = v.toNat := by omega
          have e2 : n.toNat % 10 = d := by omega
          rw [digs, if_neg (by omega), e1, e2, g1 f (by omega), hbd]
    · cases hn
theorem numR_eq (w : List UInt8) : numR w = numV w := by
  cases hv : numV w with
  | some n =>
    obtain ⟨h1, h2⟩ := numV_of hv
    rw [numV_def] at hv
    split at hv
    · rename_i m hm
      split at hv
      · rename_i h3
        simp only [Option.some.injEq] at hv
        subst hv
        have hr := atoi_rng hm
        rw [← h1] at h3 ⊢
        exact numR_itoa h2 hr.2 h3.2.1
      · cases hv
    · cases hv
  | none =>
    cases hr : numR w with
    | none => rfl
    | some n =>
      exfalso
      unfold numR at hr
      split at hr
      · cases hr
      · rename_i h
        obtain ⟨g1, g2, g3, g4⟩ := digs_numD w.length w n rfl (by omega) (fun hh => by
          rcases Nat.lt_or_ge 1 w.length with h2 | h2
          · exact absurd (.inr (.inr ⟨hh, h2⟩)) h
          · omega) hr
        have hn6 : n < 1000000 := by
          have : (10 : Int) ^ w.length ≤ 10 ^ 6 := by
            have hle : w.length ≤ 6 := by omega
            have := Nat.pow_le_pow_right (n := 10) (by omega) hle
            exact_mod_cast this
          omega
        have hw : itoaL n = w := by
          unfold itoaL
          rw [if_neg (by omega)]
          exact g1 20 (by omega)
        rw [numV_def, ← hw, atoi_itoa g2 hn6] at hv
        simp only at hv
        rw [if_pos ⟨g2, by rw [hw]; omega, trivial⟩] at hv
        cases hv
end Go.Gh

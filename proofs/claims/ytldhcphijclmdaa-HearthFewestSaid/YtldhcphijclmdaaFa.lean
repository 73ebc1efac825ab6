/- The kit's functions: comparisons. -/
import Derived.Test.YtldhcphijclmdaaGs
import Derived.Test.YtldhcphijclmdaaGw
namespace Go.Gh
open Go.Proofs
set_option linter.unusedSimpArgs false
set_option linter.unusedVariables false
set_option maxRecDepth 100000

/-! ### data -/
structure Span where
  lo : Int
  hi : Int
  deriving DecidableEq
structure Coal where
  katch : Span
  burn : Span
  heat : Span
  lit : Bool
  deriving DecidableEq
structure Touch where
  a : Int
  b : Int
  deriving DecidableEq
structure Fire where
  coals : List Coal
  touches : List Touch
  deriving DecidableEq
structure Kettle where
  water : Int
  warm : Span
  room : Int
  gain : Int
  lose : Int
  sing : Int
  boil : Int
  deriving DecidableEq
structure Pour where
  minute : Int
  ladles : Int
  warm : Int
  deriving DecidableEq
def Span.row (x : Span) : List PV := [.int .i64 x.lo, .int .i64 x.hi]
def Coal.row (c : Coal) : List PV := [.int .i64 c.katch.lo, .int .i64 c.katch.hi, .int .i64 c.burn.lo, .int .i64 c.burn.hi, .int .i64 c.heat.lo, .int .i64 c.heat.hi, .bool c.lit]
def Touch.row (t : Touch) : List PV := [.int .i64 t.a, .int .i64 t.b]
def Pour.row (p : Pour) : List PV := [.int .i64 p.minute, .int .i64 p.ladles, .int .i64 p.warm]
def irow (n : Int) : List PV := [.int .i64 n]
def Fire.row (f : Fire) : List PV := [.slice (f.coals.map Coal.row), .slice (f.touches.map Touch.row)]
def Kettle.row (k : Kettle) : List PV := [.int .i64 k.water, .int .i64 k.warm.lo, .int .i64 k.warm.hi, .int .i64 k.room, .int .i64 k.gain, .int .i64 k.lose, .int .i64 k.sing, .int .i64 k.boil]
@[simp] theorem Span.eta (x : Span) : (⟨x.lo, x.hi⟩ : Span) = x := rfl
theorem Span.eqv (x y : Span) : (x.lo == y.lo && x.hi == y.hi) = decide (x = y) := by
  cases x; cases y; rw [Bool.eq_iff_iff]; simp
theorem Touch.eqv (x y : Touch) : (x.a == y.a && x.b == y.b) = decide (x = y) := by
  cases x; cases y; rw [Bool.eq_iff_iff]; simp
theorem Pour.eqv (x y : Pour) : (x.minute == y.minute && (x.ladles == y.ladles && x.warm == y.warm)) = decide (x = y) := by
  cases x; cases y; rw [Bool.eq_iff_iff]; simp
theorem drop_eq {α : Type} {a b : List α} {i : Nat} (ha : i < a.length) (hb : i < b.length) : a.drop i = b.drop i ↔ a[i] = b[i] ∧ a.drop (i + 1) = b.drop (i + 1) := by
  rw [List.drop_eq_getElem_cons ha, List.drop_eq_getElem_cons hb, List.cons.injEq]

def kept (f : Nat) : Bool := ([15, 16, 20, 21, 22, 63, 79, 90] : List Nat).contains f

variable {keep : Nat → Bool} (hk : ∀ f, kept f = false → keep f = false) {c : Nat} {H : Heap}

/-! ### EqSpans, EqPours, Eq -/
theorem eqSpans_loop (a b : List Span) (hl : a.length = b.length) (hb : a.length < 4611686018427387904) (Q : GX → GSt → Prop) (hH : 0 < H.length) : ∀ k i : Nat, i + k = a.length →
    (a.drop i = b.drop i → Q (.exit 0) ⟨[(4, gdead)], H, 26⟩) → (a.drop i ≠ b.drop i → Q .ret ⟨[(4, .pure (.bool false))], H, 26⟩) →
    WPL (KC keep) needT 33 (lp Try.f33 0) [0, 1, 5] [4] Q [(0, .pure (.slice (a.map Span.row))), (1, .pure (.slice (b.map Span.row))), (5, .pure (.int .i64 i))] H 26 := by
  intro k
  induction k with
  | zero =>
    intro i hi h1 h2
    have e1 : a.drop i = b.drop i := by rw [List.drop_of_length_le (by omega), List.drop_of_length_le (by omega)]
    apply WPL_step
    conv => arg 4; whnf
    have : ¬ i < a.length := by omega
    simp [this, hH]
    exact h1 e1
  | succ k ih =>
    intro i hi h1 h2
    have hia : i < a.length := by omega
    have hib : i < b.length := by omega
    have hw := w64 (x := (i : Int) + 1) (by omega) (by omega)
    rw [drop_eq hia hib] at h1
    rw [ne_eq, drop_eq hia hib] at h2
    apply WPL_step
    conv => arg 4; whnf
    have ih' := ih (i + 1) (by omega)
    by_cases he : a[i] = b[i]
    · simp [hia, hib, hH, Span.row, he, hw]
      simp only [he, true_and, ne_eq] at h1 h2
      simpa using ih' h1 h2
    · have e2 := Span.eqv a[i] b[i]
      rw [decide_eq_false he] at e2
      simp [hia, hib, hH, Span.row, e2]
      exact h2 fun h => he h.1
include hk in
theorem eqSpans_ok (a b : List Span) (hH : 0 < H.length) (hb : a.length < 4611686018427387904) :
    gcall (KC keep) (geval (KC keep)) 33 [.pure (.slice (a.map Span.row)), .pure (.slice (b.map Span.row))] c H = some (.pure (.bool (decide (a = b))), H) := by
  refine WPv_eq (call_enter (KC keep) needT Try.func33 rfl rfl good33 rfl (by simp) hH ?_)
  by_cases hl : a.length = b.length
  · simp [hl]
    refine eqSpans_loop a b hl hb _ (by simp) a.length 0 (by omega) (fun h => ?_) (fun h => ?_)
    · simp at h
      simp [h, gleave_free, hk, kept]
    · simp at h
      simp [h, gleave_free, hk, kept]
  · have hne : a ≠ b := fun h => hl (by rw [h])
    have hl2 : ((a.length : Int) == b.length) = false := by simp; omega
    simp [hl, hl2, hne, gleave_free, hk, kept, bne]

end Go.Gh


/- The kit's functions: boxes of numbers. -/
namespace Go.Gh
open Go.Proofs
set_option linter.unusedSimpArgs false
set_option linter.unusedVariables false
set_option maxRecDepth 100000

variable {keep : Nat → Bool} (hk : ∀ f, kept f = false → keep f = false) {c : Nat} {H : Heap}

/-! ### numbers from a box -/
noncomputable def turnS : Int → Int := hid fun w => IntKind.u64.wrap (w + 11507291218515648293)
theorem turnS_def (w : Int) : turnS w = IntKind.u64.wrap (w + 11507291218515648293) := by rw [turnS, hid_eq]
def xors (x n : Int) : Int := bxor .u64 x (x.fdiv n)
noncomputable def turnV : Int → Int := hid fun w => xors (IntKind.u64.wrap (xors (IntKind.u64.wrap (xors (IntKind.u64.wrap (w + 11507291218515648293)) 4294967296 * 15485907386658061715)) 536870912 * 14029467366897019727)) 4294967296
theorem turnV_def (w : Int) : turnV w = xors (IntKind.u64.wrap (xors (IntKind.u64.wrap (xors (IntKind.u64.wrap (w + 11507291218515648293)) 4294967296 * 15485907386658061715)) 536870912 * 14029467366897019727)) 4294967296 := by rw [turnV, hid_eq]
theorem u64_rng (x : Int) : 0 ≤ IntKind.u64.wrap x ∧ IntKind.u64.wrap x ≤ 18446744073709551615 := by rw [IntKind.wrap_u64]; omega
theorem turnV_rng (w : Int) : 0 ≤ turnV w ∧ turnV w ≤ 18446744073709551615 := by rw [turnV_def]; exact u64_rng _
@[simp] theorem bits_u64 : IntKind.u64.bits = 64 := rfl
@[simp] theorem bits_i64 : IntKind.i64.bits = 64 := rfl

include hk in
theorem turn_ok {nm : Nm} (hB : isBox H nm) : gcall (KC keep) (geval (KC keep)) 65 [.bptr nm 0] c H = some (.pure (.int .u64 (turnV (wordAt H nm))), H.set nm (wbox (turnS (wordAt H nm)))) := by
  have hl := isBox_lt hB
  have hg := isBox_get hB
  refine WPv_eq (call_enter (KC keep) needT Try.func65 rfl rfl good65 rfl (by simp) (by omega) ?_)
  have hne : ¬ nm.1 = H.length := by omega
  have h1 : (IntKind.u64.wrap 32) = 32 := rfl
  generalize wordAt H nm = w at *
  unfold wbox at *
  simp [hne, hl, hg, gleave_free, hk, kept, turnV_def, turnS_def, xors]

noncomputable def upR : Int → Int → Int × Int := hid fun w n =>
  if n < 2 then (0, w) else (IntKind.i64.wrap (((turnV w).fdiv 2).tmod (IntKind.u64.wrap n)), turnS w)
theorem upR_def (w : Int) (n : Int) : upR w n =
  (if n < 2 then (0, w) else (IntKind.i64.wrap (((turnV w).fdiv 2).tmod (IntKind.u64.wrap n)), turnS w)) := by rw [upR, hid_eq]
theorem upR_rng (w n : Int) (h : n ≤ 9223372036854775807) : 0 ≤ (upR w n).1 ∧ ((upR w n).1 < n ∨ (upR w n).1 = 0) := by
  rw [upR_def]
  split
  · simp
  · have h1 := turnV_rng w
    have h2 : IntKind.u64.wrap n = n := by rw [IntKind.wrap_u64]; omega
    have h3 : 0 ≤ (turnV w).fdiv 2 := Int.fdiv_nonneg h1.1 (by omega)
    rw [h2, Int.tmod_eq_emod_of_nonneg h3]
    have h4 := Int.emod_nonneg ((turnV w).fdiv 2) (show n ≠ 0 by omega)
    have h5 := Int.emod_lt_of_pos ((turnV w).fdiv 2) (show 0 < n by omega)
    rw [w64 (by omega) (by omega)]
    exact ⟨h4, .inl h5⟩
include hk in
theorem up_ok {nm : Nm} {n : Int} (hB : isBox H nm) (hn : n ≤ 9223372036854775807) : gcall (KC keep) (geval (KC keep)) 19 [.bptr nm 0, .pure (.int .i64 n)] c H = some (.pure (.int .i64 (upR (wordAt H nm) n).1), H.set nm (wbox (upR (wordAt H nm) n).2)) := by
  have hl := isBox_lt hB
  have hs := isBox_set hB
  refine WPv_eq (call_enter (KC keep) needT Try.func19 rfl rfl good19 rfl (by simp) (by omega) ?_)
  have hne : ¬ nm.1 = H.length := by omega
  by_cases h : n < 2
  · simp [h, upR_def, hs, gleave_free, hk, kept]
  · have h2 : IntKind.u64.wrap n = n := by rw [IntKind.wrap_u64]; omega
    have h3 : ¬ n = 0 := by omega
    have h4 : ¬ IntKind.u64.wrap n = 0 := by rw [h2]; exact h3
    simp [h, upR_def, turn_ok hk (isBox_up hB), wordAt_up hl, Heap.set_up hl, gleave_free, hk, kept, h4]

noncomputable def anyR : Int → Int → Int → Int × Int := hid fun w lo hi =>
  let r := upR w (IntKind.i64.wrap (IntKind.i64.wrap (hi - lo) + 1))
  (IntKind.i64.wrap (lo + r.1), r.2)
theorem anyR_def (w : Int) (lo : Int) (hi : Int) : anyR w lo hi =
  (let r := upR w (IntKind.i64.wrap (IntKind.i64.wrap (hi - lo) + 1))
  (IntKind.i64.wrap (lo + r.1), r.2)) := by rw [anyR, hid_eq]
theorem i64_rng (x : Int) : -9223372036854775808 ≤ IntKind.i64.wrap x ∧ IntKind.i64.wrap x ≤ 9223372036854775807 := by rw [IntKind.wrap_i64]; omega
theorem anyR_rng (w lo hi : Int) (h0 : -4611686018427387903 ≤ lo) (h1 : hi ≤ 4611686018427387903) (h : lo ≤ hi) : lo ≤ (anyR w lo hi).1 ∧ (anyR w lo hi).1 ≤ hi := by
  rw [anyR_def]
  rw [w64 (x := hi - lo) (by omega) (by omega), w64 (x := hi - lo + 1) (by omega) (by omega)]
  have := upR_rng w (hi - lo + 1) (by omega)
  simp only
  rw [w64 (by omega) (by omega)]
  omega
/-- A span that is turned: the lower number. -/
theorem anyR_turned (w lo hi : Int) (h0 : -4611686018427387904 ≤ lo) (h1 : -4611686018427387904 ≤ hi) (h2 : lo ≤ 4611686018427387904) (h : hi < lo) : (anyR w lo hi) = (lo, w) := by
  rw [anyR_def, upR_def]
  rw [w64 (x := hi - lo) (by omega) (by omega), w64 (x := hi - lo + 1) (by omega) (by omega)]
  rw [if_pos (by omega)]
  simp only
  rw [w64 (by omega) (by omega)]
  simp
include hk in
theorem any_ok {nm : Nm} {lo hi : Int} (hB : isBox H nm) : gcall (KC keep) (geval (KC keep)) 43 [.bptr nm 0, .pure (.int .i64 lo), .pure (.int .i64 hi)] c H = some (.pure (.int .i64 (anyR (wordAt H nm) lo hi).1), H.set nm (wbox (anyR (wordAt H nm) lo hi).2)) := by
  have hl := isBox_lt hB
  refine WPv_eq (call_enter (KC keep) needT Try.func43 rfl rfl good43 rfl (by simp) (by omega) ?_)
  have hr := (i64_rng (IntKind.i64.wrap (hi - lo) + 1)).2
  simp [anyR_def, up_ok hk (isBox_up hB) hr, wordAt_up hl, Heap.set_up hl, gleave_free, hk, kept]

noncomputable def oneR : Int → Int → Bool × Int := hid fun w n =>
  ((upR w n).1 == 0, (upR w n).2)
theorem oneR_def (w : Int) (n : Int) : oneR w n =
  (((upR w n).1 == 0, (upR w n).2)) := by rw [oneR, hid_eq]
include hk in
theorem one_ok {nm : Nm} {n : Int} (hB : isBox H nm) (hn : n ≤ 9223372036854775807) : gcall (KC keep) (geval (KC keep)) 18 [.bptr nm 0, .pure (.int .i64 n)] c H = some (.pure (.bool (oneR (wordAt H nm) n).1), H.set nm (wbox (oneR (wordAt H nm) n).2)) := by
  have hl := isBox_lt hB
  refine WPv_eq (call_enter (KC keep) needT Try.func18 rfl rfl good18 rfl (by simp) (by omega) ?_)
  simp [oneR_def, up_ok hk (isBox_up hB) hn, wordAt_up hl, Heap.set_up hl, gleave_free, hk, kept]

noncomputable def pickR : Int → List Int → Int × Int := hid fun w l =>
  if l.length = 0 then (0, w) else (l.getD (upR w l.length).1.toNat 0, (upR w l.length).2)
theorem pickR_def (w : Int) (l : List Int) : pickR w l =
  (if l.length = 0 then (0, w) else (l.getD (upR w l.length).1.toNat 0, (upR w l.length).2)) := by rw [pickR, hid_eq]
include hk in
theorem pick_ok {nm : Nm} {l : List Int} (hB : isBox H nm) (hn : l.length < 4611686018427387904) : gcall (KC keep) (geval (KC keep)) 66 [.bptr nm 0, .pure (.slice (l.map irow))] c H = some (.pure (.int .i64 (pickR (wordAt H nm) l).1), H.set nm (wbox (pickR (wordAt H nm) l).2)) := by
  have hl := isBox_lt hB
  have hs := isBox_set hB
  refine WPv_eq (call_enter (KC keep) needT Try.func66 rfl rfl good66 rfl (by simp) (by omega) ?_)
  by_cases h : l.length = 0
  · obtain rfl : l = [] := List.length_eq_zero_iff.1 h
    simp [pickR_def, hs, gleave_free, hk, kept]
  · have h2 : ((l.length : Int) == 0) = false := beq_eq_false_iff_ne.2 (by omega)
    have hr := upR_rng (wordAt H nm) l.length (by omega)
    have h3 : ¬ (upR (wordAt H nm) l.length).1 < 0 := by omega
    have h4 : (upR (wordAt H nm) l.length).1.toNat < l.length := by have := hr; clear hl hs hB; omega
    simp [h, h2, pickR_def, up_ok hk (isBox_up hB) (show (l.length : Int) ≤ 9223372036854775807 by omega), wordAt_up hl, Heap.set_up hl, gleave_free, hk, kept, h3, h4, irow]

/-! ### spans from a box -/
noncomputable def spanR : Int → Int → Int → Span × Int := hid fun w lo hi =>
  let n := anyR w lo hi
  let q := upR n.2 3
  if q.1 = 0 then (⟨n.1, n.1⟩, q.2)
  else if q.1 = 1 then (let r := anyR q.2 n.1 (if IntKind.i64.wrap (n.1 + 2) < hi then IntKind.i64.wrap (n.1 + 2) else hi); (⟨n.1, r.1⟩, r.2))
  else (let r := anyR q.2 n.1 hi; (⟨n.1, r.1⟩, r.2))
theorem spanR_def (w : Int) (lo : Int) (hi : Int) : spanR w lo hi =
  (let n := anyR w lo hi
  let q := upR n.2 3
  if q.1 = 0 then (⟨n.1, n.1⟩, q.2)
  else if q.1 = 1 then (let r := anyR q.2 n.1 (if IntKind.i64.wrap (n.1 + 2) < hi then IntKind.i64.wrap (n.1 + 2) else hi); (⟨n.1, r.1⟩, r.2))
  else (let r := anyR q.2 n.1 hi; (⟨n.1, r.1⟩, r.2))) := by rw [spanR, hid_eq]
include hk in
theorem span_ok {nm : Nm} {lo hi : Int} (hB : isBox H nm) : gcall (KC keep) (geval (KC keep)) 42 [.bptr nm 0, .pure (.int .i64 lo), .pure (.int .i64 hi)] c H =
    some (.pure (.agg (spanR (wordAt H nm) lo hi).1.row), H.set nm (wbox (spanR (wordAt H nm) lo hi).2)) := by
  have hl := isBox_lt hB
  have hne : ¬ nm.1 = H.length := by omega
  refine WPv_eq (call_enter (KC keep) needT Try.func42 rfl rfl good42 rfl (by simp) (by omega) ?_)
  have hB' : ∀ fr, isBox (fr :: H) nm := fun fr => isBox_up hB
  have hB2 : ∀ fr w, isBox (fr :: H.set nm (wbox w)) nm := fun fr w => isBox_up (isBox_set' hl)
  have hl2 : ∀ w, nm.1 < (H.set nm (wbox w)).length := fun w => by simpa using hl
  by_cases h1 : (upR (anyR (wordAt H nm) lo hi).2 3).1 = 0
  · simp [any_ok hk, up_ok hk, hB', hB2, hne, hl, hl2, wordAt_up, Heap.set_up, h1, spanR_def, Span.row, gleave_free, hk, kept]
  · have e1 : ((upR (anyR (wordAt H nm) lo hi).2 3).1 == 0) = false := by simpa using h1
    by_cases h2 : (upR (anyR (wordAt H nm) lo hi).2 3).1 = 1
    · simp [any_ok hk, up_ok hk, hB', hB2, hne, hl, hl2, wordAt_up, Heap.set_up, h1, h2, spanR_def, Span.row, gleave_free, hk, kept]
    · have e2 : ((upR (anyR (wordAt H nm) lo hi).2 3).1 == 1) = false := by simpa using h2
      simp [any_ok hk, up_ok hk, hB', hB2, hne, hl, hl2, wordAt_up, Heap.set_up, h1, h2, e1, e2, spanR_def, Span.row, gleave_free, hk, kept]

noncomputable def inR : Int → Span → Int × Int := hid fun w x =>
  let q := upR w 4
  if q.1 = 0 then (x.lo, q.2) else if q.1 = 1 then (x.hi, q.2) else anyR q.2 x.lo x.hi
theorem inR_def (w : Int) (x : Span) : inR w x =
  (let q := upR w 4
  if q.1 = 0 then (x.lo, q.2) else if q.1 = 1 then (x.hi, q.2) else anyR q.2 x.lo x.hi) := by rw [inR, hid_eq]
include hk in
theorem in_ok {nm : Nm} {x1 x2 : Int} (hB : isBox H nm) : gcall (KC keep) (geval (KC keep)) 47 [.bptr nm 0, .pure (.agg [.int .i64 x1, .int .i64 x2])] c H =
    some (.pure (.int .i64 (inR (wordAt H nm) ⟨x1, x2⟩).1), H.set nm (wbox (inR (wordAt H nm) ⟨x1, x2⟩).2)) := by
  have hl := isBox_lt hB
  have hne : ¬ nm.1 = H.length := by omega
  refine WPv_eq (call_enter (KC keep) needT Try.func47 rfl rfl good47 rfl (by simp) (by omega) ?_)
  have hB' : ∀ fr, isBox (fr :: H) nm := fun fr => isBox_up hB
  have hB2 : ∀ fr w, isBox (fr :: H.set nm (wbox w)) nm := fun fr w => isBox_up (isBox_set' hl)
  have hl2 : ∀ w, nm.1 < (H.set nm (wbox w)).length := fun w => by simpa using hl
  by_cases h1 : (upR (wordAt H nm) 4).1 = 0
  · simp [any_ok hk, up_ok hk, hB', hB2, hne, hl, hl2, wordAt_up, Heap.set_up, h1, inR_def, Span.row, gleave_free, hk, kept]
  · have e1 : ((upR (wordAt H nm) 4).1 == 0) = false := by simpa using h1
    by_cases h2 : (upR (wordAt H nm) 4).1 = 1
    · simp [any_ok hk, up_ok hk, hB', hB2, hne, hl, hl2, wordAt_up, Heap.set_up, h1, h2, inR_def, Span.row, gleave_free, hk, kept]
    · have e2 : ((upR (wordAt H nm) 4).1 == 1) = false := by simpa using h2
      simp [any_ok hk, up_ok hk, hB', hB2, hne, hl, hl2, wordAt_up, Heap.set_up, h1, h2, e1, e2, inR_def, Span.row, gleave_free, hk, kept]

noncomputable def partR : Int → Span → Span × Int := hid fun w x =>
  let m := inR w x
  let n := inR m.2 x
  (⟨if n.1 < m.1 then n.1 else m.1, if m.1 < n.1 then n.1 else m.1⟩, n.2)
theorem partR_def (w : Int) (x : Span) : partR w x =
  (let m := inR w x
  let n := inR m.2 x
  (⟨if n.1 < m.1 then n.1 else m.1, if m.1 < n.1 then n.1 else m.1⟩, n.2)) := by rw [partR, hid_eq]
include hk in
theorem part_ok {nm : Nm} {x1 x2 : Int} (hB : isBox H nm) : gcall (KC keep) (geval (KC keep)) 51 [.bptr nm 0, .pure (.agg [.int .i64 x1, .int .i64 x2])] c H =
    some (.pure (.agg (partR (wordAt H nm) ⟨x1, x2⟩).1.row), H.set nm (wbox (partR (wordAt H nm) ⟨x1, x2⟩).2)) := by
  have hl := isBox_lt hB
  have hne : ¬ nm.1 = H.length := by omega
  refine WPv_eq (call_enter (KC keep) needT Try.func51 rfl rfl good51 rfl (by simp) (by omega) ?_)
  have hB' : ∀ fr, isBox (fr :: H) nm := fun fr => isBox_up hB
  have hB2 : ∀ fr w, isBox (fr :: H.set nm (wbox w)) nm := fun fr w => isBox_up (isBox_set' hl)
  have hl2 : ∀ w, nm.1 < (H.set nm (wbox w)).length := fun w => by simpa using hl
  simp [in_ok hk, hB', hB2, hne, hl, hl2, wordAt_up, Heap.set_up, partR_def, Span.row, gleave_free, hk, kept]
end Go.Gh


/- Fires that may be: Check, in the program and in the reference. -/
namespace Go.Gh
open Go.Proofs
set_option linter.unusedSimpArgs false
set_option linter.unusedVariables false
set_option maxRecDepth 100000

variable {keep : Nat → Bool} (hk : ∀ f, kept f = false → keep f = false) {c : Nat} {H : Heap}

/-! ### within, fault -/
def inB (x lo hi : Int) : Bool := decide (lo ≤ x) && decide (x ≤ hi)
include hk in
theorem within_ok {x lo hi : Int} (hH : 0 < H.length) : gcall (KC keep) (geval (KC keep)) 71 [.pure (.int .i64 x), .pure (.int .i64 lo), .pure (.int .i64 hi)] c H = some (.pure (.bool (inB x lo hi)), H) := by
  refine WPv_eq (call_enter (KC keep) needT Try.func71 rfl rfl good71 rfl (by simp) hH ?_)
  by_cases h : lo ≤ x
  · simp [h, inB, gleave_free, hk, kept]
  · simp [h, inB, gleave_free, hk, kept]
include hk in
theorem withinR_ok {x lo hi : Int} (hH : 0 < H.length) : gcall (KC keep) (geval (KC keep)) 73 [.pure (.int .i64 x), .pure (.int .i64 lo), .pure (.int .i64 hi)] c H = some (.pure (.bool (inB x lo hi)), H) := by
  refine WPv_eq (call_enter (KC keep) needT Try.func73 rfl rfl good73 rfl (by simp) hH ?_)
  by_cases h : lo ≤ x
  · simp [h, inB, gleave_free, hk, kept]
  · simp [h, inB, gleave_free, hk, kept]

noncomputable def faultF : Int → Int → Int → Int → Int := hid fun a b lo hi => if inB a lo hi = true ∧ inB b lo hi = true then (if b < a then 11 else 0) else 2
theorem faultF_def (a b lo hi : Int) : faultF a b lo hi = if inB a lo hi = true ∧ inB b lo hi = true then (if b < a then 11 else 0) else 2 := by rw [faultF, hid_eq]
include hk in
theorem fault_ok {a b lo hi : Int} (hH : 0 < H.length) : gcall (KC keep) (geval (KC keep)) 77 [.pure (.agg [.int .i64 a, .int .i64 b]), .pure (.int .i64 lo), .pure (.int .i64 hi)] c H = some (.pure (.int .i64 (faultF a b lo hi)), H) := by
  refine WPv_eq (call_enter (KC keep) needT Try.func77 rfl rfl good77 rfl (by simp) hH ?_)
  rw [faultF_def]
  by_cases h1 : inB a lo hi = true
  · by_cases h2 : inB b lo hi = true
    · by_cases h3 : b < a
      · simp [within_ok hk, h1, h2, h3, gleave_free, hk, kept]
      · simp [within_ok hk, h1, h2, h3, gleave_free, hk, kept]
    · simp [within_ok hk, h1, h2, gleave_free, hk, kept]
  · simp [within_ok hk, h1, gleave_free, hk, kept]
include hk in
theorem faultR_ok {a b lo hi : Int} (hH : 0 < H.length) : gcall (KC keep) (geval (KC keep)) 76 [.pure (.agg [.int .i64 a, .int .i64 b]), .pure (.int .i64 lo), .pure (.int .i64 hi)] c H = some (.pure (.int .i64 (faultF a b lo hi)), H) := by
  refine WPv_eq (call_enter (KC keep) needT Try.func76 rfl rfl good76 rfl (by simp) hH ?_)
  rw [faultF_def]
  by_cases h1 : inB a lo hi = true
  · by_cases h2 : inB b lo hi = true
    · by_cases h3 : b < a
      · simp [withinR_ok hk, h1, h2, h3, gleave_free, hk, kept]
      · simp [withinR_ok hk, h1, h2, h3, gleave_free, hk, kept]
    · simp [withinR_ok hk, h1, h2, gleave_free, hk, kept]
  · simp [withinR_ok hk, h1, gleave_free, hk, kept]

/-! ### coals -/
noncomputable def coalF : Coal → Int := hid fun x =>
  if faultF x.katch.lo x.katch.hi 1 300 ≠ 0 then faultF x.katch.lo x.katch.hi 1 300 else if faultF x.burn.lo x.burn.hi 1 300 ≠ 0 then faultF x.burn.lo x.burn.hi 1 300 else faultF x.heat.lo x.heat.hi 0 1000
theorem coalF_def (x : Coal) : coalF x = if faultF x.katch.lo x.katch.hi 1 300 ≠ 0 then faultF x.katch.lo x.katch.hi 1 300 else if faultF x.burn.lo x.burn.hi 1 300 ≠ 0 then faultF x.burn.lo x.burn.hi 1 300 else faultF x.heat.lo x.heat.hi 0 1000 := by
  rw [coalF, hid_eq]
@[simp] theorem Coal.eta (x : Coal) : (⟨⟨x.katch.lo, x.katch.hi⟩, ⟨x.burn.lo, x.burn.hi⟩, ⟨x.heat.lo, x.heat.hi⟩, x.lit⟩ : Coal) = x := rfl
@[simp] theorem Coal.eta' (x : Coal) : (⟨x.katch, x.burn, x.heat, x.lit⟩ : Coal) = x := rfl
include hk in
theorem coal_ok {a1 a2 b1 b2 h1 h2 : Int} {l : Bool} (hH : 0 < H.length) : gcall (KC keep) (geval (KC keep)) 75 [.pure (.agg [.int .i64 a1, .int .i64 a2, .int .i64 b1, .int .i64 b2, .int .i64 h1, .int .i64 h2, .bool l])] c H =
    some (.pure (.int .i64 (coalF ⟨⟨a1, a2⟩, ⟨b1, b2⟩, ⟨h1, h2⟩, l⟩)), H) := by
  refine WPv_eq (call_enter (KC keep) needT Try.func75 rfl rfl good75 rfl (by simp) hH ?_)
  rw [coalF_def]
  by_cases e1 : faultF a1 a2 1 300 = 0
  · by_cases e2 : faultF b1 b2 1 300 = 0
    · simp [fault_ok hk, e1, e2, gleave_free, hk, kept]
    · have e2' : (faultF b1 b2 1 300 != 0) = true := by simpa using e2
      simp [fault_ok hk, e1, e2, e2', gleave_free, hk, kept]
  · have e1' : (faultF a1 a2 1 300 != 0) = true := by simpa using e1
    simp [fault_ok hk, e1, e1', gleave_free, hk, kept]

/-! ### the first error of a list -/
def firstErr {α : Type} (g : α → Int) : List α → Int
  | [] => 0
  | x :: r => if g x ≠ 0 then g x else firstErr g r
theorem firstErr_drop {α : Type} (g : α → Int) (l : List α) (i : Nat) (h : i < l.length) : firstErr g (l.drop i) = if g l[i] ≠ 0 then g l[i] else firstErr g (l.drop (i + 1)) := by
  rw [List.drop_eq_getElem_cons h]; rfl
noncomputable def touchF : Int → Touch → Int := hid fun n t => if inB t.a 0 (n - 1) = true ∧ inB t.b 0 (n - 1) = true then (if t.a = t.b then 12 else 0) else 7
theorem touchF_def (n : Int) (t : Touch) : touchF n t = if inB t.a 0 (n - 1) = true ∧ inB t.b 0 (n - 1) = true then (if t.a = t.b then 12 else 0) else 7 := by rw [touchF, hid_eq]
noncomputable def checkF : List Coal → List Touch → Int := hid fun cs ts =>
  if 12 < cs.length then 8 else if firstErr coalF cs ≠ 0 then firstErr coalF cs else if 40 < ts.length then 8 else firstErr (touchF cs.length) ts
theorem checkF_def (cs : List Coal) (ts : List Touch) : checkF cs ts =
  if 12 < cs.length then 8 else if firstErr coalF cs ≠ 0 then firstErr coalF cs else if 40 < ts.length then 8 else firstErr (touchF cs.length) ts := by rw [checkF, hid_eq]

include hk in
theorem check_loop1 (cs : List Coal) (hn : cs.length ≤ 12) (nm : Nm) (Q : GX → GSt → Prop) (hH : 0 < H.length) (hnm : nm.1 ≤ H.length - 1) : ∀ k i : Nat, i + k = cs.length →
    (firstErr coalF (cs.drop i) = 0 → Q (.exit 0) ⟨[(1, .bptr nm 0), (2, gdead)], H, 59⟩) → (firstErr coalF (cs.drop i) ≠ 0 → Q .ret ⟨[(1, .bptr nm 0), (2, .pure (.int .i64 (firstErr coalF (cs.drop i))))], H, 59⟩) →
    WPL (KC keep) needT 27 (lp Try.f27 0) [1, 14, 15, 16] [1, 2] Q [(1, .bptr nm 0), (14, .pure (.slice (cs.map Coal.row))), (15, .pure (.int .i64 cs.length)), (16, .pure (.int .i64 i))] H 59 := by
  intro k
  have hnm2 : nm.1 ≤ H.length - 1 := hnm
  induction k with
  | zero =>
    intro i hi h1 h2
    have e1 : cs.drop i = [] := List.drop_of_length_le (by omega)
    rw [e1] at h1
    apply WPL_step
    conv => arg 4; whnf
    have : ¬ i < cs.length := by omega
    simp [this, hH, hnm2]
    exact h1 rfl
  | succ k ih =>
    intro i hi h1 h2
    have hia : i < cs.length := by omega
    have hw := w64 (x := (i : Int) + 1) (by omega) (by omega)
    rw [firstErr_drop coalF cs i hia] at h1 h2
    apply WPL_step
    conv => arg 4; whnf
    have ih' := ih (i + 1) (by omega)
    by_cases he : coalF cs[i] = 0
    · simp [hia, hH, Coal.row, coal_ok hk, he, hw, hnm2]
      simp only [he, ne_eq, not_true_eq_false, if_false] at h1 h2
      simpa using ih' h1 h2
    · have he' : (coalF cs[i] != 0) = true := by simpa using he
      simp [hia, hH, Coal.row, coal_ok hk, he, he', hnm2]
      simp only [he, ne_eq, not_false_eq_true, if_true] at h1 h2
      exact h2 trivial
include hk in
theorem check_loop2 (cs : List Coal) (ts : List Touch) (hn : ts.length ≤ 40) (n : Int) (nm : Nm) (Q : GX → GSt → Prop) (hH : 0 < H.length) (hnm2 : nm.1 ≤ H.length - 1) : ∀ k i : Nat, i + k = ts.length →
    (firstErr (touchF n) (ts.drop i) = 0 → Q (.exit 2) ⟨[(2, gdead)], H, 59⟩) → (firstErr (touchF n) (ts.drop i) ≠ 0 → Q .ret ⟨[(2, .pure (.int .i64 (firstErr (touchF n) (ts.drop i))))], H, 59⟩) →
    WPL (KC keep) needT 27 (lp Try.f27 1) [6, 35, 36, 37] [2] Q [(6, .pure (.int .i64 (n - 1))), (35, .pure (.slice (ts.map Touch.row))), (36, .pure (.int .i64 ts.length)), (37, .pure (.int .i64 i))] H 59 := by
  intro k
  induction k with
  | zero =>
    intro i hi h1 h2
    have e1 : ts.drop i = [] := List.drop_of_length_le (by omega)
    rw [e1] at h1
    apply WPL_step
    conv => arg 4; whnf
    have : ¬ i < ts.length := by omega
    simp [this, hH, hnm2]
    exact h1 rfl
  | succ k ih =>
    intro i hi h1 h2
    have hia : i < ts.length := by omega
    have hw := w64 (x := (i : Int) + 1) (by omega) (by omega)
    rw [firstErr_drop (touchF n) ts i hia] at h1 h2
    have ih' := ih (i + 1) (by omega)
    have ht := touchF_def n ts[i]
    apply WPL_step
    conv => arg 4; whnf
    by_cases b1 : inB ts[i].a 0 (n - 1) = true
    · by_cases b2 : inB ts[i].b 0 (n - 1) = true
      · by_cases b3 : ts[i].a = ts[i].b
        · rw [b3] at b1
          simp only [b1, b2, b3, and_self, if_true] at ht
          simp [hia, hH, Touch.row, within_ok hk, b1, b2, b3, hnm2]
          simp [ht] at h1 h2
          exact h2
        · have b3' : (ts[i].a == ts[i].b) = false := by simpa using b3
          simp only [b1, b2, b3, and_self, if_true, if_false] at ht
          simp [hia, hH, Touch.row, within_ok hk, b1, b2, b3', hnm2, hw]
          simp [ht] at h1 h2
          simpa using ih' h1 h2
      · simp only [b1, b2, and_false, if_false] at ht
        simp [hia, hH, Touch.row, within_ok hk, b1, b2, hnm2]
        simp [ht] at h1 h2
        exact h2
    · simp only [b1, false_and, if_false] at ht
      simp [hia, hH, Touch.row, within_ok hk, b1, hnm2]
      simp [ht] at h1 h2
      exact h2
include hk in
theorem check_ok (cs : List Coal) (ts : List Touch) (hH : 0 < H.length) : gcall (KC keep) (geval (KC keep)) 27 [.pure (.agg [.slice (cs.map Coal.row), .slice (ts.map Touch.row)])] c H = some (.pure (.int .i64 (checkF cs ts)), H) := by
  refine WPv_eq (call_enter (KC keep) needT Try.func27 rfl rfl good27 rfl (by simp) hH ?_)
  rw [checkF_def]
  by_cases h1 : 12 < cs.length
  · have h1' : (12 : Int) < cs.length := by omega
    simp [h1, h1', gleave_free, hk, kept]
  · have h1' : ¬ (12 : Int) < cs.length := by omega
    simp [h1, h1']
    refine check_loop1 hk cs (by omega) _ _ (by simp) (by simp) cs.length 0 (by omega) (fun h => ?_) (fun h => ?_)
    · simp at h
      by_cases h2 : 40 < ts.length
      · have h2' : (40 : Int) < ts.length := by omega
        simp [h, h2, h2', gleave_free, hk, kept]
      · have h2' : ¬ (40 : Int) < ts.length := by omega
        have hw := w64 (x := (cs.length : Int) - 1) (by omega) (by omega)
        simp [h, h2, h2', hw]
        refine check_loop2 hk cs ts (by omega) _ (H.length, 1) _ (by simp) (by simp) ts.length 0 (by omega) (fun h3 => ?_) (fun h3 => ?_)
        · simp at h3
          simp [h3, gleave_free, hk, kept]
        · simp at h3
          simp [gleave_free, hk, kept]
    · simp at h
      simp [h, gleave_free, hk, kept]

/-! ### the reference's -/
include hk in
theorem checkR_loop1 (cs : List Coal) (ts : List Touch) (hn : cs.length ≤ 12) (Q : GX → GSt → Prop) (hH : 0 < H.length) : ∀ k i : Nat, i + k = cs.length →
    (firstErr coalF (cs.drop i) = 0 → Q (.exit 0) ⟨[(1, .bptr (H.length, 1) 0), (2, gdead)], [(1, .box [.pure (.slice (cs.map Coal.row)), .pure (.slice (ts.map Touch.row))])] :: H, 83⟩) →
    (firstErr coalF (cs.drop i) ≠ 0 → Q .ret ⟨[(1, .bptr (H.length, 1) 0), (2, .pure (.int .i64 (firstErr coalF (cs.drop i))))], [(1, .box [.pure (.slice (cs.map Coal.row)), .pure (.slice (ts.map Touch.row))])] :: H, 83⟩) →
    WPL (KC keep) needT 28 (lp Try.f28 0) [1, 3] [1, 2] Q [(1, .bptr (H.length, 1) 0), (3, .pure (.int .i64 i))] ([(1, .box [.pure (.slice (cs.map Coal.row)), .pure (.slice (ts.map Touch.row))])] :: H) 83 := by
  intro k
  induction k with
  | zero =>
    intro i hi h1 h2
    have e1 : cs.drop i = [] := List.drop_of_length_le (by omega)
    rw [e1] at h1
    apply WPL_step
    conv => arg 4; whnf
    have : ¬ i < cs.length := by omega
    simp [this, hH]
    exact h1 rfl
  | succ k ih =>
    intro i hi h1 h2
    have hia : i < cs.length := by omega
    have hw := w64 (x := (i : Int) + 1) (by omega) (by omega)
    rw [firstErr_drop coalF cs i hia] at h1 h2
    have ih' := ih (i + 1) (by omega)
    have hc := coalF_def cs[i]
    apply WPL_step
    conv => arg 4; whnf
    by_cases e1 : faultF cs[i].katch.lo cs[i].katch.hi 1 300 = 0
    · by_cases e2 : faultF cs[i].burn.lo cs[i].burn.hi 1 300 = 0
      · by_cases e3 : faultF cs[i].heat.lo cs[i].heat.hi 0 1000 = 0
        · simp [e1, e2, e3] at hc
          simp [hia, hH, Coal.row, faultR_ok hk, e1, e2, e3, hw]
          simp [hc] at h1 h2
          simpa using ih' h1 h2
        · have e3' : (faultF cs[i].heat.lo cs[i].heat.hi 0 1000 != 0) = true := by simpa using e3
          simp [e1, e2, e3] at hc
          simp [hia, hH, Coal.row, faultR_ok hk, e1, e2, e3, e3']
          simp [hc, e3] at h1 h2
          exact h2
      · have e2' : (faultF cs[i].burn.lo cs[i].burn.hi 1 300 != 0) = true := by simpa using e2
        simp [e1, e2] at hc
        simp [hia, hH, Coal.row, faultR_ok hk, e1, e2, e2']
        simp [hc, e2] at h1 h2
        exact h2
    · have e1' : (faultF cs[i].katch.lo cs[i].katch.hi 1 300 != 0) = true := by simpa using e1
      simp [e1] at hc
      simp [hia, hH, Coal.row, faultR_ok hk, e1, e1']
      simp [hc, e1] at h1 h2
      exact h2
include hk in
theorem checkR_loop2 (cs : List Coal) (ts : List Touch) (hn : ts.length ≤ 40) (hc : cs.length ≤ 12) (Q : GX → GSt → Prop) (hH : 0 < H.length) : ∀ k i : Nat, i + k = ts.length →
    (firstErr (touchF cs.length) (ts.drop i) = 0 → Q (.exit 2) ⟨[(2, gdead)], [(1, .box [.pure (.slice (cs.map Coal.row)), .pure (.slice (ts.map Touch.row))])] :: H, 83⟩) →
    (firstErr (touchF cs.length) (ts.drop i) ≠ 0 → Q .ret ⟨[(2, .pure (.int .i64 (firstErr (touchF cs.length) (ts.drop i))))], [(1, .box [.pure (.slice (cs.map Coal.row)), .pure (.slice (ts.map Touch.row))])] :: H, 83⟩) →
    WPL (KC keep) needT 28 (lp Try.f28 1) [1, 8] [2] Q [(1, .bptr (H.length, 1) 0), (8, .pure (.int .i64 i))] ([(1, .box [.pure (.slice (cs.map Coal.row)), .pure (.slice (ts.map Touch.row))])] :: H) 83 := by
  intro k
  induction k with
  | zero =>
    intro i hi h1 h2
    have e1 : ts.drop i = [] := List.drop_of_length_le (by omega)
    rw [e1] at h1
    apply WPL_step
    conv => arg 4; whnf
    have : ¬ i < ts.length := by omega
    simp [this, hH]
    exact h1 rfl
  | succ k ih =>
    intro i hi h1 h2
    have hia : i < ts.length := by omega
    have hw := w64 (x := (i : Int) + 1) (by omega) (by omega)
    have hw2 := w64 (x := (cs.length : Int) - 1) (by omega) (by omega)
    rw [firstErr_drop (touchF cs.length) ts i hia] at h1 h2
    have ih' := ih (i + 1) (by omega)
    have ht := touchF_def cs.length ts[i]
    apply WPL_step
    conv => arg 4; whnf
    by_cases b1 : inB ts[i].a 0 (cs.length - 1) = true
    · by_cases b2 : inB ts[i].b 0 (cs.length - 1) = true
      · by_cases b3 : ts[i].a = ts[i].b
        · rw [b3] at b1
          simp only [b1, b2, b3, and_self, if_true] at ht
          simp [hia, hH, Touch.row, withinR_ok hk, b1, b2, b3, hw2]
          simp [ht] at h1 h2
          exact h2
        · have b3' : (ts[i].a == ts[i].b) = false := by simpa using b3
          simp only [b1, b2, b3, and_self, if_true, if_false] at ht
          simp [hia, hH, Touch.row, withinR_ok hk, b1, b2, b3', hw, hw2]
          simp [ht] at h1 h2
          simpa using ih' h1 h2
      · simp only [b1, b2, and_false, if_false] at ht
        simp [hia, hH, Touch.row, withinR_ok hk, b1, b2, hw2]
        simp [ht] at h1 h2
        exact h2
    · simp only [b1, false_and, if_false] at ht
      simp [hia, hH, Touch.row, withinR_ok hk, b1, hw2]
      simp [ht] at h1 h2
      exact h2
include hk in
theorem checkR_ok (cs : List Coal) (ts : List Touch) (hH : 0 < H.length) : gcall (KC keep) (geval (KC keep)) 28 [.pure (.agg [.slice (cs.map Coal.row), .slice (ts.map Touch.row)])] c H = some (.pure (.int .i64 (checkF cs ts)), H) := by
  refine WPv_eq (call_enter (KC keep) needT Try.func28 rfl rfl good28 rfl (by simp) hH ?_)
  rw [checkF_def]
  by_cases h1 : 12 < cs.length
  · have h1' : (12 : Int) < cs.length := by omega
    simp [h1, h1', gleave_free, hk, kept]
  · have h1' : ¬ (12 : Int) < cs.length := by omega
    simp [h1, h1']
    refine checkR_loop1 hk cs ts (by omega) _ hH cs.length 0 (by omega) (fun h => ?_) (fun h => ?_)
    · simp at h
      by_cases h2 : 40 < ts.length
      · have h2' : (40 : Int) < ts.length := by omega
        simp [h, h2, h2', gleave_free, hk, kept]
      · have h2' : ¬ (40 : Int) < ts.length := by omega
        simp [h, h2, h2']
        refine checkR_loop2 hk cs ts (by omega) (by omega) _ hH ts.length 0 (by omega) (fun h3 => ?_) (fun h3 => ?_)
        · simp at h3
          simp [h3, gleave_free, hk, kept]
        · simp at h3
          simp [gleave_free, hk, kept]
    · simp at h
      simp [h, gleave_free, hk, kept]
end Go.Gh


/- Kettles and pours that may be; verdicts; what is asked: program and reference. -/
namespace Go.Gh
open Go.Proofs
set_option linter.unusedSimpArgs false
set_option linter.unusedVariables false
set_option maxRecDepth 100000
set_option maxHeartbeats 2000000

variable {keep : Nat → Bool} (hk : ∀ f, kept f = false → keep f = false) {c : Nat} {H : Heap}

/-! ### kettles -/
noncomputable def kettleF : Kettle → Int := hid fun k =>
  if inB k.water 1 50 = true then (if faultF k.warm.lo k.warm.hi 0 1000 ≠ 0 then faultF k.warm.lo k.warm.hi 0 1000
    else if inB k.room 0 1000 = true ∧ inB k.sing 0 1000 = true ∧ inB k.boil 0 1000 = true ∧ inB k.gain 0 1000 = true ∧ inB k.lose 0 1000000 = true then (if k.boil < k.sing then 11 else 0) else 2) else 2
theorem kettleF_def (k : Kettle) : kettleF k =
  if inB k.water 1 50 = true then (if faultF k.warm.lo k.warm.hi 0 1000 ≠ 0 then faultF k.warm.lo k.warm.hi 0 1000
    else if inB k.room 0 1000 = true ∧ inB k.sing 0 1000 = true ∧ inB k.boil 0 1000 = true ∧ inB k.gain 0 1000 = true ∧ inB k.lose 0 1000000 = true then (if k.boil < k.sing then 11 else 0) else 2) else 2 := by rw [kettleF, hid_eq]
section
variable {w wl wh ro ga lo si bo : Int}
include hk in
theorem kettle_ok (hH : 0 < H.length) : gcall (KC keep) (geval (KC keep)) 29 [.pure (.agg [.int .i64 w, .int .i64 wl, .int .i64 wh, .int .i64 ro, .int .i64 ga, .int .i64 lo, .int .i64 si, .int .i64 bo])] c H =
    some (.pure (.int .i64 (kettleF ⟨w, ⟨wl, wh⟩, ro, ga, lo, si, bo⟩)), H) := by
  refine WPv_eq (call_enter (KC keep) needT Try.func29 rfl rfl good29 rfl (by simp) hH ?_)
  rw [kettleF_def]
  by_cases a1 : inB w 1 50 = true
  · by_cases a2 : faultF wl wh 0 1000 = 0
    · by_cases a3 : inB ro 0 1000 = true
      · by_cases a4 : inB si 0 1000 = true
        · by_cases a5 : inB bo 0 1000 = true
          · by_cases a6 : inB ga 0 1000 = true
            · by_cases a7 : inB lo 0 1000000 = true
              · by_cases a8 : bo < si
                · simp [within_ok hk, fault_ok hk, a1, a2, a3, a4, a5, a6, a7, a8, gleave_free, hk, kept]
                · simp [within_ok hk, fault_ok hk, a1, a2, a3, a4, a5, a6, a7, a8, gleave_free, hk, kept]
              · simp [within_ok hk, fault_ok hk, a1, a2, a3, a4, a5, a6, a7, gleave_free, hk, kept]
            · simp [within_ok hk, fault_ok hk, a1, a2, a3, a4, a5, a6, gleave_free, hk, kept]
          · simp [within_ok hk, fault_ok hk, a1, a2, a3, a4, a5, gleave_free, hk, kept]
        · simp [within_ok hk, fault_ok hk, a1, a2, a3, a4, gleave_free, hk, kept]
      · simp [within_ok hk, fault_ok hk, a1, a2, a3, gleave_free, hk, kept]
    · have a2' : (faultF wl wh 0 1000 != 0) = true := by simpa using a2
      simp [within_ok hk, fault_ok hk, a1, a2, a2', gleave_free, hk, kept]
  · simp [within_ok hk, fault_ok hk, a1, gleave_free, hk, kept]
include hk in
theorem kettleR_ok (hH : 0 < H.length) : gcall (KC keep) (geval (KC keep)) 30 [.pure (.agg [.int .i64 w, .int .i64 wl, .int .i64 wh, .int .i64 ro, .int .i64 ga, .int .i64 lo, .int .i64 si, .int .i64 bo])] c H =
    some (.pure (.int .i64 (kettleF ⟨w, ⟨wl, wh⟩, ro, ga, lo, si, bo⟩)), H) := by
  refine WPv_eq (call_enter (KC keep) needT Try.func30 rfl rfl good30 rfl (by simp) hH ?_)
  rw [kettleF_def]
  by_cases a1 : inB w 1 50 = true
  · by_cases a2 : faultF wl wh 0 1000 = 0
    · by_cases a3 : inB ro 0 1000 = true
      · by_cases a4 : inB si 0 1000 = true
        · by_cases a5 : inB bo 0 1000 = true
          · by_cases a6 : inB ga 0 1000 = true
            · by_cases a7 : inB lo 0 1000000 = true
              · by_cases a8 : bo < si
                · simp [withinR_ok hk, faultR_ok hk, a1, a2, a3, a4, a5, a6, a7, a8, gleave_free, hk, kept]
                · simp [withinR_ok hk, faultR_ok hk, a1, a2, a3, a4, a5, a6, a7, a8, gleave_free, hk, kept]
              · simp [withinR_ok hk, faultR_ok hk, a1, a2, a3, a4, a5, a6, a7, gleave_free, hk, kept]
            · simp [withinR_ok hk, faultR_ok hk, a1, a2, a3, a4, a5, a6, gleave_free, hk, kept]
          · simp [withinR_ok hk, faultR_ok hk, a1, a2, a3, a4, a5, gleave_free, hk, kept]
        · simp [withinR_ok hk, faultR_ok hk, a1, a2, a3, a4, gleave_free, hk, kept]
      · simp [withinR_ok hk, faultR_ok hk, a1, a2, a3, gleave_free, hk, kept]
    · have a2' : (faultF wl wh 0 1000 != 0) = true := by simpa using a2
      simp [withinR_ok hk, faultR_ok hk, a1, a2, a2', gleave_free, hk, kept]
  · simp [withinR_ok hk, faultR_ok hk, a1, gleave_free, hk, kept]
end

/-! ### pours -/
def poursErr : Int → Int → List Pour → Int
  | _, _, [] => 0
  | w, m, p :: r =>
    if inB p.minute 0 300 = true ∧ inB p.ladles (-50) 50 = true ∧ p.ladles ≠ 0 ∧ inB p.warm 0 1000 = true then
      (if p.minute < m then 11 else if inB (IntKind.i64.wrap (w + p.ladles)) 1 50 = true then poursErr (IntKind.i64.wrap (w + p.ladles)) p.minute r else 14)
    else 2
theorem poursErr_drop (w m : Int) (l : List Pour) (i : Nat) (h : i < l.length) : poursErr w m (l.drop i) =
    if inB l[i].minute 0 300 = true ∧ inB l[i].ladles (-50) 50 = true ∧ l[i].ladles ≠ 0 ∧ inB l[i].warm 0 1000 = true then
      (if l[i].minute < m then 11 else if inB (IntKind.i64.wrap (w + l[i].ladles)) 1 50 = true then poursErr (IntKind.i64.wrap (w + l[i].ladles)) l[i].minute (l.drop (i + 1)) else 14)
    else 2 := by
  rw [List.drop_eq_getElem_cons h]; rfl
noncomputable def poursF : Kettle → List Pour → Int := hid fun k l => if kettleF k ≠ 0 then kettleF k else if 20 < l.length then 8 else poursErr k.water 0 l
theorem poursF_def (k : Kettle) (l : List Pour) : poursF k l = if kettleF k ≠ 0 then kettleF k else if 20 < l.length then 8 else poursErr k.water 0 l := by rw [poursF, hid_eq]

include hk in
theorem pours_loop (l : List Pour) (hn : l.length ≤ 20) (nm : Nm) (Q : GX → GSt → Prop) (hH : 0 < H.length) : ∀ (k i : Nat) (w m : Int), i + k = l.length →
    (poursErr w m (l.drop i) = 0 → Q (.exit 0) ⟨[(4, gdead)], H, 58⟩) → (poursErr w m (l.drop i) ≠ 0 → Q .ret ⟨[(4, .pure (.int .i64 (poursErr w m (l.drop i))))], H, 58⟩) →
    WPL (KC keep) needT 31 (lp Try.f31 0) [6, 7, 20, 21, 22] [4] Q [(6, .pure (.int .i64 w)), (7, .pure (.int .i64 m)), (20, .pure (.slice (l.map Pour.row))), (21, .pure (.int .i64 l.length)), (22, .pure (.int .i64 i))] H 58 := by
  intro k
  induction k with
  | zero =>
    intro i w m hi h1 h2
    have e1 : l.drop i = [] := List.drop_of_length_le (by omega)
    rw [e1] at h1
    apply WPL_step
    conv => arg 4; whnf
    have : ¬ i < l.length := by omega
    simp [this, hH]
    exact h1 rfl
  | succ k ih =>
    intro i w m hi h1 h2
    have hia : i < l.length := by omega
    have hw := w64 (x := (i : Int) + 1) (by omega) (by omega)
    rw [poursErr_drop w m l i hia] at h1 h2
    have ih' := ih (i + 1) (IntKind.i64.wrap (w + l[i].ladles)) l[i].minute (by omega)
    apply WPL_step
    conv => arg 4; whnf
    by_cases a1 : inB l[i].minute 0 300 = true
    · by_cases a2 : inB l[i].ladles (-50) 50 = true
      · by_cases a3 : l[i].ladles = 0
        · simp [a1, a2, a3] at h1 h2
          rw [a3] at a2
          simp [hia, hH, Pour.row, within_ok hk, a1, a2, a3]
          exact h2
        · have a3' : (l[i].ladles == 0) = false := by simpa using a3
          by_cases a4 : inB l[i].warm 0 1000 = true
          · by_cases a5 : l[i].minute < m
            · simp [a1, a2, a3, a4, a5] at h1 h2
              simp [hia, hH, Pour.row, within_ok hk, a1, a2, a3', a4, a5]
              exact h2
            · by_cases a6 : inB (IntKind.i64.wrap (w + l[i].ladles)) 1 50 = true
              · simp [a1, a2, a3, a4, a5, a6] at h1 h2
                simp [hia, hH, Pour.row, within_ok hk, a1, a2, a3', a4, a5, a6, hw]
                simpa using ih' h1 h2
              · simp [a1, a2, a3, a4, a5, a6] at h1 h2
                simp [hia, hH, Pour.row, within_ok hk, a1, a2, a3', a4, a5, a6]
                exact h2
          · simp [a1, a2, a3, a4] at h1 h2
            simp [hia, hH, Pour.row, within_ok hk, a1, a2, a3', a4]
            exact h2
      · simp [a1, a2] at h1 h2
        simp [hia, hH, Pour.row, within_ok hk, a1, a2]
        exact h2
    · simp [a1] at h1 h2
      simp [hia, hH, Pour.row, within_ok hk, a1]
      exact h2
section
variable {w wl wh ro ga lo si bo : Int}
include hk in
theorem pours_ok (l : List Pour) (hH : 0 < H.length) : gcall (KC keep) (geval (KC keep)) 31 [.pure (.agg [.int .i64 w, .int .i64 wl, .int .i64 wh, .int .i64 ro, .int .i64 ga, .int .i64 lo, .int .i64 si, .int .i64 bo]), .pure (.slice (l.map Pour.row))] c H =
    some (.pure (.int .i64 (poursF ⟨w, ⟨wl, wh⟩, ro, ga, lo, si, bo⟩ l)), H) := by
  refine WPv_eq (call_enter (KC keep) needT Try.func31 rfl rfl good31 rfl (by simp) hH ?_)
  rw [poursF_def]
  by_cases h1 : kettleF ⟨w, ⟨wl, wh⟩, ro, ga, lo, si, bo⟩ = 0
  · by_cases h2 : 20 < l.length
    · have h2' : (20 : Int) < l.length := by omega
      simp [kettle_ok hk, h1, h2, h2', gleave_free, hk, kept]
    · have h2' : ¬ (20 : Int) < l.length := by omega
      simp [kettle_ok hk, h1, h2, h2']
      refine pours_loop hk l (by omega) (H.length, 1) _ (by simp) l.length 0 _ _ (by omega) (fun h3 => ?_) (fun h3 => ?_)
      · simp at h3
        simp [h3, gleave_free, hk, kept]
      · simp at h3
        simp [gleave_free, hk, kept]
  · have h1' : (kettleF ⟨w, ⟨wl, wh⟩, ro, ga, lo, si, bo⟩ != 0) = true := by simpa using h1
    simp [kettle_ok hk, h1, h1', gleave_free, hk, kept]
end

include hk in
theorem poursR_loop (l : List Pour) (hn : l.length ≤ 20) (Q : GX → GSt → Prop) (hH : 0 < H.length) : ∀ (k i : Nat) (w m : Int), i + k = l.length → (i = 0 → m = 0) → (∀ h : i - 1 < l.length, 0 < i → m = l[i - 1].minute) →
    (poursErr w m (l.drop i) = 0 → Q (.exit 0) ⟨[(4, gdead)], H, 70⟩) → (poursErr w m (l.drop i) ≠ 0 → Q .ret ⟨[(4, .pure (.int .i64 (poursErr w m (l.drop i))))], H, 70⟩) →
    WPL (KC keep) needT 32 (lp Try.f32 0) [1, 6, 7] [4] Q [(1, .pure (.slice (l.map Pour.row))), (6, .pure (.int .i64 w)), (7, .pure (.int .i64 i))] H 70 := by
  intro k
  induction k with
  | zero =>
    intro i w m hi hm0 hm h1 h2
    have e1 : l.drop i = [] := List.drop_of_length_le (by omega)
    rw [e1] at h1
    apply WPL_step
    conv => arg 4; whnf
    have : ¬ i < l.length := by omega
    simp [this, hH]
    exact h1 rfl
  | succ k ih =>
    intro i w m hi hm0 hm h1 h2
    have hia : i < l.length := by omega
    have hw := w64 (x := (i : Int) + 1) (by omega) (by omega)
    rw [poursErr_drop w m l i hia] at h1 h2
    have ih' := ih (i + 1) (IntKind.i64.wrap (w + l[i].ladles)) l[i].minute (by omega) (by omega) (fun h _ => by simp)
    apply WPL_step
    conv => arg 4; whnf
    by_cases a1 : inB l[i].minute 0 300 = true
    · by_cases a2 : inB l[i].ladles (-50) 50 = true
      · by_cases a3 : l[i].ladles = 0
        · simp [a1, a2, a3] at h1 h2
          rw [a3] at a2
          simp [hia, hH, Pour.row, withinR_ok hk, a1, a2, a3]
          exact h2
        · have a3' : (l[i].ladles == 0) = false := by simpa using a3
          by_cases a4 : inB l[i].warm 0 1000 = true
          · by_cases i0 : i = 0
            · subst i0
              obtain rfl := hm0 rfl
              have a5 : ¬ l[0].minute < 0 := by simp [inB] at a1; omega
              by_cases a6 : inB (IntKind.i64.wrap (w + l[0].ladles)) 1 50 = true
              · simp [a1, a2, a3, a4, a5, a6] at h1 h2
                simp [hia, hH, Pour.row, withinR_ok hk, a1, a2, a3', a4, a6]
                simp at ih'
                exact ih' h1 h2
              · simp [a1, a2, a3, a4, a5, a6] at h1 h2
                simp [hia, hH, Pour.row, withinR_ok hk, a1, a2, a3', a4, a6]
                exact h2
            · have hp : (0 : Int) < i := by omega
              have hpn : 0 < i := by omega
              have hp' : ¬ ((i : Int) - 1 < 0) := by omega
              have hw3 := w64 (x := (i : Int) - 1) (by omega) (by omega)
              have hn' : ((i : Int) - 1).toNat = i - 1 := by omega
              have hi1 : i - 1 < l.length := by omega
              obtain rfl := hm hi1 (by omega)
              by_cases a5 : l[i].minute < l[i - 1].minute
              · simp [a1, a2, a3, a4, a5] at h1 h2
                simp [hia, hH, Pour.row, withinR_ok hk, a1, a2, a3', a4, a5, i0, hpn, hp, hp', hw3, hn', hi1]
                exact h2
              · by_cases a6 : inB (IntKind.i64.wrap (w + l[i].ladles)) 1 50 = true
                · simp [a1, a2, a3, a4, a5, a6] at h1 h2
                  simp [hia, hH, Pour.row, withinR_ok hk, a1, a2, a3', a4, a5, a6, hw, i0, hpn, hp, hp', hw3, hn', hi1]
                  simpa using ih' h1 h2
                · simp [a1, a2, a3, a4, a5, a6] at h1 h2
                  simp [hia, hH, Pour.row, withinR_ok hk, a1, a2, a3', a4, a5, a6, i0, hpn, hp, hp', hw3, hn', hi1]
                  exact h2
          · simp [a1, a2, a3, a4] at h1 h2
            simp [hia, hH, Pour.row, withinR_ok hk, a1, a2, a3', a4]
            exact h2
      · simp [a1, a2] at h1 h2
        simp [hia, hH, Pour.row, withinR_ok hk, a1, a2]
        exact h2
    · simp [a1] at h1 h2
      simp [hia, hH, Pour.row, withinR_ok hk, a1]
      exact h2
section
variable {w wl wh ro ga lo si bo : Int}
include hk in
theorem poursR_ok (l : List Pour) (hH : 0 < H.length) : gcall (KC keep) (geval (KC keep)) 32 [.pure (.agg [.int .i64 w, .int .i64 wl, .int .i64 wh, .int .i64 ro, .int .i64 ga, .int .i64 lo, .int .i64 si, .int .i64 bo]), .pure (.slice (l.map Pour.row))] c H =
    some (.pure (.int .i64 (poursF ⟨w, ⟨wl, wh⟩, ro, ga, lo, si, bo⟩ l)), H) := by
  refine WPv_eq (call_enter (KC keep) needT Try.func32 rfl rfl good32 rfl (by simp) hH ?_)
  rw [poursF_def]
  by_cases h1 : kettleF ⟨w, ⟨wl, wh⟩, ro, ga, lo, si, bo⟩ = 0
  · by_cases h2 : 20 < l.length
    · have h2' : (20 : Int) < l.length := by omega
      simp [kettleR_ok hk, h1, h2, h2', gleave_free, hk, kept]
    · have h2' : ¬ (20 : Int) < l.length := by omega
      simp [kettleR_ok hk, h1, h2, h2']
      refine poursR_loop hk l (by omega) _ (by simp) l.length 0 _ 0 (by omega) (fun _ => rfl) (fun _ h => by omega) (fun h3 => ?_) (fun h3 => ?_)
      · simp at h3
        simp [h3, gleave_free, hk, kept]
      · simp at h3
        simp [gleave_free, hk, kept]
  · have h1' : (kettleF ⟨w, ⟨wl, wh⟩, ro, ga, lo, si, bo⟩ != 0) = true := by simpa using h1
    simp [kettleR_ok hk, h1, h1', gleave_free, hk, kept]

/-! ### verdicts -/
noncomputable def singsF : Int → Int → Int → Int → Int := hid fun si bo a b => if si ≤ a ∧ b ≤ bo then 1 else if b < si ∨ bo < a then 2 else 3
theorem singsF_def (si bo a b : Int) : singsF si bo a b = if si ≤ a ∧ b ≤ bo then 1 else if b < si ∨ bo < a then 2 else 3 := by rw [singsF, hid_eq]
include hk in
theorem sings_ok {a b : Int} (hH : 0 < H.length) : gcall (KC keep) (geval (KC keep)) 80 [.pure (.agg [.int .i64 w, .int .i64 wl, .int .i64 wh, .int .i64 ro, .int .i64 ga, .int .i64 lo, .int .i64 si, .int .i64 bo]), .pure (.agg [.int .i64 a, .int .i64 b])] c H =
    some (.pure (.int .i64 (singsF si bo a b)), H) := by
  refine WPv_eq (call_enter (KC keep) needT Try.func80 rfl rfl good80 rfl (by simp) hH ?_)
  rw [singsF_def]
  by_cases h1 : si ≤ a <;> by_cases h2 : b ≤ bo <;> by_cases h3 : b < si <;> by_cases h4 : bo < a <;> simp [h1, h2, h3, h4, gleave_free, hk, kept]
include hk in
theorem singsR_ok {a b : Int} (hH : 0 < H.length) : gcall (KC keep) (geval (KC keep)) 85 [.pure (.agg [.int .i64 w, .int .i64 wl, .int .i64 wh, .int .i64 ro, .int .i64 ga, .int .i64 lo, .int .i64 si, .int .i64 bo]), .pure (.agg [.int .i64 a, .int .i64 b])] c H =
    some (.pure (.int .i64 (singsF si bo a b)), H) := by
  refine WPv_eq (call_enter (KC keep) needT Try.func85 rfl rfl good85 rfl (by simp) hH ?_)
  rw [singsF_def]
  by_cases h1 : si ≤ a <;> by_cases h2 : b ≤ bo <;> by_cases h3 : b < si <;> by_cases h4 : bo < a <;> simp [h1, h2, h3, h4, gleave_free, hk, kept]

/-! ### what is asked -/
noncomputable def askedF : Kettle → Fire → List Pour → Int → Int := hid fun k f l n => if poursF k l ≠ 0 then poursF k l else if checkF f.coals f.touches ≠ 0 then checkF f.coals f.touches else if inB n 0 300 = true then 0 else 2
theorem askedF_def (k : Kettle) (f : Fire) (l : List Pour) (n : Int) : askedF k f l n =
  if poursF k l ≠ 0 then poursF k l else if checkF f.coals f.touches ≠ 0 then checkF f.coals f.touches else if inB n 0 300 = true then 0 else 2 := by rw [askedF, hid_eq]
include hk in
theorem asked_ok {cs : List Coal} {ts : List Touch} {l : List Pour} {n : Int} (hH : 0 < H.length) : gcall (KC keep) (geval (KC keep)) 78 [.pure (.agg [.int .i64 w, .int .i64 wl, .int .i64 wh, .int .i64 ro, .int .i64 ga, .int .i64 lo, .int .i64 si, .int .i64 bo]),
      .pure (.agg [.slice (cs.map Coal.row), .slice (ts.map Touch.row)]), .pure (.slice (l.map Pour.row)), .pure (.int .i64 n)] c H =
    some (.pure (.int .i64 (askedF ⟨w, ⟨wl, wh⟩, ro, ga, lo, si, bo⟩ ⟨cs, ts⟩ l n)), H) := by
  refine WPv_eq (call_enter (KC keep) needT Try.func78 rfl rfl good78 rfl (by simp) hH ?_)
  rw [askedF_def]
  by_cases h1 : poursF ⟨w, ⟨wl, wh⟩, ro, ga, lo, si, bo⟩ l = 0
  · by_cases h2 : checkF cs ts = 0
    · by_cases h3 : inB n 0 300 = true
      · simp [pours_ok hk, check_ok hk, within_ok hk, h1, h2, h3, gleave_free, hk, kept]
      · simp [pours_ok hk, check_ok hk, within_ok hk, h1, h2, h3, gleave_free, hk, kept]
    · have h2' : (checkF cs ts != 0) = true := by simpa using h2
      simp [pours_ok hk, check_ok hk, within_ok hk, h1, h2, h2', gleave_free, hk, kept]
  · have h1' : (poursF ⟨w, ⟨wl, wh⟩, ro, ga, lo, si, bo⟩ l != 0) = true := by simpa using h1
    simp [pours_ok hk, h1, h1', gleave_free, hk, kept]
include hk in
theorem askedR_ok {cs : List Coal} {ts : List Touch} {l : List Pour} {n : Int} (hH : 0 < H.length) : gcall (KC keep) (geval (KC keep)) 83 [.pure (.agg [.int .i64 w, .int .i64 wl, .int .i64 wh, .int .i64 ro, .int .i64 ga, .int .i64 lo, .int .i64 si, .int .i64 bo]),
      .pure (.agg [.slice (cs.map Coal.row), .slice (ts.map Touch.row)]), .pure (.slice (l.map Pour.row)), .pure (.int .i64 n)] c H =
    some (.pure (.int .i64 (askedF ⟨w, ⟨wl, wh⟩, ro, ga, lo, si, bo⟩ ⟨cs, ts⟩ l n)), H) := by
  refine WPv_eq (call_enter (KC keep) needT Try.func83 rfl rfl good83 rfl (by simp) hH ?_)
  rw [askedF_def]
  by_cases h1 : poursF ⟨w, ⟨wl, wh⟩, ro, ga, lo, si, bo⟩ l = 0
  · by_cases h2 : checkF cs ts = 0
    · by_cases h3 : inB n 0 300 = true
      · simp [poursR_ok hk, checkR_ok hk, withinR_ok hk, h1, h2, h3, gleave_free, hk, kept]
      · simp [poursR_ok hk, checkR_ok hk, withinR_ok hk, h1, h2, h3, gleave_free, hk, kept]
    · have h2' : (checkF cs ts != 0) = true := by simpa using h2
      simp [poursR_ok hk, checkR_ok hk, withinR_ok hk, h1, h2, h2', gleave_free, hk, kept]
  · have h1' : (poursF ⟨w, ⟨wl, wh⟩, ro, ga, lo, si, bo⟩ l != 0) = true := by simpa using h1
    simp [poursR_ok hk, h1, h1', gleave_free, hk, kept]
end
end Go.Gh


/- The kit's functions: more comparisons, copies, fires and kettles from a box. -/
namespace Go.Gh
open Go.Proofs
set_option linter.unusedSimpArgs false
set_option linter.unusedVariables false
set_option maxRecDepth 100000
set_option maxHeartbeats 2000000

variable {keep : Nat → Bool} (hk : ∀ f, kept f = false → keep f = false) {c : Nat} {H : Heap}
theorem Int.eqv (x y : Int) : (x == y) = decide (x = y) := by rw [Bool.eq_iff_iff]; simp
@[simp] theorem Touch.eta (x : Touch) : (⟨x.a, x.b⟩ : Touch) = x := rfl
@[simp] theorem Pour.eta (x : Pour) : (⟨x.minute, x.ladles, x.warm⟩ : Pour) = x := rfl
theorem Coal.eqv (x y : Coal) : (x.katch.lo == y.katch.lo && (x.katch.hi == y.katch.hi && (x.burn.lo == y.burn.lo && (x.burn.hi == y.burn.hi && (x.heat.lo == y.heat.lo && (x.heat.hi == y.heat.hi && x.lit == y.lit)))))) = decide (x = y) := by
  obtain ⟨⟨_, _⟩, ⟨_, _⟩, ⟨_, _⟩, _⟩ := x; obtain ⟨⟨_, _⟩, ⟨_, _⟩, ⟨_, _⟩, _⟩ := y; rw [Bool.eq_iff_iff]; simp; constructor
  · rintro ⟨rfl, rfl, rfl, rfl, rfl, rfl, rfl⟩; simp
  · rintro ⟨⟨rfl, rfl⟩, ⟨rfl, rfl⟩, ⟨rfl, rfl⟩, rfl⟩; simp

/-! ### EqPours, Eq -/
theorem eqPours_loop (a b : List Pour) (hl : a.length = b.length) (hb : a.length < 4611686018427387904) (Q : GX → GSt → Prop) (hH : 0 < H.length) : ∀ k i : Nat, i + k = a.length →
    (a.drop i = b.drop i → Q (.exit 0) ⟨[(4, gdead)], H, 26⟩) → (a.drop i ≠ b.drop i → Q .ret ⟨[(4, .pure (.bool false))], H, 26⟩) →
    WPL (KC keep) needT 35 (lp Try.f35 0) [0, 1, 5] [4] Q [(0, .pure (.slice (a.map Pour.row))), (1, .pure (.slice (b.map Pour.row))), (5, .pure (.int .i64 i))] H 26 := by
  intro k
  induction k with
  | zero =>
    intro i hi h1 h2
    have e1 : a.drop i = b.drop i := by rw [List.drop_of_length_le (by omega), List.drop_of_length_le (by omega)]
    apply WPL_step
    conv => arg 4; whnf
    have : ¬ i < a.length := by omega
    simp [this, hH]
    exact h1 e1
  | succ k ih =>
    intro i hi h1 h2
    have hia : i < a.length := by omega
    have hib : i < b.length := by omega
    have hw := w64 (x := (i : Int) + 1) (by omega) (by omega)
    rw [drop_eq hia hib] at h1
    rw [ne_eq, drop_eq hia hib] at h2
    apply WPL_step
    conv => arg 4; whnf
    have ih' := ih (i + 1) (by omega)
    by_cases he : a[i] = b[i]
    · simp [hia, hib, hH, Pour.row, he, hw]
      simp only [he, true_and, ne_eq] at h1 h2
      simpa using ih' h1 h2
    · have e2 := Pour.eqv a[i] b[i]
      rw [decide_eq_false he] at e2
      simp [hia, hib, hH, Pour.row, e2]
      exact h2 fun h => he h.1
include hk in
theorem eqPours_ok (a b : List Pour) (hH : 0 < H.length) (hb : a.length < 4611686018427387904) :
    gcall (KC keep) (geval (KC keep)) 35 [.pure (.slice (a.map Pour.row)), .pure (.slice (b.map Pour.row))] c H = some (.pure (.bool (decide (a = b))), H) := by
  refine WPv_eq (call_enter (KC keep) needT Try.func35 rfl rfl good35 rfl (by simp) hH ?_)
  by_cases hl : a.length = b.length
  · simp [hl]
    refine eqPours_loop a b hl hb _ (by simp) a.length 0 (by omega) (fun h => ?_) (fun h => ?_)
    · simp at h
      simp [h, gleave_free, hk, kept]
    · simp at h
      simp [h, gleave_free, hk, kept]
  · have hne : a ≠ b := fun h => hl (by rw [h])
    have hl2 : ((a.length : Int) == b.length) = false := by simp; omega
    simp [hl, hl2, hne, gleave_free, hk, kept, bne]

theorem eqInts_loop (a b : List Int) (hl : a.length = b.length) (hb : a.length < 4611686018427387904) (Q : GX → GSt → Prop) (hH : 0 < H.length) : ∀ k i : Nat, i + k = a.length →
    (a.drop i = b.drop i → Q (.exit 0) ⟨[(4, gdead)], H, 26⟩) → (a.drop i ≠ b.drop i → Q .ret ⟨[(4, .pure (.bool false))], H, 26⟩) →
    WPL (KC keep) needT 57 (lp Try.f57 0) [0, 1, 5] [4] Q [(0, .pure (.slice (a.map irow))), (1, .pure (.slice (b.map irow))), (5, .pure (.int .i64 i))] H 26 := by
  intro k
  induction k with
  | zero =>
    intro i hi h1 h2
    have e1 : a.drop i = b.drop i := by rw [List.drop_of_length_le (by omega), List.drop_of_length_le (by omega)]
    apply WPL_step
    conv => arg 4; whnf
    have : ¬ i < a.length := by omega
    simp [this, hH]
    exact h1 e1
  | succ k ih =>
    intro i hi h1 h2
    have hia : i < a.length := by omega
    have hib : i < b.length := by omega
    have hw := w64 (x := (i : Int) + 1) (by omega) (by omega)
    rw [drop_eq hia hib] at h1
    rw [ne_eq, drop_eq hia hib] at h2
    apply WPL_step
    conv => arg 4; whnf
    have ih' := ih (i + 1) (by omega)
    by_cases he : a[i] = b[i]
    · simp [hia, hib, hH, irow, he, hw]
      simp only [he, true_and, ne_eq] at h1 h2
      simpa using ih' h1 h2
    · have e2 := Int.eqv a[i] b[i]
      rw [decide_eq_false he] at e2
      simp [hia, hib, hH, irow, e2, he]
      exact h2 fun h => he h.1
include hk in
theorem eqInts_ok (a b : List Int) (hH : 0 < H.length) (hb : a.length < 4611686018427387904) :
    gcall (KC keep) (geval (KC keep)) 57 [.pure (.slice (a.map irow)), .pure (.slice (b.map irow))] c H = some (.pure (.bool (decide (a = b))), H) := by
  refine WPv_eq (call_enter (KC keep) needT Try.func57 rfl rfl good57 rfl (by simp) hH ?_)
  by_cases hl : a.length = b.length
  · simp [hl]
    refine eqInts_loop a b hl hb _ (by simp) a.length 0 (by omega) (fun h => ?_) (fun h => ?_)
    · simp at h
      simp [h, gleave_free, hk, kept]
    · simp at h
      simp [h, gleave_free, hk, kept]
  · have hne : a ≠ b := fun h => hl (by rw [h])
    have hl2 : ((a.length : Int) == b.length) = false := by simp; omega
    simp [hl, hl2, hne, gleave_free, hk, kept, bne]


/-! ### EqFires -/
def fbox (cs : List Coal) (ts : List Touch) : Blk := .box [.pure (.slice (cs.map Coal.row)), .pure (.slice (ts.map Touch.row))]
def ffr (cs ds : List Coal) (ts us : List Touch) : Fr := [(2, .box [.pure (.slice (cs.map Coal.row)), .pure (.slice (ts.map Touch.row))]), (3, .box [.pure (.slice (ds.map Coal.row)), .pure (.slice (us.map Touch.row))])]
theorem eqFires_loop1 (a b : List Coal) (ts us : List Touch) (hl : a.length = b.length) (hb : a.length < 4611686018427387904) (Q : GX → GSt → Prop) (hH : 0 < H.length) : ∀ k i : Nat, i + k = a.length →
    (a.drop i = b.drop i → Q (.exit 0) ⟨[(2, .bptr (H.length, 2) 0), (3, .bptr (H.length, 3) 0), (4, gdead)], [(2, .box [.pure (.slice (a.map Coal.row)), .pure (.slice (ts.map Touch.row))]), (3, .box [.pure (.slice (b.map Coal.row)), .pure (.slice (us.map Touch.row))])] :: H, 59⟩) →
    (a.drop i ≠ b.drop i → Q .ret ⟨[(2, .bptr (H.length, 2) 0), (3, .bptr (H.length, 3) 0), (4, .pure (.bool false))], [(2, .box [.pure (.slice (a.map Coal.row)), .pure (.slice (ts.map Touch.row))]), (3, .box [.pure (.slice (b.map Coal.row)), .pure (.slice (us.map Touch.row))])] :: H, 59⟩) →
    WPL (KC keep) needT 34 (lp Try.f34 0) [2, 3, 5] [2, 3, 4] Q [(2, .bptr (H.length, 2) 0), (3, .bptr (H.length, 3) 0), (5, .pure (.int .i64 i))] ([(2, .box [.pure (.slice (a.map Coal.row)), .pure (.slice (ts.map Touch.row))]), (3, .box [.pure (.slice (b.map Coal.row)), .pure (.slice (us.map Touch.row))])] :: H) 59 := by
  intro k
  induction k with
  | zero =>
    intro i hi h1 h2
    have e1 : a.drop i = b.drop i := by rw [List.drop_of_length_le (by omega), List.drop_of_length_le (by omega)]
    apply WPL_step
    conv => arg 4; whnf
    have : ¬ i < a.length := by omega
    simp [this, hH]
    exact h1 e1
  | succ k ih =>
    intro i hi h1 h2
    have hia : i < a.length := by omega
    have hib : i < b.length := by omega
    have hw := w64 (x := (i : Int) + 1) (by omega) (by omega)
    rw [drop_eq hia hib] at h1
    rw [ne_eq, drop_eq hia hib] at h2
    apply WPL_step
    conv => arg 4; whnf
    have ih' := ih (i + 1) (by omega)
    by_cases he : a[i] = b[i]
    · simp [hia, hib, hH, Coal.row, he, hw]
      simp only [he, true_and, ne_eq] at h1 h2
      simpa using ih' h1 h2
    · have e2 := Coal.eqv a[i] b[i]
      rw [decide_eq_false he] at e2
      simp [hia, hib, hH, Coal.row, e2]
      exact h2 fun h => he h.1
theorem eqFires_loop2 (cs ds : List Coal) (a b : List Touch) (hl : a.length = b.length) (hb : a.length < 4611686018427387904) (Q : GX → GSt → Prop) (hH : 0 < H.length) : ∀ k i : Nat, i + k = a.length →
    (a.drop i = b.drop i → Q (.exit 2) ⟨[(4, gdead)], [(2, .box [.pure (.slice (cs.map Coal.row)), .pure (.slice (a.map Touch.row))]), (3, .box [.pure (.slice (ds.map Coal.row)), .pure (.slice (b.map Touch.row))])] :: H, 59⟩) →
    (a.drop i ≠ b.drop i → Q .ret ⟨[(4, .pure (.bool false))], [(2, .box [.pure (.slice (cs.map Coal.row)), .pure (.slice (a.map Touch.row))]), (3, .box [.pure (.slice (ds.map Coal.row)), .pure (.slice (b.map Touch.row))])] :: H, 59⟩) →
    WPL (KC keep) needT 34 (lp Try.f34 1) [2, 3, 6] [4] Q [(2, .bptr (H.length, 2) 0), (3, .bptr (H.length, 3) 0), (6, .pure (.int .i64 i))] ([(2, .box [.pure (.slice (cs.map Coal.row)), .pure (.slice (a.map Touch.row))]), (3, .box [.pure (.slice (ds.map Coal.row)), .pure (.slice (b.map Touch.row))])] :: H) 59 := by
  intro k
  induction k with
  | zero =>
    intro i hi h1 h2
    have e1 : a.drop i = b.drop i := by rw [List.drop_of_length_le (by omega), List.drop_of_length_le (by omega)]
    apply WPL_step
    conv => arg 4; whnf
    have : ¬ i < a.length := by omega
    simp [this, hH]
    exact h1 e1
  | succ k ih =>
    intro i hi h1 h2
    have hia : i < a.length := by omega
    have hib : i < b.length := by omega
    have hw := w64 (x := (i : Int) + 1) (by omega) (by omega)
    rw [drop_eq hia hib] at h1
    rw [ne_eq, drop_eq hia hib] at h2
    apply WPL_step
    conv => arg 4; whnf
    have ih' := ih (i + 1) (by omega)
    by_cases he : a[i] = b[i]
    · simp [hia, hib, hH, Touch.row, he, hw]
      simp only [he, true_and, ne_eq] at h1 h2
      simpa using ih' h1 h2
    · have e2 := Touch.eqv a[i] b[i]
      rw [decide_eq_false he] at e2
      simp [hia, hib, hH, Touch.row, e2]
      exact h2 fun h => he h.1
include hk in
theorem eqFires_ok (a b : List Coal) (ts us : List Touch) (hH : 0 < H.length) (hb : a.length < 4611686018427387904) (ht : ts.length < 4611686018427387904) :
    gcall (KC keep) (geval (KC keep)) 34 [.pure (.agg [.slice (a.map Coal.row), .slice (ts.map Touch.row)]), .pure (.agg [.slice (b.map Coal.row), .slice (us.map Touch.row)])] c H = some (.pure (.bool (decide (a = b) && decide (ts = us))), H) := by
  refine WPv_eq (call_enter (KC keep) needT Try.func34 rfl rfl good34 rfl (by simp) hH ?_)
  by_cases hl : a.length = b.length
  · by_cases hl2 : ts.length = us.length
    · simp [hl, hl2]
      refine eqFires_loop1 a b ts us hl hb _ hH a.length 0 (by omega) (fun h => ?_) (fun h => ?_)
      · simp at h
        simp [h]
        subst h
        refine eqFires_loop2 a a ts us hl2 ht _ hH ts.length 0 (by omega) (fun h => ?_) (fun h => ?_)
        · simp at h
          simp [h, gleave_free, hk, kept]
        · simp at h
          simp [h, gleave_free, hk, kept]
      · simp at h
        simp [h, gleave_free, hk, kept]
    · have hne : ts ≠ us := fun h => hl2 (by rw [h])
      have hl3 : ((ts.length : Int) == us.length) = false := beq_eq_false_iff_ne.2 (by omega)
      simp [hl, hl2, hl3, hne, gleave_free, hk, kept, bne]
  · have hne : a ≠ b := fun h => hl (by rw [h])
    have hl2 : ((a.length : Int) == b.length) = false := beq_eq_false_iff_ne.2 (by omega)
    simp [hl, hl2, hne, gleave_free, hk, kept, bne]

/-! ### small ones -/
include hk in
theorem much_ok (cs : List Coal) (ts : List Touch) (l : List Pour) (hH : 0 < H.length) : gcall (KC keep) (geval (KC keep)) 13 [.pure (.agg [.slice (cs.map Coal.row), .slice (ts.map Touch.row)]), .pure (.slice (l.map Pour.row))] c H =
    some (.pure (.bool (decide (30 < cs.length ∨ 60 < ts.length ∨ 40 < l.length))), H) := by
  refine WPv_eq (call_enter (KC keep) needT Try.func13 rfl rfl good13 rfl (by simp) hH ?_)
  have e1 : ((30 : Int) < cs.length) = (30 < cs.length) := by simp; omega
  have e2 : ((60 : Int) < ts.length) = (60 < ts.length) := by simp; omega
  have e3 : ((40 : Int) < l.length) = (40 < l.length) := by simp; omega
  by_cases h1 : 30 < cs.length <;> by_cases h2 : 60 < ts.length <;> simp [e1, e2, e3, h1, h2, gleave_free, hk, kept]
include hk in
theorem spanc_ok {a b : Int} (hH : 0 < H.length) : gcall (KC keep) (geval (KC keep)) 41 [.pure (.int .i64 a), .pure (.int .i64 b)] c H = some (.pure (.agg [.int .i64 a, .int .i64 b]), H) := by
  refine WPv_eq (call_enter (KC keep) needT Try.func41 rfl rfl good41 rfl (by simp) hH ?_)
  simp [gleave_free, hk, kept]
include hk in
theorem onec_ok {a : Int} (hH : 0 < H.length) : gcall (KC keep) (geval (KC keep)) 45 [.pure (.int .i64 a)] c H = some (.pure (.agg [.int .i64 a, .int .i64 a]), H) := by
  refine WPv_eq (call_enter (KC keep) needT Try.func45 rfl rfl good45 rfl (by simp) hH ?_)
  simp [spanc_ok hk, gleave_free, hk, kept]
noncomputable def fitF : Int → Int → Int := hid fun x n => if n < 2 then 0 else if x.tmod n < 0 then IntKind.i64.wrap (x.tmod n + n) else x.tmod n
theorem fitF_def (x n : Int) : fitF x n = if n < 2 then 0 else if x.tmod n < 0 then IntKind.i64.wrap (x.tmod n + n) else x.tmod n := by rw [fitF, hid_eq]
include hk in
theorem fit_ok {x n : Int} (hH : 0 < H.length) : gcall (KC keep) (geval (KC keep)) 67 [.pure (.int .i64 x), .pure (.int .i64 n)] c H = some (.pure (.int .i64 (fitF x n)), H) := by
  refine WPv_eq (call_enter (KC keep) needT Try.func67 rfl rfl good67 rfl (by simp) hH ?_)
  rw [fitF_def]
  by_cases h1 : n < 2
  · simp [h1, gleave_free, hk, kept]
  · have h2 : n ≠ 0 := by omega
    by_cases h3 : x.tmod n < 0
    · simp [h1, h2, h3, gleave_free, hk, kept]
    · simp [h1, h2, h3, gleave_free, hk, kept]
end Go.Gh


/- The kit's functions: what is made of a box. -/
namespace Go.Gh
open Go.Proofs
set_option linter.unusedSimpArgs false
set_option linter.unusedVariables false
set_option maxRecDepth 100000
set_option maxHeartbeats 2000000

variable {keep : Nat → Bool} (hk : ∀ f, kept f = false → keep f = false) {c : Nat} {H : Heap}

/-! ### heatsOf -/
noncomputable def heatsR : Int → List Coal → List Int × Int
  | w, [] => ([], w)
  | w, x :: r => ((inR w x.heat).1 :: (heatsR (inR w x.heat).2 r).1, (heatsR (inR w x.heat).2 r).2)
theorem heatsR_drop (w : Int) (l : List Coal) (i : Nat) (h : i < l.length) : heatsR w (l.drop i) = ((inR w l[i].heat).1 :: (heatsR (inR w l[i].heat).2 (l.drop (i + 1))).1, (heatsR (inR w l[i].heat).2 (l.drop (i + 1))).2) := by
  rw [List.drop_eq_getElem_cons h]; rfl
include hk in
theorem heats_loop (cs : List Coal) (ts : List Touch) (hn : cs.length ≤ 1000000) {nm : Nm} (hB : isBox H nm) (Q : GX → GSt → Prop) : ∀ (k i : Nat) (w : Int) (rows : List (List PV)), i + k = cs.length → rows.length = i →
    Q (.exit 0) ⟨[(5, apS (H.length, 24) 1 (rows ++ (heatsR w (cs.drop i)).1.map irow))], apF 24 1 (rows ++ (heatsR w (cs.drop i)).1.map irow) [(3, .box [.pure (.slice (cs.map Coal.row)), .pure (.slice (ts.map Touch.row))])] :: H.set nm (wbox (heatsR w (cs.drop i)).2), 26⟩ →
    WPL (KC keep) needT 37 (lp Try.f37 0) [0, 3, 5, 6] [5] Q [(0, .bptr nm 0), (3, .bptr (H.length, 3) 0), (5, apS (H.length, 24) 1 rows), (6, .pure (.int .i64 i))]
      (apF 24 1 rows [(3, .box [.pure (.slice (cs.map Coal.row)), .pure (.slice (ts.map Touch.row))])] :: H.set nm (wbox w)) 26 := by
  have hl := isBox_lt hB
  have hne : ¬ nm.1 = H.length := by omega
  have hne2 : ¬ nm.1 = H.length + 1 := by omega
  have hle : nm.1 ≤ H.length := by omega
  have hB2 : ∀ fr w, isBox (fr :: H.set nm (wbox w)) nm := fun fr w => isBox_up (isBox_set' hl)
  have hB3 : ∀ f2 fr w, isBox (f2 :: fr :: H.set nm (wbox w)) nm := fun f2 fr w => isBox_up (hB2 fr w)
  have hl3 : nm.1 < H.length + 1 := by omega
  have hl2 : ∀ w, nm.1 < (H.set nm (wbox w)).length := fun w => by simpa using hl
  intro k
  induction k with
  | zero =>
    intro i w rows hi hr h1
    have e1 : cs.drop i = [] := List.drop_of_length_le (by omega)
    rw [e1] at h1
    apply WPL_step
    conv => arg 4; whnf
    have : ¬ i < cs.length := by omega
    simp [this]
    simp [heatsR] at h1
    exact h1
  | succ k ih =>
    intro i w rows hi hr h1
    have hia : i < cs.length := by omega
    have hw := w64 (x := (i : Int) + 1) (by omega) (by omega)
    rw [heatsR_drop w cs i hia] at h1
    have hb : (rows.length + 1) * 8 ≤ 1099511627776 := by omega
    have ih' := ih (i + 1) (inR w cs[i].heat).2 (rows ++ [irow (inR w cs[i].heat).1]) (by omega) (by simp [hr])
    apply WPL_step
    conv => arg 4; whnf
    simp [hia, Coal.row, hne, hne2, hle, in_ok hk, hB2, hB3, hl, hl2, hl3, wordAt_up, hw, hb]
    simp [irow] at ih' h1 ⊢
    exact ih' h1
include hk in
theorem heats_ok (cs : List Coal) (ts : List Touch) (hn : cs.length ≤ 1000000) {nm : Nm} (hB : isBox H nm) : gcall (KC keep) (geval (KC keep)) 37 [.bptr nm 0, .pure (.agg [.slice (cs.map Coal.row), .slice (ts.map Touch.row)])] c H =
    some (.pure (.slice ((heatsR (wordAt H nm) cs).1.map irow)), H.set nm (wbox (heatsR (wordAt H nm) cs).2)) := by
  have hl := isBox_lt hB
  have hs := isBox_set hB
  refine WPv_eq (call_enter (KC keep) needT Try.func37 rfl rfl good37 rfl (by simp) (by omega) ?_)
  have hlt : H.length - 1 < H.length := by omega
  simp
  have h := heats_loop hk cs ts hn hB
  have h0 := fun Q => h Q cs.length 0 (wordAt H nm) [] (by omega) rfl
  simp [apS_nil, apF_nil, hs] at h0
  refine h0 _ ?_
  simp [gleave_free, hk, kept, cc_apS, hlt]

/-! ### KettleOf -/
noncomputable def kettleR : Int → Kettle × Int := hid fun w0 =>
  let a := anyR w0 1 30
  let s := spanR a.2 100 600
  let r := anyR s.2 50 300
  let g1 := upR r.2 100
  let g2 := upR g1.2 300
  let g := pickR g2.2 [0, g1.1, g2.1]
  let l1 := upR g.2 300000
  let l2 := upR l1.2 1000001
  let l := pickR l2.2 [0, l1.1, l2.1]
  let si := anyR l.2 0 800
  let bo := anyR si.2 si.1 1000
  (⟨a.1, s.1, r.1, g.1, l.1, si.1, bo.1⟩, bo.2)
theorem kettleR_def (w0 : Int) : kettleR w0 =
  (let a := anyR w0 1 30
  let s := spanR a.2 100 600
  let r := anyR s.2 50 300
  let g1 := upR r.2 100
  let g2 := upR g1.2 300
  let g := pickR g2.2 [0, g1.1, g2.1]
  let l1 := upR g.2 300000
  let l2 := upR l1.2 1000001
  let l := pickR l2.2 [0, l1.1, l2.1]
  let si := anyR l.2 0 800
  let bo := anyR si.2 si.1 1000
  (⟨a.1, s.1, r.1, g.1, l.1, si.1, bo.1⟩, bo.2)) := by rw [kettleR, hid_eq]
theorem pick3_ok {nm : Nm} {a b d : Int} (hk : ∀ f, kept f = false → keep f = false) (hB : isBox H nm) : gcall (KC keep) (geval (KC keep)) 66 [.bptr nm 0, .pure (.slice [[.int .i64 a], [.int .i64 b], [.int .i64 d]])] c H = some (.pure (.int .i64 (pickR (wordAt H nm) [a, b, d]).1), H.set nm (wbox (pickR (wordAt H nm) [a, b, d]).2)) :=
  pick_ok (l := [a, b, d]) hk hB (by simp)
include hk in
theorem kettleOf_ok {nm : Nm} (hB : isBox H nm) : gcall (KC keep) (geval (KC keep)) 17 [.bptr nm 0] c H = some (.pure (.agg (kettleR (wordAt H nm)).1.row), H.set nm (wbox (kettleR (wordAt H nm)).2)) := by
  have hl := isBox_lt hB
  have hne : ¬ nm.1 = H.length := by omega
  refine WPv_eq (call_enter (KC keep) needT Try.func17 rfl rfl good17 rfl (by simp) (by omega) ?_)
  have hB' : ∀ fr, isBox (fr :: H) nm := fun fr => isBox_up hB
  have hB2 : ∀ fr w, isBox (fr :: H.set nm (wbox w)) nm := fun fr w => isBox_up (isBox_set' hl)
  have hl2 : ∀ w, nm.1 < (H.set nm (wbox w)).length := fun w => by simpa using hl
  rw [kettleR_def]
  generalize hw0 : wordAt H nm = w0
  simp [hw0, any_ok hk, up_ok hk, span_ok hk, pick3_ok hk, hB', hB2, hne, hl, hl2, wordAt_up, Span.row, Kettle.row, gleave_free, hk, kept]

/-! ### FireOf -/
noncomputable def coalR : Int → Coal × Int := hid fun w =>
  let a := spanR w 1 8
  let b := spanR a.2 1 12
  let p := pickR b.2 [5, 40]
  let h := spanR p.2 0 p.1
  let o := oneR h.2 3
  (⟨a.1, b.1, h.1, o.1⟩, o.2)
theorem coalR_def (w : Int) : coalR w =
  (let a := spanR w 1 8
  let b := spanR a.2 1 12
  let p := pickR b.2 [5, 40]
  let h := spanR p.2 0 p.1
  let o := oneR h.2 3
  (⟨a.1, b.1, h.1, o.1⟩, o.2)) := by rw [coalR, hid_eq]
noncomputable def coalsR : Nat → Int → List Coal × Int
  | 0, w => ([], w)
  | n + 1, w => ((coalR w).1 :: (coalsR n (coalR w).2).1, (coalsR n (coalR w).2).2)
noncomputable def touchR : Int → Int → Touch × Int := hid fun n w =>
  let a := upR w n
  let b := anyR a.2 1 (IntKind.i64.wrap (n - 1))
  (⟨a.1, fitF (IntKind.i64.wrap (a.1 + b.1)) n⟩, b.2)
theorem touchR_def (n w : Int) : touchR n w =
  (let a := upR w n
  let b := anyR a.2 1 (IntKind.i64.wrap (n - 1))
  (⟨a.1, fitF (IntKind.i64.wrap (a.1 + b.1)) n⟩, b.2)) := by rw [touchR, hid_eq]
noncomputable def touchesR (m : Int) : Nat → Int → List Touch × Int
  | 0, w => ([], w)
  | n + 1, w => ((touchR m w).1 :: (touchesR m n (touchR m w).2).1, (touchesR m n (touchR m w).2).2)
theorem pick2_ok {nm : Nm} {a b : Int} (hk : ∀ f, kept f = false → keep f = false) (hB : isBox H nm) : gcall (KC keep) (geval (KC keep)) 66 [.bptr nm 0, .pure (.slice [[.int .i64 a], [.int .i64 b]])] c H = some (.pure (.int .i64 (pickR (wordAt H nm) [a, b]).1), H.set nm (wbox (pickR (wordAt H nm) [a, b]).2)) :=
  pick_ok (l := [a, b]) hk hB (by simp)
include hk in
theorem fire_loop1 {nm : Nm} (hB : isBox H nm) (Q : GX → GSt → Prop) : ∀ (k : Nat) (w : Int) (rows : List (List PV)), rows.length + k ≤ 1000000 →
    Q (.exit 0) ⟨[(0, .bptr nm 0), (4, .bptr (H.length, 4) 0), (5, .bptr (H.length, 5) 0)], apF 33 7 (rows ++ (coalsR k w).1.map Coal.row) [(4, .box [.nils, .nils]), (5, .box [apS (H.length, 33) 7 (rows ++ (coalsR k w).1.map Coal.row), .nils])] :: H.set nm (wbox (coalsR k w).2), 70⟩ →
    WPL (KC keep) needT 16 (lp Try.f16 0) [0, 4, 5, 6] [0, 4, 5] Q [(0, .bptr nm 0), (4, .bptr (H.length, 4) 0), (5, .bptr (H.length, 5) 0), (6, .pure (.int .i64 k))]
      (apF 33 7 rows [(4, .box [.nils, .nils]), (5, .box [apS (H.length, 33) 7 rows, .nils])] :: H.set nm (wbox w)) 70 := by
  have hl := isBox_lt hB
  have hne : ¬ nm.1 = H.length := by omega
  have hne2 : ¬ nm.1 = H.length + 1 := by omega
  have hle : nm.1 ≤ H.length := by omega
  have hB2 : ∀ fr w, isBox (fr :: H.set nm (wbox w)) nm := fun fr w => isBox_up (isBox_set' hl)
  have hB3 : ∀ f2 fr w, isBox (f2 :: fr :: H.set nm (wbox w)) nm := fun f2 fr w => isBox_up (hB2 fr w)
  have hl3 : nm.1 < H.length + 1 := by omega
  have hl2 : ∀ w, nm.1 < (H.set nm (wbox w)).length := fun w => by simpa using hl
  intro k
  induction k with
  | zero =>
    intro w rows hr h1
    apply WPL_step
    conv => arg 4; whnf
    simp [hle]
    simp [coalsR] at h1
    exact h1
  | succ k ih =>
    intro w rows hr h1
    have hw := w64 (x := ((k + 1 : Nat) : Int) - 1) (by omega) (by omega)
    have hb : (rows.length + 1) * 56 ≤ 1099511627776 := by omega
    have ih' := ih (coalR w).2 (rows ++ [(coalR w).1.row]) (by simp; omega)
    have hp : (0 : Int) < (k : Int) + 1 := by omega
    have e1 : (k : Int) + 1 - 1 = k := by omega
    simp only [coalsR] at h1
    simp [e1] at hw
    apply WPL_step
    conv => arg 4; whnf
    simp [coalR_def, Coal.row, Span.row] at ih' h1
    simp [hp, Span.row, hne, hne2, hle, span_ok hk, pick2_ok hk, one_ok hk, hB2, hB3, hl, hl2, hl3, wordAt_up, e1, hw, hb]
    exact ih' h1
include hk in
theorem fire_loop2 {nm : Nm} (hB : isBox H nm) (crows : List (List PV)) (n : Nat) (hn : n ≤ 1000000) (Q : GX → GSt → Prop) : ∀ (k : Nat) (w : Int) (rows : List (List PV)), rows.length + k ≤ 3000000 →
    Q (.exit 2) ⟨[(4, .bptr (H.length, 4) 0), (5, .bptr (H.length, 5) 0)], apF 67 2 (rows ++ (touchesR n (if 1 < n then k else 0) w).1.map Touch.row) (apF 33 7 crows [(4, .box [.nils, .nils]), (5, .box [apS (H.length, 33) 7 crows, apS (H.length, 67) 2 (rows ++ (touchesR n (if 1 < n then k else 0) w).1.map Touch.row)])]) :: H.set nm (wbox (touchesR n (if 1 < n then k else 0) w).2), 70⟩ →
    WPL (KC keep) needT 16 (lp Try.f16 1) [0, 4, 5, 7, 8] [4, 5] Q [(0, .bptr nm 0), (4, .bptr (H.length, 4) 0), (5, .bptr (H.length, 5) 0), (7, .pure (.int .i64 n)), (8, .pure (.int .i64 k))]
      (apF 67 2 rows (apF 33 7 crows [(4, .box [.nils, .nils]), (5, .box [apS (H.length, 33) 7 crows, apS (H.length, 67) 2 rows])]) :: H.set nm (wbox w)) 70 := by
  have hl := isBox_lt hB
  have hne : ¬ nm.1 = H.length := by omega
  have hne2 : ¬ nm.1 = H.length + 1 := by omega
  have hle : nm.1 ≤ H.length := by omega
  have hB2 : ∀ fr w, isBox (fr :: H.set nm (wbox w)) nm := fun fr w => isBox_up (isBox_set' hl)
  have hB3 : ∀ f2 fr w, isBox (f2 :: fr :: H.set nm (wbox w)) nm := fun f2 fr w => isBox_up (hB2 fr w)
  have hl3 : nm.1 < H.length + 1 := by omega
  have hl2 : ∀ w, nm.1 < (H.set nm (wbox w)).length := fun w => by simpa using hl
  intro k
  induction k with
  | zero =>
    intro w rows hr h1
    apply WPL_step
    conv => arg 4; whnf
    simp [hle]
    simp [touchesR] at h1
    exact h1
  | succ k ih =>
    intro w rows hr h1
    have hp : (0 : Int) < (k : Int) + 1 := by omega
    by_cases h1n : 1 < n
    · have h1n' : (1 : Int) < n := by omega
      have hw := w64 (x := ((k + 1 : Nat) : Int) - 1) (by omega) (by omega)
      have hb : (rows.length + 1) * 16 ≤ 1099511627776 := by omega
      have ih' := ih (touchR n w).2 (rows ++ [(touchR n w).1.row]) (by simp; omega)
      have e1 : (k : Int) + 1 - 1 = k := by omega
      have hu : (n : Int) ≤ 9223372036854775807 := by omega
      simp only [h1n, if_true] at h1 ih'
      simp only [touchesR] at h1
      simp [e1] at hw
      apply WPL_step
      conv => arg 4; whnf
      simp [touchR_def, Touch.row] at ih' h1
      simp [hp, h1n, h1n', hne, hne2, hle, up_ok hk, any_ok hk, fit_ok hk, hu, hB2, hB3, hl, hl2, hl3, wordAt_up, e1, hw, hb]
      exact ih' h1
    · have h1n' : ¬ (1 : Int) < n := by omega
      apply WPL_step
      conv => arg 4; whnf
      simp [hp, h1n, h1n', hle]
      simp [h1n, touchesR] at h1
      exact h1
noncomputable def fireR : Int → Int → Fire × Int := hid fun m w =>
  let k := upR w (IntKind.i64.wrap (m + 1))
  let cs := coalsR k.1.toNat k.2
  let q := upR cs.2 (2 * (cs.1.length : Int) + 1)
  let ts := touchesR cs.1.length (if 1 < cs.1.length then q.1.toNat else 0) q.2
  (⟨cs.1, ts.1⟩, ts.2)
theorem fireR_def (m w : Int) : fireR m w =
  (let k := upR w (IntKind.i64.wrap (m + 1))
  let cs := coalsR k.1.toNat k.2
  let q := upR cs.2 (2 * (cs.1.length : Int) + 1)
  let ts := touchesR cs.1.length (if 1 < cs.1.length then q.1.toNat else 0) q.2
  (⟨cs.1, ts.1⟩, ts.2)) := by rw [fireR, hid_eq]
theorem coalsR_len : ∀ (n : Nat) (w : Int), (coalsR n w).1.length = n
  | 0, w => rfl
  | n + 1, w => by simp [coalsR, coalsR_len n]
theorem touchesR_len (m : Int) : ∀ (n : Nat) (w : Int), (touchesR m n w).1.length = n
  | 0, w => rfl
  | n + 1, w => by simp [touchesR, touchesR_len m n]
include hk in
theorem fireOf_ok {nm : Nm} {m : Int} (hm : 0 ≤ m ∧ m ≤ 100) (hB : isBox H nm) (h16 : keep 16 = false) : gcall (KC keep) (geval (KC keep)) 16 [.bptr nm 0, .pure (.int .i64 m)] c H =
    some (.pure (.agg (fireR m (wordAt H nm)).1.row), H.set nm (wbox (fireR m (wordAt H nm)).2)) := by
  have hl := isBox_lt hB
  have hs := isBox_set hB
  have hne : ¬ nm.1 = H.length := by omega
  refine WPv_eq (call_enter (KC keep) needT Try.func16 rfl rfl good16 rfl (by simp) (by omega) ?_)
  have hlt : H.length - 1 < H.length := by omega
  have hB' : ∀ fr, isBox (fr :: H) nm := fun fr => isBox_up hB
  have hB2 : ∀ fr w, isBox (fr :: H.set nm (wbox w)) nm := fun fr w => isBox_up (isBox_set' hl)
  have hl2 : ∀ w, nm.1 < (H.set nm (wbox w)).length := fun w => by simpa using hl
  have hw := w64 (x := m + 1) (by omega) (by omega)
  have hu : m + 1 ≤ 9223372036854775807 := by omega
  have hr := upR_rng (wordAt H nm) (m + 1) (by omega)
  rw [fireR_def, hw]
  generalize hw0 : wordAt H nm = w0 at *
  generalize hk0 : upR w0 (m + 1) = k0 at *
  obtain ⟨kk, hkk⟩ : ∃ kk : Nat, k0.1 = kk := ⟨k0.1.toNat, by omega⟩
  have hk9 : kk ≤ 100 := by omega
  simp [hw, up_ok hk, hu, hB', hne, hl, wordAt_up, hw0, hk0, hkk]
  have h1 := fun Q => fire_loop1 hk hB Q kk k0.2 [] (by simp; omega)
  simp [apS_nil, apF_nil] at h1
  refine h1 _ ?_
  clear h1
  have hcl := coalsR_len kk k0.2
  generalize coalsR kk k0.2 = cs at *
  have hw2 := w64 (x := 2 * (cs.1.length : Int)) (by omega) (by omega)
  have hw3 := w64 (x := 2 * (cs.1.length : Int) + 1) (by omega) (by omega)
  have hu2 : 2 * (cs.1.length : Int) + 1 ≤ 9223372036854775807 := by omega
  have hr2 := upR_rng cs.2 (2 * (cs.1.length : Int) + 1) hu2
  generalize hq0 : upR cs.2 (2 * (cs.1.length : Int) + 1) = q0 at *
  obtain ⟨qq, hqq⟩ : ∃ qq : Nat, q0.1 = qq := ⟨q0.1.toNat, by omega⟩
  have hq9 : qq ≤ 1000 := by omega
  simp [hw2, hw3, up_ok hk, hu2, hB2, hne, hl, hl2, wordAt_up, hq0, hqq]
  have h2 := fun Q => fire_loop2 hk hB (cs.1.map Coal.row) cs.1.length (by omega) Q qq q0.2 [] (by simp; omega)
  simp [apS_nil, apF_nil] at h2
  refine h2 _ ?_
  clear h2
  have hcc : ∀ (ts : List Touch) (F : Fr) (h1 : cs.1.map Coal.row ≠ [] → F.get 33 = some (.arr 7 (cs.1.map Coal.row) 0 false)) (h2 : ts.map Touch.row ≠ [] → F.get 67 = some (.arr 2 (ts.map Touch.row) 0 false)) (w : Int),
      canon (clean (F :: H.set nm (wbox w)) (H.length - 1) (.agg [apS (H.length, 33) 7 (cs.1.map Coal.row), apS (H.length, 67) 2 (ts.map Touch.row)])) = .pure (.agg [.slice (cs.1.map Coal.row), .slice (ts.map Touch.row)]) :=
    fun ts F h1 h2 w => cc_agg2 (by simp) hlt h1 h2
  generalize touchesR (cs.1.length : Int) (if 1 < cs.1.length then qq else 0) q0.2 = ts at *
  simp [gleave_free, h16, Fire.row, -clean_agg]
  refine hcc ts.1 _ (fun h => ?_) (fun h => ?_) _
  · simp
    exact apF_self h
  · exact apF_self h
end Go.Gh


/- Plain: when coals begin, by rounds. -/
namespace Go.Gh
set_option linter.unusedSimpArgs false
set_option linter.unusedVariables false

def spr (ca bu t : List Int) (a b : Nat) : Option (List Int) :=
  if 1000000 ≤ t.getD a 0 ∨ bu.getD a 0 < ca.getD b 0 ∨ t.getD b 0 ≤ t.getD a 0 + ca.getD b 0 then none else some (t.set b (t.getD a 0 + ca.getD b 0))
def touch1 (ca bu t : List Int) (x : Touch) : List Int × Bool :=
  let r1 := spr ca bu t x.a.toNat x.b.toNat
  let r2 := spr ca bu (r1.getD t) x.b.toNat x.a.toNat
  (r2.getD (r1.getD t), r1.isSome || r2.isSome)
def rnd (ca bu : List Int) : List Touch → List Int → Bool → List Int × Bool
  | [], t, m => (t, m)
  | x :: r, t, m => rnd ca bu r (touch1 ca bu t x).1 (m || (touch1 ca bu t x).2)
def iter (ca bu : List Int) (ts : List Touch) : Nat → List Int → List Int
  | 0, t => t
  | k + 1, t => if (rnd ca bu ts t false).2 = true then iter ca bu ts k (rnd ca bu ts t false).1 else (rnd ca bu ts t false).1

theorem rnd_drop (ca bu : List Int) (ts : List Touch) (t : List Int) (m : Bool) (i : Nat) (h : i < ts.length) : rnd ca bu (ts.drop i) t m = rnd ca bu (ts.drop (i + 1)) (touch1 ca bu t ts[i]).1 (m || (touch1 ca bu t ts[i]).2) := by
  rw [List.drop_eq_getElem_cons h]; rfl

/-! ### how far it can go -/
def pot : List Int → Nat
  | [] => 0
  | x :: r => x.toNat + pot r
theorem pot_set : ∀ (t : List Int) (i : Nat) (v : Int), i < t.length → pot (t.set i v) + (t.getD i 0).toNat = pot t + v.toNat
  | [], i, v, h => by simp at h
  | x :: r, 0, v, h => by simp [pot]; omega
  | x :: r, i + 1, v, h => by
    have := pot_set r i v (by simpa using h)
    simp [pot] at this ⊢
    omega
def known : List Int → Nat
  | [] => 0
  | x :: r => (if x = 1000000 then 0 else 1) + known r
theorem known_set : ∀ (t : List Int) (i : Nat) (v : Int), i < t.length → known (t.set i v) + (if t.getD i 0 = 1000000 then 0 else 1) = known t + (if v = 1000000 then 0 else 1)
  | [], i, v, h => by simp at h
  | x :: r, 0, v, h => by simp [known]; omega
  | x :: r, i + 1, v, h => by
    have := known_set r i v (by simpa using h)
    simp [known] at this ⊢
    omega

structure Good (n : Nat) (t : List Int) : Prop where
  len : t.length = n
  val : ∀ i, i < n → t.getD i 0 = 1000000 ∨ (0 ≤ t.getD i 0 ∧ t.getD i 0 ≤ 300 * (known t : Int))

theorem known_le : ∀ t : List Int, known t ≤ t.length
  | [] => Nat.le_refl _
  | x :: r => by have := known_le r; simp [known]; split <;> omega

theorem getD_set_self {t : List Int} {i : Nat} {v : Int} (h : i < t.length) : (t.set i v).getD i 0 = v := by
  simp [List.getD_eq_getElem?_getD, h]
theorem getD_set_ne' {t : List Int} {i j : Nat} {v : Int} (h : i ≠ j) : (t.set i v).getD j 0 = t.getD j 0 := by
  simp [List.getD_eq_getElem?_getD, h]

/-- What a coal that catches turns. -/
theorem spr_some {n : Nat} {ca bu t t' : List Int} {a b : Nat} (hg : Good n t) (hn : n ≤ 1000) (ha : a < n) (hb : b < n) (hc : 0 ≤ ca.getD b 0 ∧ ca.getD b 0 ≤ 300) (h : spr ca bu t a b = some t') :
    t' = t.set b (t.getD a 0 + ca.getD b 0) ∧ Good n t' ∧ pot t' < pot t ∧ t.getD a 0 ≠ 1000000 ∧ 0 ≤ t.getD a 0 ∧ t.getD a 0 + ca.getD b 0 < 400000 := by
  unfold spr at h
  split at h
  · cases h
  · rename_i hc'
    simp only [not_or, Int.not_le, Int.not_lt] at hc'
    obtain ⟨h1, h2, h3⟩ := hc'
    simp only [Option.some.injEq] at h
    have hk : known t ≤ n := hg.len ▸ known_le t
    have hva : 0 ≤ t.getD a 0 ∧ t.getD a 0 ≤ 300 * (known t : Int) := by
      rcases hg.val a ha with e | e
      · omega
      · exact e
    have hbl : b < t.length := by rw [hg.len]; exact hb
    have hpot := pot_set t b (t.getD a 0 + ca.getD b 0) hbl
    refine ⟨h.symm, ?_, ?_, by omega, hva.1, by omega⟩
    · subst h
      have hkn : (known (t.set b (t.getD a 0 + ca.getD b 0)) : Int) = if t.getD b 0 = 1000000 then (known t : Int) + 1 else known t := by
        have hv : t.getD a 0 + ca.getD b 0 ≠ 1000000 := by omega
        have hks := known_set t b (t.getD a 0 + ca.getD b 0) hbl
        rw [if_neg hv] at hks
        split
        · rename_i e; rw [if_pos e] at hks; omega
        · rename_i e; rw [if_neg e] at hks; omega
      refine ⟨by simpa using hg.len, fun i hi => ?_⟩
      by_cases e : b = i
      · subst e
        rw [getD_set_self hbl]
        right
        rw [hkn]
        split
        · omega
        · rename_i e2
          rcases hg.val b hb with e3 | e3
          · exact absurd e3 e2
          · omega
      · rw [getD_set_ne' e]
        rcases hg.val i hi with e3 | e3
        · exact .inl e3
        · right
          rw [hkn]
          split <;> omega
    · subst h
      have : (t.getD a 0 + ca.getD b 0).toNat < (t.getD b 0).toNat := by omega
      omega

theorem touch1_ok {n : Nat} {ca bu t : List Int} {x : Touch} (hn : n ≤ 1000) (hca : ∀ i, i < n → 0 ≤ ca.getD i 0 ∧ ca.getD i 0 ≤ 300) (hx : 0 ≤ x.a ∧ x.a < n ∧ 0 ≤ x.b ∧ x.b < n) (hg : Good n t) :
    Good n (touch1 ca bu t x).1 ∧ pot (touch1 ca bu t x).1 ≤ pot t ∧ ((touch1 ca bu t x).2 = true → pot (touch1 ca bu t x).1 < pot t) := by
  have ha : x.a.toNat < n := by omega
  have hb : x.b.toNat < n := by omega
  unfold touch1
  simp only
  have h1 : Good n ((spr ca bu t x.a.toNat x.b.toNat).getD t) ∧ pot ((spr ca bu t x.a.toNat x.b.toNat).getD t) ≤ pot t ∧ ((spr ca bu t x.a.toNat x.b.toNat).isSome = true → pot ((spr ca bu t x.a.toNat x.b.toNat).getD t) < pot t) := by
    cases h : spr ca bu t x.a.toNat x.b.toNat with
    | none => exact ⟨hg, Nat.le_refl _, by simp⟩
    | some t' =>
      obtain ⟨q1, q2, q3, _⟩ := spr_some hg hn ha hb (hca _ hb) h
      exact ⟨q2, by simp; omega, fun _ => by simpa using q3⟩
  obtain ⟨g1, g2, g3⟩ := h1
  generalize (spr ca bu t x.a.toNat x.b.toNat).isSome = s1 at *
  generalize (spr ca bu t x.a.toNat x.b.toNat).getD t = t1 at *
  cases h : spr ca bu t1 x.b.toNat x.a.toNat with
  | none => exact ⟨g1, g2, by simpa using g3⟩
  | some t' =>
    obtain ⟨q1, q2, q3, _⟩ := spr_some g1 hn hb ha (hca _ ha) h
    exact ⟨q2, by simp; omega, fun _ => by simp; omega⟩

theorem rnd_ok {n : Nat} {ca bu : List Int} (hn : n ≤ 1000) (hca : ∀ i, i < n → 0 ≤ ca.getD i 0 ∧ ca.getD i 0 ≤ 300) : ∀ (ts : List Touch) (t : List Int) (m : Bool), (∀ x ∈ ts, 0 ≤ x.a ∧ x.a < n ∧ 0 ≤ x.b ∧ x.b < n) → Good n t →
    Good n (rnd ca bu ts t m).1 ∧ pot (rnd ca bu ts t m).1 ≤ pot t ∧ (m = false → (rnd ca bu ts t m).2 = true → pot (rnd ca bu ts t m).1 < pot t)
  | [], t, m, _, hg => ⟨hg, Nat.le_refl _, fun h1 h2 => by simp [rnd, h1] at h2⟩
  | x :: r, t, m, hts, hg => by
    obtain ⟨q1, q2, q3⟩ := touch1_ok (bu := bu) hn hca (hts x (List.mem_cons_self ..)) hg
    obtain ⟨k1, k2, k3⟩ := rnd_ok (bu := bu) hn hca r (touch1 ca bu t x).1 (m || (touch1 ca bu t x).2) (fun y hy => hts y (List.mem_cons_of_mem _ hy)) q1
    refine ⟨k1, Nat.le_trans k2 q2, fun hm h => ?_⟩
    subst hm
    simp only [rnd] at h ⊢
    generalize (touch1 ca bu t x).2 = s at *
    cases s with
    | true => exact Nat.lt_of_le_of_lt k2 (q3 rfl)
    | false =>
      simp only [Bool.or_false, Bool.false_or] at h k3 ⊢
      have := k3 trivial h
      omega

/-- Enough rounds: a further one makes no difference. -/
theorem iter_enough {n : Nat} {ca bu : List Int} {ts : List Touch} (hn : n ≤ 1000) (hca : ∀ i, i < n → 0 ≤ ca.getD i 0 ∧ ca.getD i 0 ≤ 300) (hts : ∀ x ∈ ts, 0 ≤ x.a ∧ x.a < n ∧ 0 ≤ x.b ∧ x.b < n) : ∀ (k k' : Nat) (t : List Int), Good n t → pot t < k → pot t < k' → iter ca bu ts k t = iter ca bu ts k' t
  | 0, _, t, _, h, _ => by omega
  | _, 0, t, _, _, h => by omega
  | k + 1, k' + 1, t, hg, h1, h2 => by
    obtain ⟨q1, q2, q3⟩ := rnd_ok (bu := bu) hn hca ts t false hts hg
    simp only [iter]
    split
    · rename_i hc
      have := q3 rfl hc
      exact iter_enough hn hca hts k k' _ q1 (by omega) (by omega)
    · rfl

def lits : List Coal → List Int
  | [] => []
  | x :: r => (if x.lit = true then 0 else 1000000) :: lits r
theorem lits_len : ∀ l : List Coal, (lits l).length = l.length
  | [] => rfl
  | x :: r => by simp [lits, lits_len r]
theorem lits_get : ∀ (l : List Coal) (i : Nat) (h : i < l.length), (lits l).getD i 0 = if l[i].lit = true then 0 else 1000000
  | x :: r, 0, h => rfl
  | x :: r, i + 1, h => by simpa [lits] using lits_get r i (by simpa using h)
theorem lits_good (l : List Coal) : Good l.length (lits l) :=
  ⟨lits_len l, fun i hi => by
    rw [lits_get l i hi]
    split
    · right; omega
    · left; rfl⟩
theorem pot_le {n : Nat} : ∀ (t : List Int), (∀ i, i < t.length → t.getD i 0 ≤ 1000000) → pot t ≤ 1000000 * t.length
  | [], _ => by simp [pot]
  | x :: r, h => by
    have h0 := h 0 (by simp)
    have h1 := pot_le (n := n) r (fun i hi => by simpa using h (i + 1) (by simpa using hi))
    simp [pot] at h0 ⊢
    omega
/-- When coals begin that burn so. -/
def times (ca bu : List Int) (ts : List Touch) (cs : List Coal) : List Int := iter ca bu ts (1000000 * cs.length + 1) (lits cs)
theorem lits_pot (l : List Coal) : pot (lits l) < 1000000 * l.length + 1 := by
  have := pot_le (n := 0) (lits l) (fun i hi => by
    rw [lits_len] at hi
    rw [lits_get l i hi]; split <;> omega)
  rw [lits_len] at this
  omega
end Go.Gh


/- When coals begin: the reference. -/
namespace Go.Gh
open Go.Proofs
set_option linter.unusedSimpArgs false
set_option linter.unusedVariables false
set_option maxRecDepth 100000
set_option maxHeartbeats 2000000

variable {keep : Nat → Bool} (hk : ∀ f, kept f = false → keep f = false) {c : Nat} {H : Heap}

theorem getD_eq {t : List Int} {i : Nat} (h : i < t.length) : t.getD i 0 = t[i] := by simp [List.getD_eq_getElem?_getD, h]
@[simp] theorem irow_len (x : Int) : (irow x).length = 1 := rfl
theorem map_set_irow (t : List Int) (i : Nat) (v : Int) : (t.map irow).set i [.int .i64 v] = (t.set i v).map irow := by
  rw [List.map_set]; rfl

section
variable {ca bu t : List Int} {a b n vf : Nat} {nm : Nm}
include hk in
theorem spread_no (hl : t.length = n) (hca : ca.length = n) (hbu : bu.length = n) (ha : a < n) (hb : b < n) (hv : vf ≤ n) (hg : H.get nm = some (.arr 1 (t.map irow) vf false))
    (hs : t.getD a 0 < 1000000 → -1000000 ≤ t.getD a 0 + ca.getD b 0 ∧ t.getD a 0 + ca.getD b 0 ≤ 10000000) (h : spr ca bu t a b = none) :
    gcall (KC keep) (geval (KC keep)) 99 [.pure (.agg [.slice (ca.map irow), .slice (bu.map irow)]), .hdr nm 1 n 0 n, .pure (.int .i64 a), .pure (.int .i64 b)] c H = some (.pure (.bool false), H) := by
  have hlt := Heap.get_lt hg
  have hne : ¬ nm.1 = H.length := by omega
  refine WPv_eq (call_enterR (KC keep) needT Try.func99 rfl rfl good99 rfl (by simp) (by omega) ?_)
  subst hl
  have ha' : a < bu.length := by omega
  have hb' : b < ca.length := by omega
  rw [getD_eq ha, getD_eq hb'] at hs
  unfold spr at h
  rw [getD_eq ha, getD_eq hb, getD_eq hb', getD_eq ha'] at h
  by_cases h1 : 1000000 ≤ t[a]
  · simp [hne, hg, ha, hb, ha', hb', hv, irow, h1, gleave_free, hk, kept]
  · have hw := hs (by omega)
    have hw' := w64 (x := t[a] + ca[b]) (by omega) (by omega)
    by_cases h2 : bu[a] < ca[b]
    · simp [hne, hg, ha, hb, ha', hb', hv, irow, h1, h2, gleave_free, hk, kept]
    · by_cases h3 : t[b] ≤ t[a] + ca[b]
      · simp [hne, hg, ha, hb, ha', hb', hv, irow, h1, h2, h3, hw', gleave_free, hk, kept]
      · simp [h1, h2, h3] at h
include hk in
theorem spread_yes (hl : t.length = n) (hca : ca.length = n) (hbu : bu.length = n) (ha : a < n) (hb : b < n) (hv : vf ≤ n) (hg : H.get nm = some (.arr 1 (t.map irow) vf false))
    (hs : t.getD a 0 < 1000000 → -1000000 ≤ t.getD a 0 + ca.getD b 0 ∧ t.getD a 0 + ca.getD b 0 ≤ 10000000) {t' : List Int} (h : spr ca bu t a b = some t') :
    gcall (KC keep) (geval (KC keep)) 99 [.pure (.agg [.slice (ca.map irow), .slice (bu.map irow)]), .hdr nm 1 n 0 n, .pure (.int .i64 a), .pure (.int .i64 b)] c H = some (.pure (.bool true), H.set nm (.arr 1 (t'.map irow) n false)) := by
  have hlt := Heap.get_lt hg
  have hne : ¬ nm.1 = H.length := by omega
  refine WPv_eq (call_enterR (KC keep) needT Try.func99 rfl rfl good99 rfl (by simp) (by omega) ?_)
  subst hl
  have ha' : a < bu.length := by omega
  have hb' : b < ca.length := by omega
  rw [getD_eq ha, getD_eq hb'] at hs
  unfold spr at h
  rw [getD_eq ha, getD_eq hb, getD_eq hb', getD_eq ha'] at h
  by_cases h1 : 1000000 ≤ t[a]
  · simp [h1] at h
  · have hw := hs (by omega)
    have hw' := w64 (x := t[a] + ca[b]) (by omega) (by omega)
    by_cases h2 : bu[a] < ca[b]
    · simp [h2] at h
    · by_cases h3 : t[b] ≤ t[a] + ca[b]
      · simp [h3] at h
      · simp [h1, h2, h3] at h
        subst h
        simp [hne, hg, ha, hb, ha', hb', hv, irow, h1, h2, h3, hw', gleave_free, hk, kept]
end

theorem lits_take (l : List Coal) : ∀ (i : Nat) (h : i < l.length), lits (l.take (i + 1)) = lits (l.take i) ++ [if l[i].lit = true then 0 else 1000000] := by
  induction l with
  | nil => intro i h; simp at h
  | cons x r ih =>
    intro i h
    cases i with
    | zero => simp [lits]
    | succ i =>
      have := ih i (by simpa using h)
      simp [lits, this]

def tfr (cs : List Coal) (ts : List Touch) (ca bu : List Int) (k0 vf : Nat) (t : List Int) : Fr :=
  [(2, .box [.pure (.slice (cs.map Coal.row)), .pure (.slice (ts.map Touch.row))]), (3, .box [.pure (.slice (ca.map irow)), .pure (.slice (bu.map irow))]), (k0, .arr 1 (t.map irow) vf false)]

theorem times_loop0 (cs : List Coal) (ts : List Touch) (ca bu : List Int) (hn : cs.length ≤ 1000) (k0 : Nat) (h2 : ¬ k0 = 2) (h3 : ¬ k0 = 3) (h4 : ¬ k0 < 3) (Q : GX → GSt → Prop) (hH : 0 < H.length) : ∀ k i : Nat, i + k = cs.length → 0 < i →
    Q (.exit 0) ⟨[(2, .bptr (H.length, 2) 0), (3, .bptr (H.length, 3) 0), (5, .hdr (H.length, k0) 1 cs.length 0 cs.length)], tfr cs ts ca bu k0 0 (lits cs) :: H, 66⟩ →
    WPL (KC keep) needT 91 (lp Try.f91 0) [2, 3, 5, 6] [2, 3, 5] Q [(2, .bptr (H.length, 2) 0), (3, .bptr (H.length, 3) 0), (5, .hdr (H.length, k0) 1 i 0 i), (6, .pure (.int .i64 i))] (tfr cs ts ca bu k0 0 (lits (cs.take i)) :: H) 66 := by
  have h2' : ¬ 2 = k0 := fun e => h2 e.symm
  have h3' : ¬ 3 = k0 := fun e => h3 e.symm
  have h5 : ¬ k0 < 2 := by omega
  intro k
  induction k with
  | zero =>
    intro i hi h0 h1
    apply WPL_step
    conv => arg 4; whnf
    have : ¬ i < cs.length := by omega
    have e : i = cs.length := by omega
    subst e
    simp [hH, tfr]
    simpa [tfr] using h1
  | succ k ih =>
    intro i hi h0 h1
    have hia : i < cs.length := by omega
    have hw := w64 (x := (i : Int) + 1) (by omega) (by omega)
    have ih' := ih (i + 1) (by omega) (by omega) h1
    have hlen : (lits (cs.take i)).length = i := by rw [lits_len]; simp; omega
    have hb : (i + 1) * 8 ≤ 1099511627776 := by omega
    rw [lits_take cs i hia] at ih'
    apply WPL_step
    conv => arg 4; whnf
    by_cases hx : cs[i].lit = true
    · simp [hia, hH, Coal.row, hx, hw, tfr, h2, h3, h2', h3', h4, h5, hlen, hb]
      simp [hx, tfr, irow] at ih'
      exact ih'
    · simp [hia, hH, Coal.row, hx, hw, tfr, h2, h3, h2', h3', h4, h5, hlen, hb]
      simp [hx, tfr, irow] at ih'
      exact ih'

include hk in
theorem times_loop2 (cs : List Coal) (ts : List Touch) (ca bu : List Int) {n : Nat} (hn : n ≤ 1000) (hla : ca.length = n) (hlb : bu.length = n) (hca : ∀ i, i < n → 0 ≤ ca.getD i 0 ∧ ca.getD i 0 ≤ 300)
    (hts : ∀ x ∈ ts, 0 ≤ x.a ∧ x.a < n ∧ 0 ≤ x.b ∧ x.b < n) (htl : ts.length ≤ 1000) (k0 : Nat) (h2 : ¬ k0 = 2) (h3 : ¬ k0 = 3) (h4 : ¬ k0 < 3) (Q : GX → GSt → Prop) (hH : 0 < H.length) : ∀ (k i : Nat) (t : List Int) (m : Bool) (vf : Nat), i + k = ts.length → Good n t → vf ≤ n →
    (∀ vf', vf' ≤ n → Q (.exit 4) ⟨[(2, .bptr (H.length, 2) 0), (3, .bptr (H.length, 3) 0), (5, .hdr (H.length, k0) 1 n 0 n), (7, .pure (.bool (rnd ca bu (ts.drop i) t m).2))], [] :: tfr cs ts ca bu k0 vf' (rnd ca bu (ts.drop i) t m).1 :: H, 66⟩) →
    WPL (KC keep) needT 91 (lp Try.f91 2) [2, 3, 5, 7, 8] [2, 3, 5, 7] Q [(2, .bptr (H.length, 2) 0), (3, .bptr (H.length, 3) 0), (5, .hdr (H.length, k0) 1 n 0 n), (7, .pure (.bool m)), (8, .pure (.int .i64 i))] ([] :: tfr cs ts ca bu k0 vf t :: H) 66 := by
  have h2' : ¬ 2 = k0 := fun e => h2 e.symm
  have h3' : ¬ 3 = k0 := fun e => h3 e.symm
  have h5 : ¬ k0 < 2 := by omega
  intro k
  induction k with
  | zero =>
    intro i t m vf hi hg hv h1
    have e1 : ts.drop i = [] := List.drop_of_length_le (by omega)
    rw [e1] at h1
    apply WPL_step
    conv => arg 4; whnf
    have : ¬ i < ts.length := by omega
    simp [hH, tfr, this]
    simpa [tfr, rnd] using h1 vf hv
  | succ k ih =>
    intro i t m vf hi hg hv h1
    have hia : i < ts.length := by omega
    have hw := w64 (x := (i : Int) + 1) (by omega) (by omega)
    have hx := hts ts[i] (List.getElem_mem hia)
    have hg1 := (touch1_ok (bu := bu) hn hca hx hg).1
    rw [rnd_drop ca bu ts t m i hia] at h1
    obtain ⟨a, ha⟩ : ∃ a : Nat, ts[i].a = a := ⟨ts[i].a.toNat, by omega⟩
    obtain ⟨b, hb⟩ : ∃ b : Nat, ts[i].b = b := ⟨ts[i].b.toNat, by omega⟩
    have han : a < n := by omega
    have hbn : b < n := by omega
    have hsum : ∀ (t : List Int) (hg : Good n t) (a b : Nat), a < n → b < n → t.getD a 0 < 1000000 → -1000000 ≤ t.getD a 0 + ca.getD b 0 ∧ t.getD a 0 + ca.getD b 0 ≤ 10000000 := by
      intro t hg a b ha hb hlt
      have h1 := hca b hb
      rcases hg.val a ha with e | e
      · omega
      · omega
    have ih' := fun vf hv => ih (i + 1) (touch1 ca bu t ts[i]).1 (m || (touch1 ca bu t ts[i]).2) vf (by omega) hg1 hv h1
    unfold touch1 at ih'
    rw [ha, hb] at ih'
    simp only [Int.toNat_natCast] at ih'
    apply WPL_step
    conv => arg 4; whnf
    cases e1 : spr ca bu t a b with
    | none =>
      rw [e1] at ih'
      have S1 := fun (H : Heap) (nm : Nm) (c : Nat) (hgt : H.get nm = some (.arr 1 (t.map irow) vf false)) => spread_no (c := c) hk hg.len hla hlb han hbn hv hgt (hsum t hg a b han hbn) e1
      cases e2 : spr ca bu t b a with
      | none =>
        simp [e2] at ih'
        have S2 := fun (H : Heap) (nm : Nm) (c : Nat) (hgt : H.get nm = some (.arr 1 (t.map irow) vf false)) => spread_no (c := c) hk hg.len hla hlb hbn han hv hgt (hsum t hg b a hbn han) e2
        cases m with
        | true =>
          simp [hia, hH, Touch.row, ha, hb, tfr, h2, h3, h2', h3', h4, h5, S1, S2, hw]
          simpa [tfr] using ih' vf hv
        | false =>
          simp [hia, hH, Touch.row, ha, hb, tfr, h2, h3, h2', h3', h4, h5, S1, S2, hw]
          simpa [tfr] using ih' vf hv
      | some t2 =>
        simp [e2] at ih'
        have S2 := fun (H : Heap) (nm : Nm) (c : Nat) (hgt : H.get nm = some (.arr 1 (t.map irow) vf false)) => spread_yes (c := c) hk hg.len hla hlb hbn han hv hgt (hsum t hg b a hbn han) e2
        cases m with
        | true =>
          simp [hia, hH, Touch.row, ha, hb, tfr, h2, h3, h2', h3', h4, h5, S1, S2, hw]
          simpa [tfr] using ih' n (Nat.le_refl _)
        | false =>
          simp [hia, hH, Touch.row, ha, hb, tfr, h2, h3, h2', h3', h4, h5, S1, S2, hw]
          simpa [tfr] using ih' n (Nat.le_refl _)
    | some t1 =>
      rw [e1] at ih'
      have hg2 := (spr_some hg hn han hbn (hca b hbn) e1).2.1
      have S1 := fun (H : Heap) (nm : Nm) (c : Nat) (hgt : H.get nm = some (.arr 1 (t.map irow) vf false)) => spread_yes (c := c) hk hg.len hla hlb han hbn hv hgt (hsum t hg a b han hbn) e1
      cases e2 : spr ca bu t1 b a with
      | none =>
        simp [e2] at ih'
        have S2 := fun (H : Heap) (nm : Nm) (c : Nat) (hgt : H.get nm = some (.arr 1 (t1.map irow) n false)) => spread_no (c := c) hk hg2.len hla hlb hbn han (Nat.le_refl _) hgt (hsum t1 hg2 b a hbn han) e2
        cases m with
        | true =>
          simp [hia, hH, Touch.row, ha, hb, tfr, h2, h3, h2', h3', h4, h5, S1, S2, hw]
          simpa [tfr] using ih' n (Nat.le_refl _)
        | false =>
          simp [hia, hH, Touch.row, ha, hb, tfr, h2, h3, h2', h3', h4, h5, S1, S2, hw]
          simpa [tfr] using ih' n (Nat.le_refl _)
      | some t2 =>
        simp [e2] at ih'
        have S2 := fun (H : Heap) (nm : Nm) (c : Nat) (hgt : H.get nm = some (.arr 1 (t1.map irow) n false)) => spread_yes (c := c) hk hg2.len hla hlb hbn han (Nat.le_refl _) hgt (hsum t1 hg2 b a hbn han) e2
        cases m with
        | true =>
          simp [hia, hH, Touch.row, ha, hb, tfr, h2, h3, h2', h3', h4, h5, S1, S2, hw]
          simpa [tfr] using ih' n (Nat.le_refl _)
        | false =>
          simp [hia, hH, Touch.row, ha, hb, tfr, h2, h3, h2', h3', h4, h5, S1, S2, hw]
          simpa [tfr] using ih' n (Nat.le_refl _)
theorem times_done (cs : List Coal) (ts : List Touch) (ca bu : List Int) {n : Nat} (t : List Int) (vf : Nat) (k0 : Nat) (h2 : ¬ k0 = 2) (h3 : ¬ k0 = 3) (Q : GX → GSt → Prop) (hH : 0 < H.length)
    (h1 : Q (.exit 2) ⟨[(5, .hdr (H.length, k0) 1 n 0 n)], tfr cs ts ca bu k0 vf t :: H, 66⟩) :
    WPL (KC keep) needT 91 (lp Try.f91 1) [2, 3, 5, 7] [5] Q [(2, .bptr (H.length, 2) 0), (3, .bptr (H.length, 3) 0), (5, .hdr (H.length, k0) 1 n 0 n), (7, .pure (.bool false))] (tfr cs ts ca bu k0 vf t :: H) 66 := by
  apply WPL_step
  conv => arg 4; whnf
  simp [hH, tfr]
  simpa [tfr] using h1
include hk in
theorem times_loop1 (cs : List Coal) (ts : List Touch) (ca bu : List Int) {n : Nat} (hn : n ≤ 1000) (hla : ca.length = n) (hlb : bu.length = n) (hca : ∀ i, i < n → 0 ≤ ca.getD i 0 ∧ ca.getD i 0 ≤ 300)
    (hts : ∀ x ∈ ts, 0 ≤ x.a ∧ x.a < n ∧ 0 ≤ x.b ∧ x.b < n) (htl : ts.length ≤ 1000) (k0 : Nat) (h2 : ¬ k0 = 2) (h3 : ¬ k0 = 3) (h4 : ¬ k0 < 3) (Q : GX → GSt → Prop) (hH : 0 < H.length) : ∀ (k : Nat) (t : List Int) (vf : Nat), pot t < k → Good n t → vf ≤ n →
    (∀ vf', vf' ≤ n → Q (.exit 2) ⟨[(5, .hdr (H.length, k0) 1 n 0 n)], tfr cs ts ca bu k0 vf' (iter ca bu ts k t) :: H, 66⟩) →
    WPL (KC keep) needT 91 (lp Try.f91 1) [2, 3, 5, 7] [5] Q [(2, .bptr (H.length, 2) 0), (3, .bptr (H.length, 3) 0), (5, .hdr (H.length, k0) 1 n 0 n), (7, .pure (.bool true))] (tfr cs ts ca bu k0 vf t :: H) 66 := by
  intro k
  induction k with
  | zero => intro t vf h; omega
  | succ k ih =>
    intro t vf hp hg hv h1
    obtain ⟨q1, q2, q3⟩ := rnd_ok (bu := bu) hn hca ts t false hts hg
    simp only [iter] at h1
    apply WPL_step
    conv => arg 4; whnf
    simp
    refine times_loop2 hk cs ts ca bu hn hla hlb hca hts htl k0 h2 h3 h4 _ hH ts.length 0 t false vf (by omega) hg hv (fun vf' hv' => ?_)
    simp only [List.drop_zero]
    cases hm : (rnd ca bu ts t false).2 with
    | true =>
      have := q3 rfl hm
      rw [hm] at h1
      simp only [if_true] at h1
      have ih' := ih (rnd ca bu ts t false).1 vf' (by omega) q1 hv' h1
      simpa [hH] using ih'
    | false =>
      rw [hm] at h1
      simp only [Bool.false_eq_true, if_false] at h1
      have hd := times_done (keep := keep) cs ts ca bu (n := n) (rnd ca bu ts t false).1 vf' k0 h2 h3 Q hH (h1 vf' hv')
      simpa [hH] using hd

include hk in
theorem times_ok (cs : List Coal) (ts : List Touch) (ca bu : List Int) (hn : cs.length ≤ 1000) (hla : ca.length = cs.length) (hlb : bu.length = cs.length) (hca : ∀ i, i < cs.length → 0 ≤ ca.getD i 0 ∧ ca.getD i 0 ≤ 300)
    (hts : ∀ x ∈ ts, 0 ≤ x.a ∧ x.a < cs.length ∧ 0 ≤ x.b ∧ x.b < cs.length) (htl : ts.length ≤ 1000) (hH : 0 < H.length) :
    gcall (KC keep) (geval (KC keep)) 91 [.pure (.agg [.slice (cs.map Coal.row), .slice (ts.map Touch.row)]), .pure (.agg [.slice (ca.map irow), .slice (bu.map irow)])] c H = some (.pure (.slice ((times ca bu ts cs).map irow)), H) := by
  refine WPv_eq (call_enter (KC keep) needT Try.func91 rfl rfl good91 rfl (by simp) hH ?_)
  have hlt : ¬ H.length ≤ H.length - 1 := by omega
  by_cases hcs : cs = []
  · subst hcs
    have hts0 : ts = [] := by
      cases ts with
      | nil => rfl
      | cons x r => have := hts x (List.mem_cons_self ..); simp at this; omega
    subst hts0
    simp
    apply WPL_step
    conv => arg 4; whnf
    simp
    apply WPL_step
    conv => arg 4; whnf
    simp
    apply WPL_step
    conv => arg 4; whnf
    simp [hH]
    apply WPL_step
    conv => arg 4; whnf
    simp [hH, gleave_free, hk, kept, times, iter, lits, rnd]
  · have hcs0 : 0 < cs.length := List.length_pos_iff.2 hcs
    have hl1 : lits (cs.take 1) = [if cs[0].lit = true then 0 else 1000000] := by
      have := lits_take cs 0 hcs0
      simpa [lits] using this
    have fin : ∀ (k0 : Nat) (h2 : ¬ k0 = 2) (h3 : ¬ k0 = 3) (h4 : ¬ k0 < 3) (Q : GX → GSt → Prop),
        (∀ vf, vf ≤ cs.length → Q .normal ⟨[(5, .hdr (H.length, k0) 1 cs.length 0 cs.length)], tfr cs ts ca bu k0 vf (times ca bu ts cs) :: H, 66⟩) →
        WPL (KC keep) needT 91 (lp Try.f91 1) [2, 3, 5, 7] [5] (blockQ 2 Q) [(2, .bptr (H.length, 2) 0), (3, .bptr (H.length, 3) 0), (5, .hdr (H.length, k0) 1 cs.length 0 cs.length), (7, .pure (.bool true))] (tfr cs ts ca bu k0 0 (lits cs) :: H) 66 :=
      fun k0 h2 h3 h4 Q hq => times_loop1 hk cs ts ca bu hn hla hlb hca hts htl k0 h2 h3 h4 _ hH (1000000 * cs.length + 1) (lits cs) 0 (lits_pot cs) (lits_good cs) (by omega) (fun vf hv => by simp only [blockQ_exit, if_true]; exact hq vf hv)
    have htl' : (times ca bu ts cs).length = cs.length := by
      have : ∀ (k : Nat) (t : List Int), Good cs.length t → (iter ca bu ts k t).length = cs.length := by
        intro k
        induction k with
        | zero => intro t hg; exact hg.len
        | succ k ih =>
          intro t hg
          have q1 := (rnd_ok (bu := bu) hn hca ts t false hts hg).1
          simp only [iter]
          split
          · exact ih _ q1
          · exact q1.len
      exact this _ _ (lits_good cs)
    simp [hcs]
    apply WPL_step
    conv => arg 4; whnf
    by_cases hx : cs[0].lit = true
    · simp [Coal.row, hx, hcs0]
      have h0 := fun Q hq => times_loop0 (keep := keep) cs ts ca bu hn 27 (by omega) (by omega) (by omega) Q hH (cs.length - 1) 1 (by omega) (by omega) hq
      simp [hl1, hx, tfr, irow] at h0
      refine h0 _ ?_
      simp
      refine fin 27 (by omega) (by omega) (by omega) _ (fun vf hv => ?_)
      simp [tfr, gleave_free, hk, kept, hlt, hv, htl']
      exact List.take_of_length_le (by simp [htl'])
    · simp [Coal.row, hx, hcs0]
      have h0 := fun Q hq => times_loop0 (keep := keep) cs ts ca bu hn 30 (by omega) (by omega) (by omega) Q hH (cs.length - 1) 1 (by omega) (by omega) hq
      simp [hl1, hx, tfr, irow] at h0
      refine h0 _ ?_
      simp
      refine fin 30 (by omega) (by omega) (by omega) _ (fun vf hv => ?_)
      simp [tfr, gleave_free, hk, kept, hlt, hv, htl']
      exact List.take_of_length_le (by simp [htl'])
end Go.Gh


/- When coals begin: the reference's begins, Begins. -/
namespace Go.Gh
open Go.Proofs
set_option linter.unusedSimpArgs false
set_option linter.unusedVariables false
set_option maxRecDepth 100000
set_option maxHeartbeats 4000000

variable {keep : Nat → Bool} (hk : ∀ f, kept f = false → keep f = false) {c : Nat} {H : Heap}

def soonC (cs : List Coal) : List Int := cs.map fun x => x.katch.lo
def soonB (cs : List Coal) : List Int := cs.map fun x => x.burn.hi
def lateC (cs : List Coal) : List Int := cs.map fun x => x.katch.hi
def lateB (cs : List Coal) : List Int := cs.map fun x => x.burn.lo
def mkSpan (a b : Int) : Span := ⟨a, b⟩
noncomputable def beginsL : List Coal → List Touch → List Span := hid fun cs ts => List.zipWith mkSpan (times (soonC cs) (soonB cs) ts cs) (times (lateC cs) (lateB cs) ts cs)
theorem beginsL_def (cs : List Coal) (ts : List Touch) : beginsL cs ts = List.zipWith mkSpan (times (soonC cs) (soonB cs) ts cs) (times (lateC cs) (lateB cs) ts cs) := by rw [beginsL, hid_eq]

/-- A fire that may be. -/
structure FireOk (cs : List Coal) (ts : List Touch) : Prop where
  n : cs.length ≤ 12
  m : ts.length ≤ 40
  coal : ∀ x ∈ cs, 1 ≤ x.katch.lo ∧ x.katch.lo ≤ x.katch.hi ∧ x.katch.hi ≤ 300 ∧ 1 ≤ x.burn.lo ∧ x.burn.lo ≤ x.burn.hi ∧ x.burn.hi ≤ 300 ∧ 0 ≤ x.heat.lo ∧ x.heat.lo ≤ x.heat.hi ∧ x.heat.hi ≤ 1000
  touch : ∀ x ∈ ts, 0 ≤ x.a ∧ x.a < cs.length ∧ 0 ≤ x.b ∧ x.b < cs.length
theorem firstErr_zero {α : Type} {g : α → Int} : ∀ {l : List α}, firstErr g l = 0 → ∀ x ∈ l, g x = 0
  | [], _, x, hx => by cases hx
  | y :: r, h, x, hx => by
    simp only [firstErr] at h
    split at h
    · rename_i hy; exact absurd h hy
    · rename_i hy
      rcases List.mem_cons.1 hx with rfl | hx
      · simpa using hy
      · exact firstErr_zero h x hx
theorem faultF_zero {a b lo hi : Int} (h : faultF a b lo hi = 0) : lo ≤ a ∧ a ≤ b ∧ b ≤ hi := by
  rw [faultF_def] at h
  split at h
  · rename_i h1
    simp [inB] at h1
    split at h
    · omega
    · omega
  · omega
theorem fireOk_of {cs : List Coal} {ts : List Touch} (h : checkF cs ts = 0) : FireOk cs ts := by
  rw [checkF_def] at h
  split at h
  · omega
  · rename_i h1
    split at h
    · rename_i h2; exact absurd h h2
    · rename_i h2
      split at h
      · omega
      · rename_i h3
        refine ⟨by omega, by omega, fun x hx => ?_, fun x hx => ?_⟩
        · have := firstErr_zero (by simpa using h2) x hx
          rw [coalF_def] at this
          split at this
          · rename_i e; exact absurd this e
          · rename_i e1
            split at this
            · rename_i e; exact absurd this e
            · rename_i e2
              have a1 := faultF_zero (by simpa using e1)
              have a2 := faultF_zero (by simpa using e2)
              have a3 := faultF_zero this
              omega
        · have := firstErr_zero h x hx
          rw [touchF_def] at this
          split at this
          · rename_i e
            simp [inB] at e
            omega
          · omega

theorem getD_map_of {cs : List Coal} {f : Coal → Int} {i : Nat} (h : i < cs.length) : (cs.map f).getD i 0 = f cs[i] := by simp [List.getD_eq_getElem?_getD, h]
theorem times_len {ca bu : List Int} {ts : List Touch} {cs : List Coal} (hn : cs.length ≤ 1000) (hca : ∀ i, i < cs.length → 0 ≤ ca.getD i 0 ∧ ca.getD i 0 ≤ 300) (hts : ∀ x ∈ ts, 0 ≤ x.a ∧ x.a < cs.length ∧ 0 ≤ x.b ∧ x.b < cs.length) : (times ca bu ts cs).length = cs.length := by
  have : ∀ (k : Nat) (t : List Int), Good cs.length t → (iter ca bu ts k t).length = cs.length := by
    intro k
    induction k with
    | zero => intro t hg; exact hg.len
    | succ k ih =>
      intro t hg
      have q1 := (rnd_ok (bu := bu) hn hca ts t false hts hg).1
      simp only [iter]
      split
      · exact ih _ q1
      · exact q1.len
  exact this _ _ (lits_good cs)

def bfr (cs : List Coal) (ts : List Touch) (l i : Nat) (a b d e : List Int) (r1 r2 : Bool) : Fr :=
  [(1, .box [.pure (.slice (cs.map Coal.row)), .pure (.slice (ts.map Touch.row))]), (3, .box [.hdr (l, 29) 1 i 0 i, .hdr (l, 36) 1 i 0 i]), (4, .box [.hdr (l, 45) 1 i 0 i, .hdr (l, 52) 1 i 0 i]),
   (29, .arr 1 (a.map irow) 0 r1), (36, .arr 1 (b.map irow) 0 r1), (45, .arr 1 (d.map irow) 0 r2), (52, .arr 1 (e.map irow) 0 r2)]

theorem tk {α : Type} (f : α → List PV) (l : List α) (i : Nat) (h : i < l.length) : (l.map f).take i ++ [f l[i]] = (l.map f).take (i + 1) := by
  rw [List.take_succ_eq_append_getElem (by simpa using h)]
  simp
theorem begins_loop0 (cs : List Coal) (ts : List Touch) (hn : cs.length ≤ 1000) (Q : GX → GSt → Prop) (hH : 0 < H.length) : ∀ k i : Nat, i + k = cs.length → 0 < i →
    Q (.exit 0) ⟨[(1, .bptr (H.length, 1) 0), (3, .bptr (H.length, 3) 0), (4, .bptr (H.length, 4) 0)], bfr cs ts H.length cs.length (soonC cs) (soonB cs) (lateC cs) (lateB cs) false false :: H, 80⟩ →
    WPL (KC keep) needT 70 (lp Try.f70 0) [1, 3, 4, 5] [1, 3, 4] Q [(1, .bptr (H.length, 1) 0), (3, .bptr (H.length, 3) 0), (4, .bptr (H.length, 4) 0), (5, .pure (.int .i64 i))]
      (bfr cs ts H.length i (soonC (cs.take i)) (soonB (cs.take i)) (lateC (cs.take i)) (lateB (cs.take i)) false false :: H) 80 := by
  intro k
  induction k with
  | zero =>
    intro i hi h0 h1
    apply WPL_step
    conv => arg 4; whnf
    have e : i = cs.length := by omega
    subst e
    simp [hH, bfr]
    simpa [bfr] using h1
  | succ k ih =>
    intro i hi h0 h1
    have hia : i < cs.length := by omega
    have hw := w64 (x := (i : Int) + 1) (by omega) (by omega)
    have ih' := ih (i + 1) (by omega) (by omega) h1
    have hb : (i + 1) * 8 ≤ 1099511627776 := by omega
    have ht : cs.take (i + 1) = cs.take i ++ [cs[i]] := by rw [List.take_succ_eq_append_getElem hia]
    have hmin : min i cs.length = i := by omega
    rw [ht] at ih'
    apply WPL_step
    conv => arg 4; whnf
    simp [hia, hH, Coal.row, hw, bfr, hb, soonC, soonB, lateC, lateB, hmin]
    simp [bfr, soonC, soonB, lateC, lateB] at ih'
    have e1 : List.take i (List.map (irow ∘ fun x => x.katch.lo) cs) ++ [[.int .i64 cs[i].katch.lo]] = List.take (i + 1) (List.map (irow ∘ fun x => x.katch.lo) cs) := tk (irow ∘ fun x => x.katch.lo) cs i hia
    have e2 : List.take i (List.map (irow ∘ fun x => x.burn.hi) cs) ++ [[.int .i64 cs[i].burn.hi]] = List.take (i + 1) (List.map (irow ∘ fun x => x.burn.hi) cs) := tk (irow ∘ fun x => x.burn.hi) cs i hia
    have e3 : List.take i (List.map (irow ∘ fun x => x.katch.hi) cs) ++ [[.int .i64 cs[i].katch.hi]] = List.take (i + 1) (List.map (irow ∘ fun x => x.katch.hi) cs) := tk (irow ∘ fun x => x.katch.hi) cs i hia
    have e4 : List.take i (List.map (irow ∘ fun x => x.burn.lo) cs) ++ [[.int .i64 cs[i].burn.lo]] = List.take (i + 1) (List.map (irow ∘ fun x => x.burn.lo) cs) := tk (irow ∘ fun x => x.burn.lo) cs i hia
    rw [e1, e2, e3, e4]
    exact ih'

/-! ### calls with slices that are told as pure ones -/
theorem gcall_frz {K : Ctx} {rec : Rec} {f : Nat} {args args' : List GV} {H H' : Heap} {c : Nat} (h1 : K.frz f = true) (h2 : frzVals H args = (args', H')) (h3 : frzVals H' args' = (args', H')) : gcall K rec f args c H = gcall K rec f args' c H' := by
  unfold gcall
  rw [h1, h2, h3]
  simp
include hk in
theorem times_hdr (cs : List Coal) (ts : List Touch) {ca bu : List Int} {n1 n2 : Nm} {n : Nat} (h12 : n1 ≠ n2) (hn : cs.length ≤ 1000) (hla : ca.length = cs.length) (hlb : bu.length = cs.length) (hca : ∀ i, i < cs.length → 0 ≤ ca.getD i 0 ∧ ca.getD i 0 ≤ 300)
    (hts : ∀ x ∈ ts, 0 ≤ x.a ∧ x.a < cs.length ∧ 0 ≤ x.b ∧ x.b < cs.length) (htl : ts.length ≤ 1000) (hnn : n = cs.length) {r1 r2 : Bool} (h1 : H.get n1 = some (.arr 1 (ca.map irow) 0 r1)) (h2 : H.get n2 = some (.arr 1 (bu.map irow) 0 r2)) :
    gcall (KC keep) (geval (KC keep)) 91 [.pure (.agg [.slice (cs.map Coal.row), .slice (ts.map Touch.row)]), .agg [.hdr n1 1 n 0 n, .hdr n2 1 n 0 n]] c H =
      some (.pure (.slice ((times ca bu ts cs).map irow)), (H.set n1 (.arr 1 (ca.map irow) 0 true)).set n2 (.arr 1 (bu.map irow) 0 true)) := by
  have hl1 := Heap.get_lt h1
  have hl2 := Heap.get_lt h2
  subst hnn
  have g2 : (H.set n1 (.arr 1 (ca.map irow) 0 true)).get n2 = some (.arr 1 (bu.map irow) 0 r2) := by rw [Heap.get_set_other _ h12.symm]; exact h2
  have t1 : List.take cs.length (ca.map irow) = ca.map irow := List.take_of_length_le (by simp [hla])
  have t2 : List.take cs.length (bu.map irow) = bu.map irow := List.take_of_length_le (by simp [hlb])
  rw [gcall_frz (f := 91) (args' := [.pure (.agg [.slice (cs.map Coal.row), .slice (ts.map Touch.row)]), .pure (.agg [.slice (ca.map irow), .slice (bu.map irow)])]) (H' := (H.set n1 (.arr 1 (ca.map irow) 0 true)).set n2 (.arr 1 (bu.map irow) 0 true)) rfl ?_ rfl]
  · exact times_ok hk cs ts ca bu hn hla hlb hca hts htl (by simp; omega)
  · simp [frzVals, frzVal, frzCells, frzCell, h1, g2, hla, hlb, t1, t2]

theorem begins_loop1 (lo hi : List Int) (hlen : lo.length = hi.length) (hn : lo.length ≤ 1000) (F : Fr) (hF : F.get 78 = none) (Q : GX → GSt → Prop) (hH : 0 < H.length) : ∀ k i : Nat, i + k = lo.length →
    Q (.exit 2) ⟨[(9, apS (H.length, 78) 2 ((List.zipWith mkSpan lo hi).map Span.row))], apF 78 2 ((List.zipWith mkSpan lo hi).map Span.row) F :: H, 80⟩ →
    WPL (KC keep) needT 70 (lp Try.f70 1) [7, 8, 9, 10] [9] Q [(7, .pure (.slice (lo.map irow))), (8, .pure (.slice (hi.map irow))), (9, apS (H.length, 78) 2 (((List.zipWith mkSpan lo hi).map Span.row).take i)), (10, .pure (.int .i64 i))]
      (apF 78 2 (((List.zipWith mkSpan lo hi).map Span.row).take i) F :: H) 80 := by
  intro k
  have hzl : (List.zipWith mkSpan lo hi).length = lo.length := by simp [hlen]
  induction k with
  | zero =>
    intro i hi' h1
    have e : List.take i ((List.zipWith mkSpan lo hi).map Span.row) = (List.zipWith mkSpan lo hi).map Span.row := List.take_of_length_le (by simp [hlen]; omega)
    rw [e]
    have : ¬ i < lo.length := by omega
    generalize (List.zipWith mkSpan lo hi).map Span.row = rows at *
    apply WPL_step
    conv => arg 4; whnf
    simp [this, hH]
    exact h1
  | succ k ih =>
    intro i hi' h1
    have hia : i < lo.length := by omega
    have hib : i < hi.length := by omega
    have hw := w64 (x := (i : Int) + 1) (by omega) (by omega)
    have ih' := ih (i + 1) (by omega) h1
    have hiz : i < (List.zipWith mkSpan lo hi).length := by omega
    have e1 := tk Span.row (List.zipWith mkSpan lo hi) i hiz
    have e2 : (List.zipWith mkSpan lo hi)[i] = ⟨lo[i], hi[i]⟩ := by simp [mkSpan]
    rw [e2] at e1
    rw [← e1] at ih'
    have hrl : (((List.zipWith mkSpan lo hi).map Span.row).take i).length = i := by simp [hlen]; omega
    have hb : ((((List.zipWith mkSpan lo hi).map Span.row).take i).length + 1) * 16 ≤ 1099511627776 := by rw [hrl]; omega
    generalize ((List.zipWith mkSpan lo hi).map Span.row).take i = rows at *
    apply WPL_step
    conv => arg 4; whnf
    simp [hia, hib, hH, irow, hw, hF, hb]
    simp [Span.row] at ih'
    exact ih'

include hk in
theorem times_nils (ts : List Touch) (hf : FireOk [] ts) (hH : 0 < H.length) : gcall (KC keep) (geval (KC keep)) 91 [.pure (.agg [.slice [], .slice (ts.map Touch.row)]), .agg [.nils, .nils]] c H = some (.pure (.slice []), H) := by
  have hts0 : ts = [] := by
    cases ts with
    | nil => rfl
    | cons x r => have := hf.touch x (List.mem_cons_self ..); simp at this; omega
  subst hts0
  have T := times_ok (c := c) (H := H) hk [] [] [] [] (by simp) rfl rfl (by simp) (by simp) (by simp) hH
  have e : times [] [] [] [] = [] := rfl
  rw [e] at T
  simp only [List.map_nil] at T
  rw [← T]
  unfold gcall
  have hz : (KC keep).frz 91 = true := rfl
  rw [if_pos hz, if_pos hz]
  unfold gcall0
  rfl
include hk in
theorem beginsR_ok (cs : List Coal) (ts : List Touch) (hf : FireOk cs ts) (hH : 0 < H.length) : gcall (KC keep) (geval (KC keep)) 70 [.pure (.agg [.slice (cs.map Coal.row), .slice (ts.map Touch.row)])] c H = some (.pure (.slice ((beginsL cs ts).map Span.row)), H) := by
  refine WPv_eq (call_enter (KC keep) needT Try.func70 rfl rfl good70 rfl (by simp) hH ?_)
  have hlt : H.length - 1 < H.length := by omega
  have hn : cs.length ≤ 1000 := by have := hf.n; omega
  have htl : ts.length ≤ 1000 := by have := hf.m; omega
  have hc1 : ∀ i, i < cs.length → 0 ≤ (soonC cs).getD i 0 ∧ (soonC cs).getD i 0 ≤ 300 := fun i hi => by
    have := hf.coal cs[i] (List.getElem_mem hi)
    rw [soonC, getD_map_of hi]; omega
  have hc2 : ∀ i, i < cs.length → 0 ≤ (lateC cs).getD i 0 ∧ (lateC cs).getD i 0 ≤ 300 := fun i hi => by
    have := hf.coal cs[i] (List.getElem_mem hi)
    rw [lateC, getD_map_of hi]; omega
  have hL1 := times_len (bu := soonB cs) hn hc1 hf.touch
  have hL2 := times_len (bu := lateB cs) hn hc2 hf.touch
  rw [beginsL_def]
  have hz : (List.zipWith mkSpan (times (soonC cs) (soonB cs) ts cs) (times (lateC cs) (lateB cs) ts cs)).length = cs.length := by simp [hL1, hL2]
  have h1' := fun (F : Fr) (hF : F.get 78 = none) (Q : GX → GSt → Prop) hq => begins_loop1 (keep := keep) (times (soonC cs) (soonB cs) ts cs) (times (lateC cs) (lateB cs) ts cs) (by rw [hL1, hL2]) (by omega) F hF Q hH (times (soonC cs) (soonB cs) ts cs).length 0 (by omega) hq
  simp [apS_nil, apF_nil] at h1'
  by_cases hcs : cs = []
  · subst hcs
    have T := fun (H : Heap) (c : Nat) (hH : 0 < H.length) => times_nils (c := c) hk ts hf hH
    have e1 : times (soonC []) (soonB []) ts [] = [] := List.length_eq_zero_iff.1 hL1
    have e2 : times (lateC []) (lateB []) ts [] = [] := List.length_eq_zero_iff.1 hL2
    simp [e1, e2] at h1'
    simp
    apply WPL_step
    conv => arg 4; whnf
    simp [hH, T]
    refine h1' _ ?_ _ ?_
    · simp
    · simp [e1, e2, gleave_free, hk, kept, apS_nil, apF_nil]
  · have hcs0 : 0 < cs.length := List.length_pos_iff.2 hcs
    have ht1 : cs.take 1 = [cs[0]] := by rw [List.take_succ_eq_append_getElem hcs0]; simp
    have e5 : soonC (cs.take 1) = [cs[0].katch.lo] := by rw [ht1]; rfl
    have e6 : soonB (cs.take 1) = [cs[0].burn.hi] := by rw [ht1]; rfl
    have e7 : lateC (cs.take 1) = [cs[0].katch.hi] := by rw [ht1]; rfl
    have e8 : lateB (cs.take 1) = [cs[0].burn.lo] := by rw [ht1]; rfl
    have h0 := fun Q hq => begins_loop0 (keep := keep) cs ts hn Q hH (cs.length - 1) 1 (by omega) (by omega) hq
    simp [bfr, e5, e6, e7, e8, irow] at h0
    have T1 := fun (H' : Heap) (c : Nat) h1 h2 => times_hdr (H := H') (c := c) hk cs ts (ca := soonC cs) (bu := soonB cs) (n1 := (H.length, 29)) (n2 := (H.length, 36)) (by simp) hn (by simp [soonC]) (by simp [soonB]) hc1 hf.touch htl rfl (r1 := false) (r2 := false) h1 h2
    have T2 := fun (H' : Heap) (c : Nat) h1 h2 => times_hdr (H := H') (c := c) hk cs ts (ca := lateC cs) (bu := lateB cs) (n1 := (H.length, 45)) (n2 := (H.length, 52)) (by simp) hn (by simp [lateC]) (by simp [lateB]) hc2 hf.touch htl rfl (r1 := false) (r2 := false) h1 h2
    simp [hcs]
    apply WPL_step
    conv => arg 4; whnf
    simp [Coal.row, hcs0, hH]
    refine h0 _ ?_
    clear h0
    simp [T1, T2]
    refine h1' _ ?_ _ ?_
    · simp
    · simp [gleave_free, hk, kept, cc_apS, hlt]
include hk in
theorem BeginsR_ok (cs : List Coal) (ts : List Touch) (hH : 0 < H.length) : gcall (KC keep) (geval (KC keep)) 24 [.pure (.agg [.slice (cs.map Coal.row), .slice (ts.map Touch.row)])] c H =
    some (.pure (.tuple [.slice (if checkF cs ts = 0 then (beginsL cs ts).map Span.row else []), .int .i64 (checkF cs ts)]), H) := by
  refine WPv_eq (call_enter (KC keep) needT Try.func24 rfl rfl good24 rfl (by simp) hH ?_)
  by_cases h : checkF cs ts = 0
  · have hf := fireOk_of h
    simp [checkR_ok hk, h, beginsR_ok hk cs ts hf, gleave_free, hk, kept]
  · have h' : (checkF cs ts != 0) = true := by simpa using h
    simp [checkR_ok hk, h, h', gleave_free, hk, kept]
end Go.Gh

/- The rite's data; calls with lent slices; the kit's functions on boxes of numbers; the chapter's examples. -/
import Derived.Test.YtkcmcjohoockcaaGs
import Derived.Test.YtkcmcjohoockcaaGw
namespace Go.Gh
open Go.Proofs
set_option linter.unusedSimpArgs false
set_option linter.unusedVariables false
set_option maxRecDepth 100000
structure Person where
  role : Int
  cell : Int
  deriving DecidableEq
structure Thing where
  cell : Int
  state : Int
  home : Int
  want : Int
  cloth : Bool
  deriving DecidableEq
structure RAct where
  at' : Int
  who : Int
  kind : Int
  hand : Int
  thing : Int
  cell : Int
  other : Int
  seasons : Int
  rank : Int
  deriving DecidableEq
structure Spot where
  cell : Int
  state : Int
  deriving DecidableEq
structure Hands where
  l : Int
  r : Int
  deriving DecidableEq
structure Rite where
  wide : Int
  deep : Int
  people : List Person
  things : List Thing
  seen : List Int
  lapses : List Int
  acts : List RAct
  deriving DecidableEq
structure Scene where
  people : List Int
  hands : List Hands
  things : List Spot
  deriving DecidableEq
def Person.row (p : Person) : List PV := [.int .i64 p.role, .int .i64 p.cell]
def Thing.row (t : Thing) : List PV := [.int .i64 t.cell, .int .i64 t.state, .int .i64 t.home, .int .i64 t.want, .bool t.cloth]
def RAct.row (a : RAct) : List PV := [.int .i64 a.at', .int .i64 a.who, .int .i64 a.kind, .int .i64 a.hand, .int .i64 a.thing, .int .i64 a.cell, .int .i64 a.other, .int .i64 a.seasons, .int .i64 a.rank]
def Spot.row (s : Spot) : List PV := [.int .i64 s.cell, .int .i64 s.state]
def Hands.row (h : Hands) : List PV := [.int .i64 h.l, .int .i64 h.r]
def irow (n : Int) : List PV := [.int .i64 n]
def Rite.row (r : Rite) : List PV := [.int .i64 r.wide, .int .i64 r.deep, .slice (r.people.map Person.row), .slice (r.things.map Thing.row), .slice (r.seen.map irow), .slice (r.lapses.map irow), .slice (r.acts.map RAct.row)]
def Scene.row (s : Scene) : List PV := [.slice (s.people.map irow), .slice (s.hands.map Hands.row), .slice (s.things.map Spot.row)]
@[simp] theorem KC_keep {f : Nat} : KC.keep f = keepL.contains f := .trans rfl rfl
attribute [simp] keepL
section
variable {f c : Nat} {H : Heap} {args : List GV} {p : PV}
theorem bor_c (hc : KC.cln f = false) (hb : KC.bor f = true) (hz : (frzVals H args).1.map canon = args) (hq : borBox args = some none) (hfl : flatP p = true) (hH : 0 < H.length)
    (h0 : ∀ H : Heap, 0 < H.length → gcall0 KC (geval KC) f args c H = some (.pure p, H)) : gcall KC (geval KC) f args c H = some (.pure p, H) := bor_flat KC hc hb hz hq hH h0 hfl
end
theorem gcall_geval {K : Ctx} {n : Nat} {f : FuncId} {args : List GV} {c : Nat} {H : Heap} {r : GV × Heap} (h : gcall K (gexec K n) f args c H = some r) : gcall K (geval K) f args c H = some r := by
  obtain ⟨N, hN⟩ := gcall_lim K (F := fun _ => geval K) (rec := gexec K n) (fun fn c st r h => ⟨0, fun _ _ => (geval_iff K).2 (gexec_stable K n _ _ _ _ h)⟩) h
  exact hN N (Nat.le_refl _)
variable {c : Nat} {H : Heap}
def inB (x lo hi : Int) : Bool := decide (lo ≤ x) && decide (x ≤ hi)
theorem in_ok {x lo hi : Int} (hH : 0 < H.length) : gcall KC (geval KC) 41 [.pure (.int .i64 x), .pure (.int .i64 lo), .pure (.int .i64 hi)] c H = some (.pure (.bool (inB x lo hi)), H) := by
  refine bor_c rfl rfl rfl rfl rfl hH fun H hH => ?_
  refine WPv_eq (call_enter0 KC needT Try.func41 rfl rfl good41 (by simp) hH ?_)
  by_cases h : lo ≤ x
  · simp [h, inB, gleave_free]
  · simp [h, inB, gleave_free]
theorem inB_iff {x lo hi : Int} : inB x lo hi = true ↔ lo ≤ x ∧ x ≤ hi := by simp [inB]
theorem awake_run (fr : Fr) (c : Nat) : gcall KC (gexec KC 4000) 10 [] c [fr, []] = some (.pure (.bool true), [fr, []]) := by
  kernel_rfl
theorem awake_ok (fr : Fr) (c : Nat) : gcall KC (geval KC) 10 [] c [fr, []] = some (.pure (.bool true), [fr, []]) := gcall_geval (awake_run fr c)
end Go.Gh


/- The kit's functions: boxes of numbers. -/
namespace Go.Gh
open Go.Proofs
set_option linter.unusedSimpArgs false
set_option linter.unusedVariables false
set_option maxRecDepth 100000
variable {c : Nat} {H : Heap}
noncomputable def turnS : Int → Int := hid fun w => IntKind.u64.wrap (w + 11507291218515648293)
theorem turnS_def (w : Int) : turnS w = IntKind.u64.wrap (w + 11507291218515648293) := by rw [turnS, hid_eq]
def xors (x n : Int) : Int := bxor .u64 x (x.fdiv n)
noncomputable def turnV : Int → Int := hid fun w => xors (IntKind.u64.wrap (xors (IntKind.u64.wrap (xors (IntKind.u64.wrap (w + 11507291218515648293)) 4294967296 * 15485907386658061715)) 536870912 * 14029467366897019727)) 4294967296
theorem turnV_def (w : Int) : turnV w = xors (IntKind.u64.wrap (xors (IntKind.u64.wrap (xors (IntKind.u64.wrap (w + 11507291218515648293)) 4294967296 * 15485907386658061715)) 536870912 * 14029467366897019727)) 4294967296 := by rw [turnV, hid_eq]
theorem u64_rng (x : Int) : 0 ≤ IntKind.u64.wrap x ∧ IntKind.u64.wrap x ≤ 18446744073709551615 := by rw [IntKind.wrap_u64]; omega
theorem turnV_rng (w : Int) : 0 ≤ turnV w ∧ turnV w ≤ 18446744073709551615 := by rw [turnV_def]; exact u64_rng _
@[simp] theorem bits_u64 : IntKind.u64.bits = 64 := rfl
@[simp] theorem bits_i64 : IntKind.i64.bits = 64 := rfl
theorem turn_ok {nm : Nm} (hB : isBox H nm) : gcall KC (geval KC) 39 [.bptr nm 0] c H = some (.pure (.int .u64 (turnV (wordAt H nm))), H.set nm (wbox (turnS (wordAt H nm)))) := by
  have hl := isBox_lt hB
  have hg := isBox_get hB
  refine WPv_eq (call_enter KC needT Try.func39 rfl rfl good39 rfl rfl rfl (by simp) (by omega) ?_)
  have hne : ¬ nm.1 = H.length := by omega
  have h1 : (IntKind.u64.wrap 32) = 32 := rfl
  generalize wordAt H nm = w at *
  unfold wbox at *
  simp [hne, hl, hg, gleave_free, turnV_def, turnS_def, xors]
noncomputable def upR : Int → Int → Int × Int := hid fun w n =>
  if n < 2 then (0, w) else (IntKind.i64.wrap (((turnV w).fdiv 2).tmod (IntKind.u64.wrap n)), turnS w)
theorem upR_def (w : Int) (n : Int) : upR w n =
  (if n < 2 then (0, w) else (IntKind.i64.wrap (((turnV w).fdiv 2).tmod (IntKind.u64.wrap n)), turnS w)) := by rw [upR, hid_eq]
theorem upR_rng (w n : Int) (h : n ≤ 9223372036854775807) : 0 ≤ (upR w n).1 ∧ ((upR w n).1 < n ∨ (upR w n).1 = 0) := by
  rw [upR_def]
  split
  · simp
  · have h1 := turnV_rng w
    have h2 : IntKind.u64.wrap n = n := by rw [IntKind.wrap_u64]; omega
    have h3 : 0 ≤ (turnV w).fdiv 2 := Int.fdiv_nonneg h1.1 (by omega)
    rw [h2, Int.tmod_eq_emod_of_nonneg h3]
    have h4 := Int.emod_nonneg ((turnV w).fdiv 2) (show n ≠ 0 by omega)
    have h5 := Int.emod_lt_of_pos ((turnV w).fdiv 2) (show 0 < n by omega)
    rw [w64 (by omega) (by omega)]
    exact ⟨h4, .inl h5⟩
theorem up_ok {nm : Nm} {n : Int} (hB : isBox H nm) (hn : n ≤ 9223372036854775807) : gcall KC (geval KC) 24 [.bptr nm 0, .pure (.int .i64 n)] c H = some (.pure (.int .i64 (upR (wordAt H nm) n).1), H.set nm (wbox (upR (wordAt H nm) n).2)) := by
  have hl := isBox_lt hB
  have hs := isBox_set hB
  refine WPv_eq (call_enter KC needT Try.func24 rfl rfl good24 rfl rfl rfl (by simp) (by omega) ?_)
  have hne : ¬ nm.1 = H.length := by omega
  by_cases h : n < 2
  · simp [h, upR_def, hs, gleave_free]
  · have h2 : IntKind.u64.wrap n = n := by rw [IntKind.wrap_u64]; omega
    have h3 : ¬ n = 0 := by omega
    have h4 : ¬ IntKind.u64.wrap n = 0 := by rw [h2]; exact h3
    simp [h, upR_def, turn_ok (isBox_up hB), wordAt_up hl, Heap.set_up hl, gleave_free, h4]
noncomputable def anyR : Int → Int → Int → Int × Int := hid fun w lo hi =>
  let r := upR w (IntKind.i64.wrap (IntKind.i64.wrap (hi - lo) + 1))
  (IntKind.i64.wrap (lo + r.1), r.2)
theorem anyR_def (w : Int) (lo : Int) (hi : Int) : anyR w lo hi =
  (let r := upR w (IntKind.i64.wrap (IntKind.i64.wrap (hi - lo) + 1))
  (IntKind.i64.wrap (lo + r.1), r.2)) := by rw [anyR, hid_eq]
theorem i64_rng (x : Int) : -9223372036854775808 ≤ IntKind.i64.wrap x ∧ IntKind.i64.wrap x ≤ 9223372036854775807 := by rw [IntKind.wrap_i64]; omega
theorem anyR_rng (w lo hi : Int) (h0 : -4611686018427387903 ≤ lo) (h1 : hi ≤ 4611686018427387903) (h : lo ≤ hi) : lo ≤ (anyR w lo hi).1 ∧ (anyR w lo hi).1 ≤ hi := by
  rw [anyR_def]
  rw [w64 (x := hi - lo) (by omega) (by omega), w64 (x := hi - lo + 1) (by omega) (by omega)]
  have := upR_rng w (hi - lo + 1) (by omega)
  simp only
  rw [w64 (by omega) (by omega)]
  omega
theorem any_ok {nm : Nm} {lo hi : Int} (hB : isBox H nm) : gcall KC (geval KC) 34 [.bptr nm 0, .pure (.int .i64 lo), .pure (.int .i64 hi)] c H = some (.pure (.int .i64 (anyR (wordAt H nm) lo hi).1), H.set nm (wbox (anyR (wordAt H nm) lo hi).2)) := by
  have hl := isBox_lt hB
  refine WPv_eq (call_enter KC needT Try.func34 rfl rfl good34 rfl rfl rfl (by simp) (by omega) ?_)
  have hr := (i64_rng (IntKind.i64.wrap (hi - lo) + 1)).2
  simp [anyR_def, up_ok (isBox_up hB) hr, wordAt_up hl, Heap.set_up hl, gleave_free]
noncomputable def oneR : Int → Int → Bool × Int := hid fun w n =>
  ((upR w n).1 == 0, (upR w n).2)
theorem oneR_def (w : Int) (n : Int) : oneR w n =
  (((upR w n).1 == 0, (upR w n).2)) := by rw [oneR, hid_eq]
theorem one_ok {nm : Nm} {n : Int} (hB : isBox H nm) (hn : n ≤ 9223372036854775807) : gcall KC (geval KC) 22 [.bptr nm 0, .pure (.int .i64 n)] c H = some (.pure (.bool (oneR (wordAt H nm) n).1), H.set nm (wbox (oneR (wordAt H nm) n).2)) := by
  have hl := isBox_lt hB
  refine WPv_eq (call_enter KC needT Try.func22 rfl rfl good22 rfl rfl rfl (by simp) (by omega) ?_)
  simp [oneR_def, up_ok (isBox_up hB) hn, wordAt_up hl, Heap.set_up hl, gleave_free]
noncomputable def pickR : Int → List Int → Int × Int := hid fun w l =>
  if l.length = 0 then (0, w) else (l.getD (upR w l.length).1.toNat 0, (upR w l.length).2)
theorem pickR_def (w : Int) (l : List Int) : pickR w l =
  (if l.length = 0 then (0, w) else (l.getD (upR w l.length).1.toNat 0, (upR w l.length).2)) := by rw [pickR, hid_eq]
theorem pick_ok {nm : Nm} {l : List Int} (hB : isBox H nm) (hn : l.length < 4611686018427387904) : gcall KC (geval KC) 26 [.bptr nm 0, .pure (.slice (l.map irow))] c H = some (.pure (.int .i64 (pickR (wordAt H nm) l).1), H.set nm (wbox (pickR (wordAt H nm) l).2)) := by
  have hl := isBox_lt hB
  have hs := isBox_set hB
  refine WPv_eq (call_enter KC needT Try.func26 rfl rfl good26 rfl rfl rfl (by simp) (by omega) ?_)
  by_cases h : l.length = 0
  · obtain rfl : l = [] := List.length_eq_zero_iff.1 h
    simp [pickR_def, hs, gleave_free]
  · have h2 : ((l.length : Int) == 0) = false := beq_eq_false_iff_ne.2 (by omega)
    have hr := upR_rng (wordAt H nm) l.length (by omega)
    have h3 : ¬ (upR (wordAt H nm) l.length).1 < 0 := by omega
    have h4 : (upR (wordAt H nm) l.length).1.toNat < l.length := by have := hr; clear hl hs hB; omega
    simp [h, h2, pickR_def, up_ok (isBox_up hB) (show (l.length : Int) ≤ 9223372036854775807 by omega), wordAt_up hl, Heap.set_up hl, gleave_free, h3, h4, irow]
theorem gleave_keep {K : Ctx} {f : Nat} {c : Nat} {r : GV} {fr : Fr} (h : K.keep f = true) : gleave K f c r (fr :: H) = (match moveOut fr H c (dedup (refs H.length r)) H with | some H' => some (ren H.length c r, H') | none => none) := by
  unfold gleave; simp only [h, if_true]; rfl
theorem box_loop (l : List Int) (hn : l.length ≤ 9223372036854775807) (Q : GX → GSt → Prop) (hH : 0 < H.length) : ∀ (k i : Nat) (w : Int), i + k = l.length →
    (∀ w', Q (.exit 0) ⟨[(3, .bptr (H.length, 6) 0)], [(6, wbox w')] :: H, 30⟩) →
    WPL KC needT 13 (lp Try.f13 0) [0, 3, 4] [3] Q [(0, .pure (.slice (l.map irow))), (3, .bptr (H.length, 6) 0), (4, .pure (.int .i64 i))] ([(6, wbox w)] :: H) 30 := by
  intro k
  induction k with
  | zero =>
    intro i w hi h1
    have hia : ¬ i < l.length := by omega
    apply WPL_step
    conv => arg 4; whnf
    simp [hia, hH]
    exact h1 w
  | succ k ih =>
    intro i w hi h1
    have hia : i < l.length := by omega
    have hw := w64 (x := (i : Int) + 1) (by omega) (by omega)
    have ih' := fun w => ih (i + 1) w (by omega) h1
    apply WPL_step
    conv => arg 4; whnf
    have T := fun (v : Int) (c : Nat) => turn_ok (c := c) (H := [] :: [(6, wbox v)] :: H) (nm := (H.length, 6)) ⟨v, by simp, by simp⟩
    simp [wordAt, wbox] at T
    simp [hia, hH, irow, hw, wbox, T]
    simpa [wbox] using ih' _
theorem BoxOf_ok (l : List Int) (hn : l.length ≤ 9223372036854775807) (hH : 0 < H.length) (hfree : H.get (H.length - 1, newKey c 6) = none) :
    ∃ w, gcall KC (geval KC) 13 [.pure (.slice (l.map irow))] c H = some (.bptr (H.length - 1, newKey c 6) 0, H.set (H.length - 1, newKey c 6) (wbox w)) := by
  have key : WPv (gcall KC (geval KC) 13 [.pure (.slice (l.map irow))] c H) (fun x => ∃ w, x = (.bptr (H.length - 1, newKey c 6) 0, H.set (H.length - 1, newKey c 6) (wbox w))) := by
    refine call_enter KC needT Try.func13 rfl rfl good13 rfl rfl rfl (by simp) hH ?_
    have h0 := fun Q hq => box_loop l hn Q hH l.length 0 2685821657736338717 (by omega) hq
    simp [wbox] at h0
    simp
    refine h0 _ (fun w => ?_)
    simp [gleave_keep, KC_keep, refs, refs2, refs1, dedup, moveOut, cleanBlk, hfree, ren, ren2, ren1]
    exact ⟨w, rfl⟩
  obtain ⟨r, e1, w, e2⟩ := key
  exact ⟨w, by rw [e1, e2]⟩
end Go.Gh


/- Rites that may be: what the program checks of a room. -/
namespace Go.Gh
open Go.Proofs
set_option linter.unusedSimpArgs false
set_option linter.unusedVariables false
set_option maxRecDepth 100000
set_option maxHeartbeats 1000000
variable {c : Nat} {H : Heap}
@[simp] theorem wrap_1 : IntKind.i64.wrap 1 = 1 := rfl
@[simp] theorem wrap_0 : IntKind.i64.wrap 0 = 0 := rfl
noncomputable def topC : Int → Int → Int := hid fun w d => IntKind.i64.wrap (IntKind.i64.wrap (w * d) - 1)
theorem topC_def (w d : Int) : topC w d = IntKind.i64.wrap (IntKind.i64.wrap (w * d) - 1) := by rw [topC, hid_eq]
theorem cells_ok {w d : Int} {x1 x2 x3 x4 x5 : PV} (hH : 0 < H.length) : gcall KC (geval KC) 86 [.pure (.agg [.int .i64 w, .int .i64 d, x1, x2, x3, x4, x5])] c H = some (.pure (.int .i64 (IntKind.i64.wrap (w * d))), H) := by
  refine bor_c rfl rfl rfl rfl rfl hH fun H hH => ?_
  refine WPv_eq (call_enter0 KC needT Try.func86 rfl rfl good86 (by simp) hH ?_)
  simp [gleave_free]
theorem isCell_ok {w d n : Int} {x1 x2 x3 x4 x5 : PV} (hH : 0 < H.length) : gcall KC (geval KC) 65 [.pure (.agg [.int .i64 w, .int .i64 d, x1, x2, x3, x4, x5]), .pure (.int .i64 n)] c H = some (.pure (.bool (inB n 0 (topC w d))), H) := by
  refine bor_c rfl rfl rfl rfl rfl hH fun H hH => ?_
  refine WPv_eq (call_enter0 KC needT Try.func65 rfl rfl good65 (by simp) hH ?_)
  simp [gleave_free, cells_ok, in_ok, topC_def]
def firstI (g : Nat → Int) : Nat → Nat → Int
  | 0, _ => 0
  | k + 1, i => if g i ≠ 0 then g i else firstI g k (i + 1)
noncomputable def ascF : (Int → Bool) → Int → List Int → Nat → Int := hid fun p e l i => if p (l.getD i 0) = false then e else if 0 < i ∧ l.getD i 0 ≤ l.getD (i - 1) 0 then 11 else 0
theorem ascF_def (p : Int → Bool) (e : Int) (l : List Int) (i : Nat) : ascF p e l i = if p (l.getD i 0) = false then e else if 0 < i ∧ l.getD i 0 ≤ l.getD (i - 1) 0 then 11 else 0 := by rw [ascF, hid_eq]
theorem asc_loop (l : List Int) (hn : l.length ≤ 4611686018427387904) (p : Int → Bool) (e : Int) (he0 : e ≠ 0) (g : GV) (hg : ∀ (x : Int) (c : Nat) (fr : Fr), gcallee KC (geval KC) g [.pure (.int .i64 x)] c (fr :: H) = some (.pure (.bool (p x)), fr :: H))
    (hcl : ∀ fr, clean (fr :: H) (H.length - 1) g = g) (Q : GX → GSt → Prop) (hH : 0 < H.length) : ∀ k i : Nat, i + k = l.length →
    (firstI (ascF p e l) k i = 0 → Q (.exit 0) ⟨[(6, gdead)], H, 35⟩) → (firstI (ascF p e l) k i ≠ 0 → Q .ret ⟨[(6, .pure (.int .i64 (firstI (ascF p e l) k i)))], H, 35⟩) →
    WPL KC needT 66 (lp Try.f66 0) [0, 1, 2, 9, 10, 11] [6] Q [(0, .pure (.slice (l.map irow))), (1, g), (2, .pure (.int .i64 e)), (9, .pure (.slice (l.map irow))), (10, .pure (.int .i64 l.length)), (11, .pure (.int .i64 i))] H 35 := by
  intro k
  induction k with
  | zero =>
    intro i hi h1 h2
    apply WPL_step
    conv => arg 4; whnf
    have : ¬ i < l.length := by omega
    simp [this, hH]
    exact h1 rfl
  | succ k ih =>
    intro i hi h1 h2
    have hia : i < l.length := by omega
    have hw := w64 (x := (i : Int) + 1) (by omega) (by omega)
    have hw2 := w64 (x := (i : Int) - 1) (by omega) (by omega)
    have ih' := ih (i + 1) (by omega)
    unfold firstI at h1 h2
    have hf := ascF_def p e l i
    have hgi : l.getD i 0 = l[i] := by simp [List.getD_eq_getElem?_getD, hia]
    rw [hgi] at hf
    apply WPL_step
    conv => arg 4; whnf
    by_cases hp : p l[i] = true
    · by_cases h0 : 0 < i
      · have h0' : (0 : Int) < i := by omega
        have hi1 : i - 1 < l.length := by omega
        have hgi1 : l.getD (i - 1) 0 = l[i - 1] := by simp [List.getD_eq_getElem?_getD, hi1]
        have hnn : ¬ (i : Int) - 1 < 0 := by omega
        have htn : ((i : Int) - 1).toNat = i - 1 := by omega
        rw [hgi1] at hf
        by_cases hle : l[i] ≤ l[i - 1]
        · simp [hp, h0, hle] at hf
          simp [hf] at h1 h2
          simp [hia, hH, irow, hg, hp, hw, hw2, h0, h0', hnn, htn, hi1, hle]
          exact h2
        · simp [hp, h0, hle] at hf
          simp [hf] at h1 h2
          simp [hia, hH, irow, hg, hp, hw, hw2, h0, h0', hnn, htn, hi1, hle, hcl]
          simpa [irow] using ih' h1 h2
      · have h00 : i = 0 := by omega
        simp [hp, h0] at hf
        simp [hf] at h1 h2
        subst h00
        simp [hia, hH, irow, hg, hp, hw, hcl]
        simpa [irow] using ih' h1 h2
    · have hp' : p l[i] = false := by simpa using hp
      simp [hp'] at hf
      simp [hf, he0] at h1 h2
      simp [hia, hH, irow, hg, hp']
      exact h2
theorem asc_ok (l : List Int) (hn : l.length ≤ 4611686018427387904) (p : Int → Bool) (e : Int) (he0 : e ≠ 0) (g : GV) (hcan : canon g = g) (hfz : ∀ H, frzVal H g = (g, H)) (hg : ∀ (x : Int) (c : Nat) (f0 fr : Fr), gcallee KC (geval KC) g [.pure (.int .i64 x)] c (f0 :: fr :: H) = some (.pure (.bool (p x)), f0 :: fr :: H))
    (hcl : ∀ f0 fr, clean (f0 :: fr :: H) (H.length) g = g) (hH : 0 < H.length) :
    gcall KC (geval KC) 66 [.pure (.slice (l.map irow)), g, .pure (.int .i64 e)] c H = some (.pure (.int .i64 (firstI (ascF p e l) l.length 0)), H) := by
  refine WPv_eq (call_enter KC needT Try.func66 rfl rfl good66 (by simp [frzVals, hfz]) rfl rfl (by simp) hH ?_)
  simp [hcan]
  refine asc_loop (H := [] :: H) l hn p e he0 g (fun x c fr => hg x c fr []) (fun fr => by simpa using hcl fr []) _ (by simp) l.length 0 (by omega) (fun h => ?_) (fun h => ?_)
  · simp [h, gleave_free]
  · simp [gleave_free]
theorem room1_ok {w d x : Int} {x1 x2 x3 x4 x5 : PV} {nm : Nm} (hg : H.get nm = some (.box [.pure (.int .i64 w), .pure (.int .i64 d), .pure x1, .pure x2, .pure x3, .pure x4, .pure x5])) :
    gcall KC (geval KC) 67 [.pure (.int .i64 x), .bptr nm 0] c H = some (.pure (.bool (inB x 0 (topC w d))), H) := by
  have hl : nm.1 < H.length := Heap.get_lt hg
  have hne : ¬ nm.1 = H.length := by omega
  refine WPv_eq (call_enter KC needT Try.func67 rfl rfl good67 rfl rfl rfl (by simp) (by omega) ?_)
  simp [gleave_free, isCell_ok, hg, hne]
theorem room2_ok {x : Int} (hH : 0 < H.length) :
    gcall KC (geval KC) 68 [.pure (.int .i64 x)] c H = some (.pure (.bool (inB x 1 3)), H) := by
  refine WPv_eq (call_enter KC needT Try.func68 rfl rfl good68 rfl rfl rfl (by simp) hH ?_)
  simp [gleave_free, in_ok]
def sameCell (ps : List Person) (i : Nat) (x : Int) : Bool := (ps.take i).any fun q => q.cell == x
noncomputable def personF : Int → List Person → Nat → Int := hid fun t ps i =>
  if inB (ps.getD i ⟨0, 0⟩).role 1 3 = false then 4 else if inB (ps.getD i ⟨0, 0⟩).cell 0 t = false then 7 else if sameCell ps i (ps.getD i ⟨0, 0⟩).cell = true then 12 else 0
theorem personF_def (t : Int) (ps : List Person) (i : Nat) : personF t ps i =
  if inB (ps.getD i ⟨0, 0⟩).role 1 3 = false then 4 else if inB (ps.getD i ⟨0, 0⟩).cell 0 t = false then 7 else if sameCell ps i (ps.getD i ⟨0, 0⟩).cell = true then 12 else 0 := by rw [personF, hid_eq]
noncomputable def thingF : Int → List Thing → Nat → Int := hid fun t ts i =>
  if inB (ts.getD i ⟨0, 0, 0, 0, false⟩).cell 0 t = false ∨ inB (ts.getD i ⟨0, 0, 0, 0, false⟩).home 0 t = false then 7 else if inB (ts.getD i ⟨0, 0, 0, 0, false⟩).state 0 15 = false ∨ inB (ts.getD i ⟨0, 0, 0, 0, false⟩).want 0 15 = false then 2 else 0
theorem thingF_def (t : Int) (ts : List Thing) (i : Nat) : thingF t ts i =
  if inB (ts.getD i ⟨0, 0, 0, 0, false⟩).cell 0 t = false ∨ inB (ts.getD i ⟨0, 0, 0, 0, false⟩).home 0 t = false then 7 else if inB (ts.getD i ⟨0, 0, 0, 0, false⟩).state 0 15 = false ∨ inB (ts.getD i ⟨0, 0, 0, 0, false⟩).want 0 15 = false then 2 else 0 := by rw [thingF, hid_eq]
noncomputable def roomF : Rite → Int := hid fun r =>
  if inB r.wide 1 6 = false ∨ inB r.deep 1 6 = false then 2 else if r.people.length = 0 then 6 else if 4 < r.people.length then 8
  else if firstI (personF (topC r.wide r.deep) r.people) r.people.length 0 ≠ 0 then firstI (personF (topC r.wide r.deep) r.people) r.people.length 0
  else if 8 < r.things.length then 8
  else if firstI (thingF (topC r.wide r.deep) r.things) r.things.length 0 ≠ 0 then firstI (thingF (topC r.wide r.deep) r.things) r.things.length 0
  else if firstI (ascF (fun x => inB x 0 (topC r.wide r.deep)) 7 r.seen) r.seen.length 0 ≠ 0 then firstI (ascF (fun x => inB x 0 (topC r.wide r.deep)) 7 r.seen) r.seen.length 0
  else firstI (ascF (fun x => inB x 1 3) 4 r.lapses) r.lapses.length 0
theorem roomF_def (r : Rite) : roomF r =
  if inB r.wide 1 6 = false ∨ inB r.deep 1 6 = false then 2 else if r.people.length = 0 then 6 else if 4 < r.people.length then 8
  else if firstI (personF (topC r.wide r.deep) r.people) r.people.length 0 ≠ 0 then firstI (personF (topC r.wide r.deep) r.people) r.people.length 0
  else if 8 < r.things.length then 8
  else if firstI (thingF (topC r.wide r.deep) r.things) r.things.length 0 ≠ 0 then firstI (thingF (topC r.wide r.deep) r.things) r.things.length 0
  else if firstI (ascF (fun x => inB x 0 (topC r.wide r.deep)) 7 r.seen) r.seen.length 0 ≠ 0 then firstI (ascF (fun x => inB x 0 (topC r.wide r.deep)) 7 r.seen) r.seen.length 0
  else firstI (ascF (fun x => inB x 1 3) 4 r.lapses) r.lapses.length 0 := by rw [roomF, hid_eq]
def rbox (r : Rite) : Blk := .box [.pure (.int .i64 r.wide), .pure (.int .i64 r.deep), .pure (.slice (r.people.map Person.row)), .pure (.slice (r.things.map Thing.row)), .pure (.slice (r.seen.map irow)), .pure (.slice (r.lapses.map irow)), .pure (.slice (r.acts.map RAct.row))]
theorem sameCell_succ (ps : List Person) (i : Nat) (h : i < ps.length) (x : Int) : sameCell ps (i + 1) x = (sameCell ps i x || ps[i].cell == x) := by
  unfold sameCell
  rw [List.take_succ_eq_append_getElem h, List.any_append]
  simp
/-- Somebody ahead in the same cell. -/
theorem same_loop (ps : List Person) (n : Nat) (hn : n ≤ ps.length) (hl : ps.length ≤ 4) (p : Person) (r : Rite) (g30 g31 g32 : PV) (Q : GX → GSt → Prop) (f0 : Fr) (hf0 : f0 = [(4, .box [.pure (.int .i64 p.role), .pure (.int .i64 p.cell)])]) :
    ∀ k i : Nat, i + k = n → sameCell ps i p.cell = false →
    (sameCell ps n p.cell = false → Q (.exit 4) ⟨[(1, .bptr (H.length, 1) 0), (2, gdead), (30, .pure g30), (31, .pure g31), (32, .pure g32)], f0 :: [(1, rbox r)] :: H, 106⟩) →
    (sameCell ps n p.cell = true → Q .ret ⟨[(1, .bptr (H.length, 1) 0), (2, .pure (.int .i64 12)), (30, .pure g30), (31, .pure g31), (32, .pure g32)], f0 :: [(1, rbox r)] :: H, 106⟩) →
    WPL KC needT 40 (lp Try.f40 1) [1, 4, 30, 31, 32, 51, 52, 53] [1, 2, 30, 31, 32] Q
      [(1, .bptr (H.length, 1) 0), (4, .bptr (H.length + 1, 4) 0), (30, .pure g30), (31, .pure g31), (32, .pure g32), (51, .pure (.slice ((ps.take n).map Person.row))), (52, .pure (.int .i64 n)), (53, .pure (.int .i64 i))] (f0 :: [(1, rbox r)] :: H) 106 := by
  subst hf0
  intro k
  induction k with
  | zero =>
    intro i hi hs h1 h2
    have e : i = n := by omega
    subst e
    apply WPL_step
    conv => arg 4; whnf
    simp [rbox]
    exact h1 hs
  | succ k ih =>
    intro i hi hs h1 h2
    have hin : i < n := by omega
    have hil : i < ps.length := by omega
    have hw := w64 (x := (i : Int) + 1) (by omega) (by omega)
    have hs1 := sameCell_succ ps i hil p.cell
    apply WPL_step
    conv => arg 4; whnf
    by_cases he : ps[i].cell = p.cell
    · have ht : sameCell ps n p.cell = true := by
        unfold sameCell
        rw [List.any_eq_true]
        exact ⟨ps[i], List.mem_take_iff_getElem.2 ⟨i, by omega, rfl⟩, by simp [he]⟩
      simp [hin, hil, hw, rbox, Person.row, he]
      exact h2 ht
    · have hs' : sameCell ps (i + 1) p.cell = false := by rw [hs1, hs]; simpa using he
      have he' : (ps[i].cell == p.cell) = false := by simpa using he
      simp [hin, hil, hw, rbox, Person.row, he']
      simpa [rbox] using ih (i + 1) (by omega) hs' h1 h2
end Go.Gh


/- Rites that may be: what the program checks of a room, the whole. -/
namespace Go.Gh
open Go.Proofs
set_option linter.unusedSimpArgs false
set_option linter.unusedVariables false
set_option maxRecDepth 100000
set_option maxHeartbeats 2000000
variable {c : Nat} {H : Heap}
theorem person_loop (r : Rite) (hl : r.people.length ≤ 4) (Q : GX → GSt → Prop) : ∀ k i : Nat, i + k = r.people.length →
    (firstI (personF (topC r.wide r.deep) r.people) k i = 0 → Q (.exit 1) ⟨[(1, .bptr (H.length, 1) 0), (2, gdead)], [(1, rbox r)] :: H, 106⟩) →
    (firstI (personF (topC r.wide r.deep) r.people) k i ≠ 0 → Q .ret ⟨[(1, .bptr (H.length, 1) 0), (2, .pure (.int .i64 (firstI (personF (topC r.wide r.deep) r.people) k i)))], [(1, rbox r)] :: H, 106⟩) →
    WPL KC needT 40 (lp Try.f40 0) [1, 30, 31, 32] [1, 2] Q
      [(1, .bptr (H.length, 1) 0), (30, .pure (.slice (r.people.map Person.row))), (31, .pure (.int .i64 r.people.length)), (32, .pure (.int .i64 i))] ([(1, rbox r)] :: H) 106 := by
  intro k
  induction k with
  | zero =>
    intro i hi h1 h2
    apply WPL_step
    conv => arg 4; whnf
    have : ¬ i < r.people.length := by omega
    simp [this]
    exact h1 rfl
  | succ k ih =>
    intro i hi h1 h2
    have hia : i < r.people.length := by omega
    have hw := w64 (x := (i : Int) + 1) (by omega) (by omega)
    have ih' := ih (i + 1) (by omega)
    unfold firstI at h1 h2
    have hf := personF_def (topC r.wide r.deep) r.people i
    have hgi : r.people.getD i ⟨0, 0⟩ = r.people[i] := by simp [List.getD_eq_getElem?_getD, hia]
    rw [hgi] at hf
    have hmin : min i r.people.length = i := by omega
    have hile : i ≤ r.people.length := by omega
    have hnn : ¬ (r.people.length : Int) < i := by omega
    apply WPL_step
    conv => arg 4; whnf
    by_cases h3 : inB r.people[i].role 1 3 = true
    · by_cases h4 : inB r.people[i].cell 0 (topC r.wide r.deep) = true
      · simp [hia, hile, hmin, Person.row, rbox, in_ok, isCell_ok, h3, h4]
        have L := fun Q => same_loop (H := H) r.people i (by omega) hl r.people[i] r (.slice (r.people.map Person.row)) (.int .i64 r.people.length) (.int .i64 i) Q _ rfl i 0 (by omega) (by simp [sameCell])
        simp [rbox] at L
        refine L _ (fun h5 => ?_) (fun h5 => ?_)
        · simp [h3, h4, h5] at hf
          simp [hf] at h1 h2
          simp [hw]
          simpa [rbox] using ih' h1 h2
        · simp [h3, h4, h5] at hf
          simp [hf] at h1 h2
          simp
          simpa [rbox] using h2
      · have h4' : inB r.people[i].cell 0 (topC r.wide r.deep) = false := by simpa using h4
        simp [h3, h4'] at hf
        simp [hf] at h1 h2
        simp [hia, Person.row, rbox, in_ok, isCell_ok, h3, h4']
        simpa [rbox] using h2
    · have h3' : inB r.people[i].role 1 3 = false := by simpa using h3
      simp [h3'] at hf
      simp [hf] at h1 h2
      simp [hia, Person.row, rbox, in_ok, isCell_ok, h3']
      simpa [rbox] using h2
theorem thing_loop (r : Rite) (hl : r.things.length ≤ 8) (Q : GX → GSt → Prop) : ∀ k i : Nat, i + k = r.things.length →
    (firstI (thingF (topC r.wide r.deep) r.things) k i = 0 → Q (.exit 6) ⟨[(1, .bptr (H.length, 1) 0), (2, gdead)], [(1, rbox r)] :: H, 106⟩) →
    (firstI (thingF (topC r.wide r.deep) r.things) k i ≠ 0 → Q .ret ⟨[(1, .bptr (H.length, 1) 0), (2, .pure (.int .i64 (firstI (thingF (topC r.wide r.deep) r.things) k i)))], [(1, rbox r)] :: H, 106⟩) →
    WPL KC needT 40 (lp Try.f40 2) [1, 69, 70, 71] [1, 2] Q
      [(1, .bptr (H.length, 1) 0), (69, .pure (.slice (r.things.map Thing.row))), (70, .pure (.int .i64 r.things.length)), (71, .pure (.int .i64 i))] ([(1, rbox r)] :: H) 106 := by
  intro k
  induction k with
  | zero =>
    intro i hi h1 h2
    apply WPL_step
    conv => arg 4; whnf
    have : ¬ i < r.things.length := by omega
    simp [this]
    exact h1 rfl
  | succ k ih =>
    intro i hi h1 h2
    have hia : i < r.things.length := by omega
    have hw := w64 (x := (i : Int) + 1) (by omega) (by omega)
    have ih' := ih (i + 1) (by omega)
    unfold firstI at h1 h2
    have hf := thingF_def (topC r.wide r.deep) r.things i
    have hgi : r.things.getD i ⟨0, 0, 0, 0, false⟩ = r.things[i] := by simp [List.getD_eq_getElem?_getD, hia]
    rw [hgi] at hf
    apply WPL_step
    conv => arg 4; whnf
    cases h3 : inB r.things[i].cell 0 (topC r.wide r.deep) with
    | false =>
      simp [h3] at hf
      simp [hf] at h1 h2
      simp [hia, Thing.row, rbox, in_ok, isCell_ok, h3]
      simpa [rbox] using h2
    | true =>
      cases h4 : inB r.things[i].home 0 (topC r.wide r.deep) with
      | false =>
        simp [h3, h4] at hf
        simp [hf] at h1 h2
        simp [hia, Thing.row, rbox, in_ok, isCell_ok, h3, h4]
        simpa [rbox] using h2
      | true =>
        cases h5 : inB r.things[i].state 0 15 with
        | false =>
          simp [h3, h4, h5] at hf
          simp [hf] at h1 h2
          simp [hia, Thing.row, rbox, in_ok, isCell_ok, h3, h4, h5]
          simpa [rbox] using h2
        | true =>
          cases h6 : inB r.things[i].want 0 15 with
          | false =>
            simp [h3, h4, h5, h6] at hf
            simp [hf] at h1 h2
            simp [hia, Thing.row, rbox, in_ok, isCell_ok, h3, h4, h5, h6]
            simpa [rbox] using h2
          | true =>
            simp [h3, h4, h5, h6] at hf
            simp [hf] at h1 h2
            simp [hia, Thing.row, rbox, in_ok, isCell_ok, h3, h4, h5, h6, hw]
            simpa [rbox] using ih' h1 h2
theorem rowR (r : Rite) : r.row = [.int .i64 r.wide, .int .i64 r.deep, .slice (r.people.map Person.row), .slice (r.things.map Thing.row), .slice (r.seen.map irow), .slice (r.lapses.map irow), .slice (r.acts.map RAct.row)] := rfl
theorem room1_r (r : Rite) {x : Int} {nm : Nm} (hg : H.get nm = some (rbox r)) : gcall KC (geval KC) 67 [.pure (.int .i64 x), .bptr nm 0] c H = some (.pure (.bool (inB x 0 (topC r.wide r.deep))), H) := room1_ok hg
theorem checkRoom_ok (r : Rite) (h1 : r.seen.length ≤ 1000000) (h2 : r.lapses.length ≤ 1000000) (h3 : r.people.length ≤ 1000000) (h4 : r.things.length ≤ 1000000) (hH : 0 < H.length) :
    gcall KC (geval KC) 40 [.pure (.agg r.row)] c H = some (.pure (.int .i64 (roomF r)), H) := by
  refine bor_c rfl rfl rfl rfl rfl hH fun H hH => ?_
  refine WPv_eq (call_enter0 KC needT Try.func40 rfl rfl good40 (by simp) hH ?_)
  have hr := roomF_def r
  rw [rowR]
  cases e1 : inB r.wide 1 6 with
  | false =>
    simp [e1] at hr
    simp [in_ok, e1, gleave_free, hr]
  | true =>
  cases e2 : inB r.deep 1 6 with
  | false =>
    simp [e1, e2] at hr
    simp [in_ok, e1, e2, gleave_free, hr]
  | true =>
  by_cases e3 : r.people.length = 0
  · have e3' : r.people = [] := List.length_eq_zero_iff.1 e3
    simp [e1, e2, e3, e3'] at hr
    simp [in_ok, e1, e2, e3, e3', gleave_free, hr]
  have e3' : ((r.people.length : Int) == 0) = false := beq_eq_false_iff_ne.2 (by omega)
  by_cases e4 : 4 < r.people.length
  · have e4' : (4 : Int) < r.people.length := by omega
    simp [e1, e2, e3, e4] at hr
    simp [in_ok, e1, e2, e3, e3', e4, e4', gleave_free, hr]
  have e4' : ¬ (4 : Int) < r.people.length := by omega
  simp only [e1, e2, e3, e4, Bool.true_eq_false, or_self, if_false] at hr
  simp [in_ok, e1, e2, e3, e3', e4, e4']
  have L := fun Q => person_loop (H := H) r (by omega) Q r.people.length 0 (by omega)
  simp [rbox] at L
  refine L _ (fun z1 => ?_) (fun z1 => ?_)
  · by_cases e5 : 8 < r.things.length
    · have e5' : (8 : Int) < r.things.length := by omega
      simp [z1, e5] at hr
      simp [e5', e5, gleave_free, hr]
    · have e5' : ¬ (8 : Int) < r.things.length := by omega
      simp only [z1, e5, ne_eq, not_true_eq_false, if_false] at hr
      simp [e5', e5]
      have L2 := fun Q => thing_loop (H := H) r (by omega) Q r.things.length 0 (by omega)
      simp [rbox] at L2
      refine L2 _ (fun z2 => ?_) (fun z2 => ?_)
      · simp only [z2, ne_eq, not_true_eq_false, if_false] at hr
        have A := fun c => asc_ok (c := c) (H := [(1, rbox r)] :: H) r.seen (by omega) (fun x => inB x 0 (topC r.wide r.deep)) 7 (by decide) (.func 67 [] [.bptr (H.length, 1) 0]) rfl (fun _ => rfl) (fun x c f0 fr => by
          rw [gcallee_func]
          exact room1_r r (by simp)) (fun f0 fr => by simp) (by simp)
        have B := fun (H : Heap) c (hH : 0 < H.length) => asc_ok (c := c) (H := H) r.lapses (by omega) (fun x => inB x 1 3) 4 (by decide) (.pure (.fn 68)) rfl (fun _ => rfl) (fun x c f0 fr => by
          rw [gcallee_fn]
          exact room2_ok (by simp)) (fun f0 fr => by simp) hH
        simp [rbox] at A
        by_cases z3 : firstI (ascF (fun x => inB x 0 (topC r.wide r.deep)) 7 r.seen) r.seen.length 0 = 0
        · simp only [z3, ne_eq, not_true_eq_false, if_false] at hr
          simp [A, z3, B, gleave_free, hr]
        · have z3' : (firstI (ascF (fun x => inB x 0 (topC r.wide r.deep)) 7 r.seen) r.seen.length 0 != 0) = true := by simpa using z3
          simp only [z3, ne_eq, not_false_eq_true, if_true] at hr
          simp [A, z3, z3', gleave_free, hr]
      · simp [z2] at hr
        simp [gleave_free, hr]
  · simp [z1] at hr
    simp [gleave_free, hr]
end Go.Gh


/- Rites that may be: what the program checks of acts. -/
namespace Go.Gh
open Go.Proofs
set_option linter.unusedSimpArgs false
set_option linter.unusedVariables false
set_option maxRecDepth 100000
set_option maxHeartbeats 4000000
variable {c : Nat} {H : Heap}
/-- Of an act's kind: what it need not name. -/
def formB (a : RAct) : Bool :=
  if a.kind = 1 then decide (a.hand = 0 ∧ a.thing = 0 ∧ a.other = 0)
  else if a.kind = 2 then decide (a.cell = 0 ∧ a.other = 0)
  else if a.kind = 4 then decide (a.thing = 0 ∧ a.cell = 0)
  else decide (a.thing = 0 ∧ a.cell = 0 ∧ a.other = 0)
noncomputable def fieldsF : Int → Int → Int → RAct → Int := hid fun t nt np a =>
  if inB a.kind 1 8 = false then 4 else if formB a = false then 3 else if a.kind = 1 ∧ inB a.cell 0 t = false then 7 else if inB a.hand 0 1 = false then 2
  else if a.kind = 2 ∧ inB a.thing 0 (nt - 1) = false then 7 else if a.kind = 4 ∧ inB a.other 0 (np - 1) = false then 7 else if a.kind = 4 ∧ a.other = a.who then 3 else 0
theorem fieldsF_def (t nt np : Int) (a : RAct) : fieldsF t nt np a =
  if inB a.kind 1 8 = false then 4 else if formB a = false then 3 else if a.kind = 1 ∧ inB a.cell 0 t = false then 7 else if inB a.hand 0 1 = false then 2
  else if a.kind = 2 ∧ inB a.thing 0 (nt - 1) = false then 7 else if a.kind = 4 ∧ inB a.other 0 (np - 1) = false then 7 else if a.kind = 4 ∧ a.other = a.who then 3 else 0 := by rw [fieldsF, hid_eq]
theorem kind_cases (k : Int) : k = 1 ∨ k = 2 ∨ k = 4 ∨ (k = 3 ∨ k = 5 ∨ k = 6 ∨ k = 7 ∨ k = 8) ∨ (inB k 1 8 = false ∧ k ≠ 1 ∧ k ≠ 2 ∧ k ≠ 3 ∧ k ≠ 4 ∧ k ≠ 5 ∧ k ≠ 6 ∧ k ≠ 7 ∧ k ≠ 8) := by
  by_cases h : 1 ≤ k ∧ k ≤ 8
  · omega
  · refine .inr (.inr (.inr (.inr ⟨?_, by omega, by omega, by omega, by omega, by omega, by omega, by omega, by omega⟩)))
    simp [inB]; omega
theorem checkFields_ok {r : Rite} {q1 q2 kind hand thing cell other q3 q4 : Int} (h1 : r.people.length ≤ 1000000) (h2 : r.things.length ≤ 1000000) (hH : 0 < H.length) :
    gcall KC (geval KC) 44 [.pure (.agg r.row), .pure (.agg [.int .i64 q1, .int .i64 q2, .int .i64 kind, .int .i64 hand, .int .i64 thing, .int .i64 cell, .int .i64 other, .int .i64 q3, .int .i64 q4])] c H =
      some (.pure (.int .i64 (fieldsF (topC r.wide r.deep) r.things.length r.people.length ⟨q1, q2, kind, hand, thing, cell, other, q3, q4⟩)), H) := by
  refine bor_c rfl rfl rfl rfl rfl hH fun H hH => ?_
  refine WPv_eq (call_enter0 KC needT Try.func44 rfl rfl good44 (by simp) hH ?_)
  have hr := fieldsF_def (topC r.wide r.deep) r.things.length r.people.length ⟨q1, q2, kind, hand, thing, cell, other, q3, q4⟩
  simp only [formB] at hr
  rw [rowR]
  have w1 := w64 (x := (r.people.length : Int) - 1) (by omega) (by omega)
  have w2 := w64 (x := (r.things.length : Int) - 1) (by omega) (by omega)
  have i0 : inB 0 0 1 = true := rfl
  rcases kind_cases kind with rfl | rfl | rfl | hk | ⟨hk, n1, n2, n3, n4, n5, n6, n7, n8⟩
  · have i1 : inB 1 1 8 = true := rfl
    by_cases a1 : hand = 0
    · by_cases a2 : thing = 0
      · by_cases a3 : other = 0
        · subst a1; subst a2; subst a3
          cases a4 : inB cell 0 (topC r.wide r.deep) with
          | false =>
            simp [a4, i1, i0] at hr
            simp [in_ok, isCell_ok, a4, gleave_free, hr]
          | true =>
            simp [a4, i1, i0] at hr
            simp [in_ok, isCell_ok, a4, i0, gleave_free, hr]
        · have a3' : (other == 0) = false := by simpa using a3
          subst a1; subst a2
          simp [a3, i1] at hr
          simp [a3', bne, gleave_free, hr]
      · have a2' : (thing == 0) = false := by simpa using a2
        subst a1
        simp [a2, i1] at hr
        simp [a2', bne, gleave_free, hr]
    · have a1' : (hand == 0) = false := by simpa using a1
      simp [a1, i1] at hr
      simp [a1', bne, gleave_free, hr]
  · have i1 : inB 2 1 8 = true := rfl
    by_cases a1 : cell = 0
    · by_cases a2 : other = 0
      · subst a1; subst a2
        cases a3 : inB hand 0 1 with
        | false =>
          simp [a3, i1] at hr
          simp [in_ok, a3, gleave_free, hr]
        | true =>
          cases a4 : inB thing 0 ((r.things.length : Int) - 1) with
          | false =>
            simp [a3, a4, i1] at hr
            simp [in_ok, a3, a4, w2, gleave_free, hr]
          | true =>
            simp [a3, a4, i1] at hr
            simp [in_ok, a3, a4, w2, gleave_free, hr]
      · have a2' : (other == 0) = false := by simpa using a2
        subst a1
        simp [a2, i1] at hr
        simp [a2', bne, gleave_free, hr]
    · have a1' : (cell == 0) = false := by simpa using a1
      simp [a1, i1] at hr
      simp [a1', bne, gleave_free, hr]
  · have i1 : inB 4 1 8 = true := rfl
    by_cases a1 : thing = 0
    · by_cases a2 : cell = 0
      · subst a1; subst a2
        cases a3 : inB hand 0 1 with
        | false =>
          simp [a3, i1] at hr
          simp [in_ok, a3, gleave_free, hr]
        | true =>
          cases a4 : inB other 0 ((r.people.length : Int) - 1) with
          | false =>
            simp [a3, a4, i1] at hr
            simp [in_ok, a3, a4, w1, gleave_free, hr]
          | true =>
            by_cases a5 : other = q2
            · subst a5
              simp [a3, a4, i1] at hr
              simp [in_ok, a3, a4, w1, gleave_free, hr]
            · have a5' : (other == q2) = false := by simpa using a5
              simp [a3, a4, a5, i1] at hr
              simp [in_ok, a3, a4, a5', w1, gleave_free, hr]
      · have a2' : (cell == 0) = false := by simpa using a2
        subst a1
        simp [a2, i1] at hr
        simp [a2', bne, gleave_free, hr]
    · have a1' : (thing == 0) = false := by simpa using a1
      simp [a1, i1] at hr
      simp [a1', bne, gleave_free, hr]
  · have i1 : inB kind 1 8 = true := by simp [inB]; omega
    have m1 : kind ≠ 1 := by omega
    have m2 : kind ≠ 2 := by omega
    have m4 : kind ≠ 4 := by omega
    by_cases a1 : thing = 0
    · by_cases a2 : cell = 0
      · by_cases a3 : other = 0
        · subst a1; subst a2; subst a3
          cases a4 : inB hand 0 1 with
          | false =>
            simp [a4, i1, m1, m2, m4] at hr
            rcases hk with rfl | rfl | rfl | rfl | rfl <;> simp [in_ok, a4, gleave_free, hr]
          | true =>
            simp [a4, i1, m1, m2, m4] at hr
            rcases hk with rfl | rfl | rfl | rfl | rfl <;> simp [in_ok, a4, gleave_free, hr]
        · have a3' : (other == 0) = false := by simpa using a3
          subst a1; subst a2
          simp [a3, i1, m1, m2, m4] at hr
          rcases hk with rfl | rfl | rfl | rfl | rfl <;> simp [a3', bne, gleave_free, hr]
      · have a2' : (cell == 0) = false := by simpa using a2
        subst a1
        simp [a2, i1, m1, m2, m4] at hr
        rcases hk with rfl | rfl | rfl | rfl | rfl <;> simp [a2', bne, gleave_free, hr]
    · have a1' : (thing == 0) = false := by simpa using a1
      simp [a1, i1, m1, m2, m4] at hr
      rcases hk with rfl | rfl | rfl | rfl | rfl <;> simp [a1', bne, gleave_free, hr]
  · have e1 : (kind == 1) = false := by simpa using n1
    have e2 : (kind == 2) = false := by simpa using n2
    have e3 : (kind == 3) = false := by simpa using n3
    have e4 : (kind == 4) = false := by simpa using n4
    have e5 : (kind == 5) = false := by simpa using n5
    have e6 : (kind == 6) = false := by simpa using n6
    have e7 : (kind == 7) = false := by simpa using n7
    have e8 : (kind == 8) = false := by simpa using n8
    simp [hk] at hr
    simp [e1, e2, e3, e4, e5, e6, e7, e8, gleave_free, hr]
end Go.Gh


/- Rites that may be: Check of the program. -/
namespace Go.Gh
open Go.Proofs
set_option linter.unusedSimpArgs false
set_option linter.unusedVariables false
set_option maxRecDepth 100000
set_option maxHeartbeats 4000000
variable {c : Nat} {H : Heap}
def idxI (p : Nat → Bool) : Nat → Nat → Int
  | 0, _ => -1
  | k + 1, i => if p i = true then (i : Int) else idxI p k (i + 1)
theorem idxI_nonneg {p : Nat → Bool} : ∀ {k i : Nat}, 0 ≤ idxI p k i ↔ ∃ j, i ≤ j ∧ j < i + k ∧ p j = true
  | 0, i => by simp [idxI]; intro j h1 h2; omega
  | k + 1, i => by
    unfold idxI
    by_cases h : p i = true
    · simp only [h, if_true]
      exact ⟨fun _ => ⟨i, Nat.le_refl _, by omega, h⟩, fun _ => by omega⟩
    · rw [if_neg h, idxI_nonneg]
      constructor
      · rintro ⟨j, h1, h2, h3⟩
        exact ⟨j, by omega, by omega, h3⟩
      · rintro ⟨j, h1, h2, h3⟩
        rcases Nat.lt_or_ge i j with h4 | h4
        · exact ⟨j, h4, by omega, h3⟩
        · have : j = i := by omega
          subst this; exact absurd h3 h
def act0 : RAct := ⟨0, 0, 0, 0, 0, 0, 0, 0, 0⟩
@[simp] theorem RAct.eta (a : RAct) : (⟨a.at', a.who, a.kind, a.hand, a.thing, a.cell, a.other, a.seasons, a.rank⟩ : RAct) = a := rfl
def pAt (p : RAct → Bool) (l : List RAct) (j : Nat) : Bool := p (l.getD j act0)
theorem pAt_get (p : RAct → Bool) (l : List RAct) (i : Nat) (h : i < l.length) : pAt p l i = p l[i] := by simp [pAt, List.getD_eq_getElem?_getD, h]
theorem idx_loop (l : List RAct) (hn : l.length ≤ 4611686018427387904) (p : RAct → Bool) (g : GV) (hg : ∀ (x : RAct) (c : Nat) (fr : Fr), gcallee KC (geval KC) g [.pure (.agg x.row)] c (fr :: H) = some (.pure (.bool (p x)), fr :: H))
    (hcl : ∀ fr, clean (fr :: H) (H.length - 1) g = g) (Q : GX → GSt → Prop) (hH : 0 < H.length) : ∀ k i : Nat, i + k = l.length →
    (idxI (pAt p l) k i = -1 → Q (.exit 0) ⟨[(4, gdead)], H, 19⟩) → (0 ≤ idxI (pAt p l) k i → Q .ret ⟨[(4, .pure (.int .i64 (idxI (pAt p l) k i)))], H, 19⟩) →
    WPL KC needT 69 (lp Try.f69 0) [0, 1, 7, 8] [4] Q [(0, .pure (.slice (l.map RAct.row))), (1, g), (7, .pure (.int .i64 l.length)), (8, .pure (.int .i64 i))] H 19 := by
  intro k
  induction k with
  | zero =>
    intro i hi h1 h2
    apply WPL_step
    conv => arg 4; whnf
    have : ¬ i < l.length := by omega
    simp [this, hH]
    exact h1 rfl
  | succ k ih =>
    intro i hi h1 h2
    have hia : i < l.length := by omega
    have hw := w64 (x := (i : Int) + 1) (by omega) (by omega)
    have ih' := ih (i + 1) (by omega)
    unfold idxI at h1 h2
    rw [pAt_get p l i hia] at h1 h2
    have hg' := hg l[i]
    simp only [RAct.row] at hg'
    apply WPL_step
    conv => arg 4; whnf
    cases hp : p l[i] with
    | true =>
      simp [hp] at h1 h2
      simp [hia, hH, RAct.row, hg', hp]
      exact h2
    | false =>
      simp only [hp, Bool.false_eq_true, if_false] at h1 h2
      simp [hia, hH, RAct.row, hg', hp, hw, hcl]
      have := ih' h1 h2
      simpa [RAct.row] using this
theorem index_ok (l : List RAct) (hn : l.length ≤ 4611686018427387904) (p : RAct → Bool) (g : GV) (hcan : canon g = g) (hfz : ∀ H, frzVal H g = (g, H)) (hg : ∀ (x : RAct) (c : Nat) (f0 fr : Fr), gcallee KC (geval KC) g [.pure (.agg x.row)] c (f0 :: fr :: H) = some (.pure (.bool (p x)), f0 :: fr :: H))
    (hcl : ∀ f0 fr, clean (f0 :: fr :: H) (H.length) g = g) (hH : 0 < H.length) :
    gcall KC (geval KC) 69 [.pure (.slice (l.map RAct.row)), g] c H = some (.pure (.int .i64 (idxI (pAt p l) l.length 0)), H) := by
  refine WPv_eq (call_enter KC needT Try.func69 rfl rfl good69 (by simp [frzVals, hfz]) rfl rfl (by simp) hH ?_)
  simp [hcan]
  refine idx_loop (H := [] :: H) l hn p g (fun x c fr => hg x c fr []) (fun fr => by simpa using hcl fr []) _ (by simp) l.length 0 (by omega) (fun h => ?_) (fun h => ?_)
  · simp [h, gleave_free]
  · simp [gleave_free]
theorem contains_ok (l : List RAct) (hn : l.length ≤ 4611686018427387904) (p : RAct → Bool) (g : GV) (hcan : canon g = g) (hfz : ∀ H, frzVal H g = (g, H)) (hg : ∀ (x : RAct) (c : Nat) (f0 f1 fr : Fr), gcallee KC (geval KC) g [.pure (.agg x.row)] c (f0 :: f1 :: fr :: H) = some (.pure (.bool (p x)), f0 :: f1 :: fr :: H))
    (hcl : ∀ f0 f1 fr, clean (f0 :: f1 :: fr :: H) (H.length + 1) g = g) (hH : 0 < H.length) :
    gcall KC (geval KC) 42 [.pure (.slice (l.map RAct.row)), g] c H = some (.pure (.bool (l.any p)), H) := by
  refine WPv_eq (call_enter KC needT Try.func42 rfl rfl good42 (by simp [frzVals, hfz]) rfl rfl (by simp) hH ?_)
  have I := fun c (fr : Fr) => index_ok (c := c) (H := fr :: H) l hn p g hcan hfz (fun x c f0 f1 => hg x c f0 f1 fr) (fun f0 f1 => by simpa using hcl f0 f1 fr) (by simp)
  have e : (decide (0 ≤ idxI (pAt p l) l.length 0)) = l.any p := by
    rw [Bool.eq_iff_iff, decide_eq_true_eq, idxI_nonneg, List.any_eq_true]
    constructor
    · rintro ⟨j, _, h2, h3⟩
      have hj : j < l.length := by omega
      exact ⟨l[j], List.getElem_mem hj, by rw [← pAt_get p l j hj]; exact h3⟩
    · rintro ⟨x, hx, hp⟩
      obtain ⟨j, hj, rfl⟩ := List.getElem_of_mem hx
      exact ⟨j, Nat.zero_le _, by omega, by rw [pAt_get p l j hj]; exact hp⟩
  simp [hcan, I, gleave_free, e]
def abox (a : RAct) : Blk := .box [.pure (.int .i64 a.at'), .pure (.int .i64 a.who), .pure (.int .i64 a.kind), .pure (.int .i64 a.hand), .pure (.int .i64 a.thing), .pure (.int .i64 a.cell), .pure (.int .i64 a.other), .pure (.int .i64 a.seasons), .pure (.int .i64 a.rank)]
def samePM (a b : RAct) : Bool := b.at' == a.at' && b.who == a.who
theorem clash_ok (a b : RAct) {nm : Nm} (hg : H.get nm = some (abox a)) : gcall KC (geval KC) 43 [.pure (.agg b.row), .bptr nm 0] c H = some (.pure (.bool (samePM a b)), H) := by
  have hl : nm.1 < H.length := Heap.get_lt hg
  have hne : ¬ nm.1 = H.length := by omega
  refine WPv_eq (call_enter KC needT Try.func43 rfl rfl good43 rfl rfl rfl (by simp) (by omega) ?_)
  unfold abox at hg
  unfold samePM
  cases h1 : (b.at' == a.at') with
  | true => simp [gleave_free, hg, hne, RAct.row, h1]
  | false => simp [gleave_free, hg, hne, RAct.row, h1]
noncomputable def actF : Rite → Nat → Int := hid fun r i =>
  if inB (r.acts.getD i act0).at' 0 1000 = false then 2 else if 0 < i ∧ (r.acts.getD i act0).at' < (r.acts.getD (i - 1) act0).at' then 11
  else if inB (r.acts.getD i act0).who 0 ((r.people.length : Int) - 1) = false then 7 else if (r.acts.take i).any (samePM (r.acts.getD i act0)) = true then 12
  else if fieldsF (topC r.wide r.deep) r.things.length r.people.length (r.acts.getD i act0) ≠ 0 then fieldsF (topC r.wide r.deep) r.things.length r.people.length (r.acts.getD i act0)
  else if inB (r.acts.getD i act0).seasons 0 15 = false ∨ inB (r.acts.getD i act0).rank 0 9 = false then 2 else 0
theorem actF_def (r : Rite) (i : Nat) : actF r i =
  if inB (r.acts.getD i act0).at' 0 1000 = false then 2 else if 0 < i ∧ (r.acts.getD i act0).at' < (r.acts.getD (i - 1) act0).at' then 11
  else if inB (r.acts.getD i act0).who 0 ((r.people.length : Int) - 1) = false then 7 else if (r.acts.take i).any (samePM (r.acts.getD i act0)) = true then 12
  else if fieldsF (topC r.wide r.deep) r.things.length r.people.length (r.acts.getD i act0) ≠ 0 then fieldsF (topC r.wide r.deep) r.things.length r.people.length (r.acts.getD i act0)
  else if inB (r.acts.getD i act0).seasons 0 15 = false ∨ inB (r.acts.getD i act0).rank 0 9 = false then 2 else 0 := by rw [actF, hid_eq]
noncomputable def checkF : Rite → Int := hid fun r => if roomF r ≠ 0 then roomF r else if 40 < r.acts.length then 8 else firstI (actF r) r.acts.length 0
theorem checkF_def (r : Rite) : checkF r = if roomF r ≠ 0 then roomF r else if 40 < r.acts.length then 8 else firstI (actF r) r.acts.length 0 := by rw [checkF, hid_eq]
theorem act_loop (r : Rite) (hl : r.acts.length ≤ 40) (hp : r.people.length ≤ 1000000) (ht : r.things.length ≤ 1000000) (Q : GX → GSt → Prop) : ∀ k i : Nat, i + k = r.acts.length →
    (firstI (actF r) k i = 0 → Q (.exit 0) ⟨[(2, gdead)], [(1, rbox r)] :: H, 77⟩) →
    (firstI (actF r) k i ≠ 0 → Q .ret ⟨[(2, .pure (.int .i64 (firstI (actF r) k i)))], [(1, rbox r)] :: H, 77⟩) →
    WPL KC needT 15 (lp Try.f15 0) [1, 17, 18, 19] [2] Q
      [(1, .bptr (H.length, 1) 0), (17, .pure (.slice (r.acts.map RAct.row))), (18, .pure (.int .i64 r.acts.length)), (19, .pure (.int .i64 i))] ([(1, rbox r)] :: H) 77 := by
  intro k
  induction k with
  | zero =>
    intro i hi h1 h2
    apply WPL_step
    conv => arg 4; whnf
    have : ¬ i < r.acts.length := by omega
    simp [this]
    exact h1 rfl
  | succ k ih =>
    intro i hi h1 h2
    have hia : i < r.acts.length := by omega
    have hw := w64 (x := (i : Int) + 1) (by omega) (by omega)
    have hw2 := w64 (x := (i : Int) - 1) (by omega) (by omega)
    have hwp := w64 (x := (r.people.length : Int) - 1) (by omega) (by omega)
    have ih' := ih (i + 1) (by omega)
    unfold firstI at h1 h2
    have hf := actF_def r i
    have hgi : r.acts.getD i act0 = r.acts[i] := by simp [List.getD_eq_getElem?_getD, hia]
    rw [hgi] at hf
    have hile : i ≤ r.acts.length := by omega
    have hmin : min i r.acts.length = i := by omega
    have C := fun (c : Nat) => contains_ok (c := c) (H := [(5, abox r.acts[i])] :: [(1, rbox r)] :: H) (r.acts.take i) (by simp; omega) (samePM r.acts[i]) (.func 43 [] [.bptr (H.length + 1, 5) 0]) rfl (fun _ => rfl) (fun x c f0 f1 fr => by
      rw [gcallee_func]
      exact clash_ok r.acts[i] x (by simp)) (fun f0 f1 fr => by simp) (by simp)
    simp [rbox, abox] at C
    have CF := fun (c : Nat) (H : Heap) (hH : 0 < H.length) => checkFields_ok (c := c) (r := r) (H := H) (q1 := r.acts[i].at') (q2 := r.acts[i].who) (kind := r.acts[i].kind) (hand := r.acts[i].hand) (thing := r.acts[i].thing) (cell := r.acts[i].cell) (other := r.acts[i].other) (q3 := r.acts[i].seasons) (q4 := r.acts[i].rank) hp ht hH
    simp only [RAct.eta, rowR] at CF
    apply WPL_step
    conv => arg 4; whnf
    cases z1 : inB r.acts[i].at' 0 1000 with
    | false =>
      simp [z1] at hf
      simp [hf] at h1 h2
      simp [hia, RAct.row, rbox, in_ok, z1]
      simpa [rbox] using h2
    | true =>
    have ord : (0 < i ∧ r.acts[i].at' < (r.acts.getD (i - 1) act0).at') ∨ ¬ (0 < i ∧ r.acts[i].at' < (r.acts.getD (i - 1) act0).at') := Classical.em _
    have step : ∀ (Q' : Prop), (0 < i → ∀ h : i - 1 < r.acts.length, ¬ ((i : Int) - 1 < 0) → ((i : Int) - 1).toNat = i - 1 → (0 : Int) < i → r.acts.getD (i - 1) act0 = r.acts[i - 1] → Q') → (i = 0 → Q') → Q' := fun Q' a b => by
      by_cases h0 : 0 < i
      · have hi1 : i - 1 < r.acts.length := by omega
        exact a h0 hi1 (by omega) (by omega) (by omega) (by simp [List.getD_eq_getElem?_getD, hi1])
      · exact b (by omega)
    refine step _ (fun h0 hi1 hnn htn h0' hg1 => ?_) (fun h0 => ?_)
    · rw [hg1] at hf
      by_cases z2 : r.acts[i].at' < r.acts[i - 1].at'
      · simp [z1, z2, h0] at hf
        simp [hf] at h1 h2
        simp [hia, RAct.row, rbox, in_ok, z1, h0', hw2, hnn, htn, hi1, z2, h0]
        simpa [rbox] using h2
      · cases z3 : inB r.acts[i].who 0 ((r.people.length : Int) - 1) with
        | false =>
          simp [z1, z2, z3, h0] at hf
          simp [hf] at h1 h2
          simp [hia, RAct.row, rbox, in_ok, z1, h0', hw2, hnn, htn, hi1, z2, hwp, z3, h0]
          simpa [rbox] using h2
        | true =>
        cases z4 : (r.acts.take i).any (samePM r.acts[i]) with
        | true =>
          simp only [z1, z2, z3, z4, and_false, Bool.true_eq_false, if_false, if_true] at hf
          simp [hf] at h1 h2
          simp [hia, RAct.row, rbox, in_ok, z1, h0', hw2, hnn, htn, hi1, z2, hwp, z3, hile, C, z4, h0]
          simpa [rbox] using h2
        | false =>
        by_cases z5 : fieldsF (topC r.wide r.deep) r.things.length r.people.length r.acts[i] = 0
        · cases z6 : inB r.acts[i].seasons 0 15 with
          | false =>
            simp only [z1, z2, z3, z4, z5, z6, and_false, Bool.true_eq_false, Bool.false_eq_true, ne_eq, not_true_eq_false, true_or, if_false, if_true] at hf
            simp [hf] at h1 h2
            simp [hia, RAct.row, rbox, in_ok, z1, h0', hw2, hnn, htn, hi1, z2, hwp, z3, hile, C, z4, CF, z5, z6, h0]
            simpa [rbox] using h2
          | true =>
          cases z7 : inB r.acts[i].rank 0 9 with
          | false =>
            simp only [z1, z2, z3, z4, z5, z6, z7, and_false, Bool.true_eq_false, Bool.false_eq_true, ne_eq, not_true_eq_false, or_true, if_false, if_true] at hf
            simp [hf] at h1 h2
            simp [hia, RAct.row, rbox, in_ok, z1, h0', hw2, hnn, htn, hi1, z2, hwp, z3, hile, C, z4, CF, z5, z6, z7, h0]
            simpa [rbox] using h2
          | true =>
            simp only [z1, z2, z3, z4, z5, z6, z7, and_false, Bool.true_eq_false, Bool.false_eq_true, ne_eq, not_true_eq_false, or_self, if_false, if_true] at hf
            simp [hf] at h1 h2
            simp [hia, RAct.row, rbox, in_ok, z1, h0', hw2, hnn, htn, hi1, z2, hwp, z3, hile, C, z4, CF, z5, z6, z7, hw, h0]
            simpa [rbox, RAct.row] using ih' h1 h2
        · have z5' : (fieldsF (topC r.wide r.deep) r.things.length r.people.length r.acts[i] != 0) = true := by simpa using z5
          simp only [z1, z2, z3, z4, z5, and_false, Bool.true_eq_false, Bool.false_eq_true, ne_eq, not_false_eq_true, if_false, if_true] at hf
          simp [hf, z5] at h1 h2
          simp [hia, RAct.row, rbox, in_ok, z1, h0', hw2, hnn, htn, hi1, z2, hwp, z3, hile, C, z4, CF, z5, z5', h0]
          simpa [rbox] using h2
    · subst h0
      simp at C
      have z4 : (r.acts.take 0).any (samePM r.acts[0]) = false := by simp
      cases z3 : inB r.acts[0].who 0 ((r.people.length : Int) - 1) with
      | false =>
        simp [z1, z3] at hf
        simp [hf] at h1 h2
        simp [hia, RAct.row, rbox, in_ok, z1, hwp, z3]
        simpa [rbox] using h2
      | true =>
      by_cases z5 : fieldsF (topC r.wide r.deep) r.things.length r.people.length r.acts[0] = 0
      · cases z6 : inB r.acts[0].seasons 0 15 with
        | false =>
          simp [z1, z3, z5, z6] at hf
          simp [hf] at h1 h2
          simp [hia, RAct.row, rbox, in_ok, z1, hwp, z3, C, CF, z5, z6]
          simpa [rbox] using h2
        | true =>
        cases z7 : inB r.acts[0].rank 0 9 with
        | false =>
          simp [z1, z3, z5, z6, z7] at hf
          simp [hf] at h1 h2
          simp [hia, RAct.row, rbox, in_ok, z1, hwp, z3, C, CF, z5, z6, z7]
          simpa [rbox] using h2
        | true =>
          simp [z1, z3, z5, z6, z7] at hf
          simp [hf] at h1 h2
          simp [hia, RAct.row, rbox, in_ok, z1, hwp, z3, C, CF, z5, z6, z7, hw]
          simpa [rbox, RAct.row] using ih' h1 h2
      · have z5' : (fieldsF (topC r.wide r.deep) r.things.length r.people.length r.acts[0] != 0) = true := by simpa using z5
        simp [z1, z3, z5] at hf
        simp [hf, z5] at h1 h2
        simp [hia, RAct.row, rbox, in_ok, z1, hwp, z3, C, CF, z5, z5']
        simpa [rbox] using h2
theorem check_ok0 (r : Rite) (h1 : r.seen.length ≤ 1000000) (h2 : r.lapses.length ≤ 1000000) (h3 : r.people.length ≤ 1000000) (h4 : r.things.length ≤ 1000000) (h5 : r.acts.length ≤ 1000000) (hH : 0 < H.length) :
    gcall0 KC (geval KC) 15 [.pure (.agg r.row)] c H = some (.pure (.int .i64 (checkF r)), H) := by
  refine WPv_eq (call_enter0 KC needT Try.func15 rfl rfl good15 (by simp) hH ?_)
  have hr := checkF_def r
  have R := fun c (H : Heap) (hH : 0 < H.length) => checkRoom_ok (c := c) (H := H) r h1 h2 h3 h4 hH
  rw [rowR] at R ⊢
  by_cases z1 : roomF r = 0
  · by_cases z2 : 40 < r.acts.length
    · have z2' : (40 : Int) < r.acts.length := by omega
      simp [z1, z2] at hr
      simp [R, z1, z2, z2', gleave_free, hr]
    · have z2' : ¬ (40 : Int) < r.acts.length := by omega
      simp only [z1, z2, ne_eq, not_true_eq_false, if_false] at hr
      simp [R, z1, z2, z2']
      have L := fun Q => act_loop (H := H) r (by omega) h3 h4 Q r.acts.length 0 (by omega)
      simp [rbox] at L
      refine L _ (fun h => ?_) (fun h => ?_)
      · simp [h] at hr
        simp [gleave_free, hr]
      · simp [gleave_free, hr]
  · have z1' : (roomF r != 0) = true := by simpa using z1
    simp [z1] at hr
    simp [R, z1, z1', gleave_free, hr]
end Go.Gh


/- Rites that may be: what the reference checks of a room. -/
namespace Go.Gh
open Go.Proofs
set_option linter.unusedSimpArgs false
set_option linter.unusedVariables false
set_option maxRecDepth 100000
set_option maxHeartbeats 4000000
variable {c : Nat} {H : Heap}
end Go.Gh


/- Rites that may be: Check of the reference. -/
namespace Go.Gh
open Go.Proofs
set_option linter.unusedSimpArgs false
set_option linter.unusedVariables false
set_option maxRecDepth 100000
set_option maxHeartbeats 4000000
variable {c : Nat} {H : Heap}
end Go.Gh


/- Rites that may be: Check of the reference, the acts, the whole. -/
namespace Go.Gh
open Go.Proofs
set_option linter.unusedSimpArgs false
set_option linter.unusedVariables false
set_option maxRecDepth 100000
set_option maxHeartbeats 4000000
variable {c : Nat} {H : Heap}
@[simp] theorem clean_dead {l0 : Nat} : clean H l0 gdead = gdead := .trans rfl rfl
end Go.Gh

/- The program's stages: what is held, neighbours, states. -/
import Derived.Test.YtkcmcjohoockcaaRf
import Derived.Test.YtkcmcjohoockcaaPa
namespace Go.Gh
open Go.Proofs
set_option linter.unusedSimpArgs false
set_option linter.unusedVariables false
set_option linter.unnecessarySimpa false
set_option maxRecDepth 100000
set_option maxHeartbeats 4000000

variable {c : Nat} {H : Heap}

/-! ### operations on bits -/
def bandn (a b : Int) : Int := IntKind.i64.wrap (BitVec.ofInt 64 a &&& ~~~(BitVec.ofInt 64 b)).toNat
@[simp] theorem gbin_andNot {K : Ctx} {t : TypeId} {a b : Int} : gbin K .andNot t (.pure (.int .i64 a)) (.pure (.int .i64 b)) = some (.int .i64 (bandn a b)) := by
  simp only [gbin, gint, bandn]
  rfl
theorem bits_has : ∀ q : Fin 16, ∀ b ∈ [(2 : Int), 4], (band .i64 ((q.1 : Nat) : Int) b == b) = ((IntKind.i64.wrap (((q.1 : Nat) : Int).tdiv b)).tmod 2 == 1) := by decide +kernel

/-- A stage's cells. -/
def stRow (r : Rite) (s : Scene) : List PV := [.int .i64 r.wide, .int .i64 r.deep, .slice (r.people.map Person.row), .slice (r.things.map Thing.row), .slice (r.seen.map irow), .slice (r.lapses.map irow), .slice (r.acts.map RAct.row), .slice (s.people.map irow), .slice (s.hands.map Hands.row), .slice (s.things.map Spot.row)]
theorem actRow (a : RAct) : a.row = [.int .i64 a.at', .int .i64 a.who, .int .i64 a.kind, .int .i64 a.hand, .int .i64 a.thing, .int .i64 a.cell, .int .i64 a.other, .int .i64 a.seasons, .int .i64 a.rank] := rfl

theorem held_ok0 {r : Rite} {s : Scene} {w : Nat} {a : RAct} (hw : w < s.hands.length) (h1 : a.who = w) (h2 : a.hand = 0 ∨ a.hand = 1) (hH : 0 < H.length) :
    gcall0 KC (geval KC) 107 [.pure (.agg (stRow r s)), .pure (.agg a.row)] c H = some (.pure (.int .i64 (handAt s.hands w a.hand)), H) := by
  refine WPv_eq (call_enter0 KC needT Try.func107 rfl rfl good107 (by simp) hH ?_)
  rw [actRow]
  unfold stRow handAt
  rw [getD_lt hw]
  rcases h2 with h2 | h2
  · simp [h1, h2, hw, Hands.row, gleave_free]
  · simp [h1, h2, hw, Hands.row, gleave_free]
theorem beside_ok0 {r : Rite} {s : Scene} {w : Nat} {a : RAct} (hw : w < s.hands.length) (h1 : a.who = w) (h2 : a.hand = 0 ∨ a.hand = 1) (hH : 0 < H.length) :
    gcall0 KC (geval KC) 106 [.pure (.agg (stRow r s)), .pure (.agg a.row)] c H = some (.pure (.int .i64 (handAt s.hands w (1 - a.hand))), H) := by
  refine WPv_eq (call_enter0 KC needT Try.func106 rfl rfl good106 (by simp) hH ?_)
  rw [actRow]
  unfold stRow handAt
  rw [getD_lt hw]
  have w0 : IntKind.i64.wrap (1 - 0) = 1 := rfl
  have w1 : IntKind.i64.wrap (1 - 1) = 0 := rfl
  rcases h2 with h2 | h2
  · simp [h1, h2, hw, Hands.row, gleave_free, w0]
  · simp [h1, h2, hw, Hands.row, gleave_free, w1]
theorem hasS_ok0 {r : Rite} {s : Scene} {t : Nat} {b : Int} (ht : t < s.things.length) (hs : 0 ≤ (s.things.getD t spot0).state ∧ (s.things.getD t spot0).state < 16) (hb : b = 2 ∨ b = 4) (hH : 0 < H.length) :
    gcall0 KC (geval KC) 128 [.pure (.agg (stRow r s)), .pure (.int .i64 t), .pure (.int .i64 b)] c H = some (.pure (.bool (hasV s.things t b)), H) := by
  refine WPv_eq (call_enter0 KC needT Try.func128 rfl rfl good128 (by simp) hH ?_)
  have hd := hasV_def s.things t b
  simp only [Int.toNat_natCast, getD_lt ht] at hd hs
  obtain ⟨q, hq⟩ := Int.eq_ofNat_of_zero_le hs.1
  have e := bits_has ⟨q, by omega⟩ b (by simp; exact hb)
  simp only [← hq] at e
  have h0 : decide ((0 : Int) ≤ t) = true := by simp
  rw [h0, Bool.true_and, ← e] at hd
  unfold stRow
  simp [ht, Spot.row, gleave_free, hd]

/-! ### neighbours -/
theorem sq_cases (x : Int) : (x = 0 ∧ x * x = 0) ∨ (x = 1 ∧ x * x = 1) ∨ (x = -1 ∧ x * x = 1) ∨ ((x ≠ 0 ∧ x ≠ 1 ∧ x ≠ -1) ∧ 4 ≤ x * x) := by
  by_cases h0 : x = 0
  · subst h0; exact .inl ⟨rfl, rfl⟩
  by_cases h1 : x = 1
  · subst h1; exact .inr (.inl ⟨rfl, rfl⟩)
  by_cases h2 : x = -1
  · subst h2; exact .inr (.inr (.inl ⟨rfl, rfl⟩))
  refine .inr (.inr (.inr ⟨⟨h0, h1, h2⟩, ?_⟩))
  rw [← Int.natAbs_mul_self]
  have : 2 ≤ x.natAbs := by omega
  have := Nat.mul_le_mul this this
  omega
theorem sq_le {x : Int} {n : Nat} (h1 : -(n : Int) ≤ x) (h2 : x ≤ n) : 0 ≤ x * x ∧ x * x ≤ ((n * n : Nat) : Int) := by
  rw [← Int.natAbs_mul_self]
  have : x.natAbs ≤ n := by omega
  have := Nat.mul_le_mul this this
  omega
theorem near_eq {w a b : Int} (hw : 1 ≤ w) (hw6 : w ≤ 1000) (ha : 0 ≤ a) (ha2 : a < 1000000) (hb : 0 ≤ b) (hb2 : b < 1000000) :
    (IntKind.i64.wrap (IntKind.i64.wrap (IntKind.i64.wrap (a.tmod w - b.tmod w) * IntKind.i64.wrap (a.tmod w - b.tmod w)) + IntKind.i64.wrap (IntKind.i64.wrap (IntKind.i64.wrap (a.tdiv w) - IntKind.i64.wrap (b.tdiv w)) * IntKind.i64.wrap (IntKind.i64.wrap (a.tdiv w) - IntKind.i64.wrap (b.tdiv w)))) == 1) = nearV w a b := by
  rw [nearV_def]
  have h1 : 0 ≤ a.tmod w := Int.tmod_nonneg _ ha
  have h2 : a.tmod w < w := Int.tmod_lt_of_pos _ (by omega)
  have h3 : 0 ≤ b.tmod w := Int.tmod_nonneg _ hb
  have h4 : b.tmod w < w := Int.tmod_lt_of_pos _ (by omega)
  have h5 : 0 ≤ a.tdiv w := Int.tdiv_nonneg ha (by omega)
  have h6 : a.tdiv w ≤ a := Int.tdiv_le_self _ ha
  have h7 : 0 ≤ b.tdiv w := Int.tdiv_nonneg hb (by omega)
  have h8 : b.tdiv w ≤ b := Int.tdiv_le_self _ hb
  rw [w64 (x := a.tmod w - b.tmod w) (by omega) (by omega), w64 (x := a.tdiv w) (by omega) (by omega), w64 (x := b.tdiv w) (by omega) (by omega), w64 (x := a.tdiv w - b.tdiv w) (by omega) (by omega)]
  have hx1 : -(1000 : Int) ≤ a.tmod w - b.tmod w := by omega
  have hx2 : a.tmod w - b.tmod w ≤ 1000 := by omega
  have hy1 : -(1000000 : Int) ≤ a.tdiv w - b.tdiv w := by omega
  have hy2 : a.tdiv w - b.tdiv w ≤ 1000000 := by omega
  generalize a.tmod w - b.tmod w = x at hx1 hx2 ⊢
  generalize a.tdiv w - b.tdiv w = y at hy1 hy2 ⊢
  have qx := sq_le (n := 1000) hx1 hx2
  have qy := sq_le (n := 1000000) hy1 hy2
  rw [w64 (x := x * x) (by omega) (by omega), w64 (x := y * y) (by omega) (by omega), w64 (x := x * x + y * y) (by omega) (by omega)]
  have cx := sq_cases x
  have cy := sq_cases y
  rw [Bool.eq_iff_iff]
  simp only [Bool.or_eq_true, Bool.and_eq_true, beq_iff_eq]
  omega
theorem nearP_ok0 {w d a b : Int} {x1 x2 x3 x4 x5 : PV} (hw : 1 ≤ w) (hw6 : w ≤ 1000) (ha : 0 ≤ a) (ha2 : a < 1000000) (hb : 0 ≤ b) (hb2 : b < 1000000) (hH : 0 < H.length) :
    gcall0 KC (geval KC) 126 [.pure (.agg [.int .i64 w, .int .i64 d, x1, x2, x3, x4, x5]), .pure (.int .i64 a), .pure (.int .i64 b)] c H = some (.pure (.bool (nearV w a b)), H) := by
  refine WPv_eq (call_enter0 KC needT Try.func126 rfl rfl good126 (by simp) hH ?_)
  have e := near_eq hw hw6 ha ha2 hb hb2
  have w0 : ¬ w = 0 := by omega
  simp [w0, gleave_free]
  exact e
theorem nearP_ok {w d a b : Int} {x1 x2 x3 x4 x5 : PV} (hw : 1 ≤ w) (hw6 : w ≤ 1000) (ha : 0 ≤ a) (ha2 : a < 1000000) (hb : 0 ≤ b) (hb2 : b < 1000000) (hH : 0 < H.length) :
    gcall KC (geval KC) 126 [.pure (.agg [.int .i64 w, .int .i64 d, x1, x2, x3, x4, x5]), .pure (.int .i64 a), .pure (.int .i64 b)] c H = some (.pure (.bool (nearV w a b)), H) :=
  bor_c rfl rfl rfl rfl rfl hH fun H hH => nearP_ok0 hw hw6 ha ha2 hb hb2 hH

/-! ### the index of a number -/
noncomputable def idxV : List Int → Int → Int := hid fun l x => idxI (fun j => l.getD j 0 == x) l.length 0
theorem idxV_def (l : List Int) (x : Int) : idxV l x = idxI (fun j => l.getD j 0 == x) l.length 0 := by rw [idxV, hid_eq]
theorem idxI0_loop (l : List Int) (x : Int) (hn : l.length ≤ 1000000) (Q : GX → GSt → Prop) (hH : 0 < H.length) : ∀ k i : Nat, i + k = l.length →
    (idxI (fun j => l.getD j 0 == x) k i = -1 → Q (.exit 0) ⟨[(4, gdead)], H, 19⟩) → (0 ≤ idxI (fun j => l.getD j 0 == x) k i → Q .ret ⟨[(4, .pure (.int .i64 (idxI (fun j => l.getD j 0 == x) k i)))], H, 19⟩) →
    WPL KC needT 103 (lp Try.f103 0) [0, 1, 7, 8] [4] Q [(0, .pure (.slice (l.map irow))), (1, .pure (.int .i64 x)), (7, .pure (.int .i64 l.length)), (8, .pure (.int .i64 i))] H 19 := by
  intro k
  induction k with
  | zero =>
    intro i hi h1 h2
    apply WPL_step
    conv => arg 4; whnf
    have : ¬ i < l.length := by omega
    simp [this, hH]
    exact h1 rfl
  | succ k ih =>
    intro i hi h1 h2
    have hia : i < l.length := by omega
    have hw := w64 (x := (i : Int) + 1) (by omega) (by omega)
    have ih' := ih (i + 1) (by omega)
    have hg : l.getD i 0 = l[i] := getD_lt hia
    unfold idxI at h1 h2
    simp only [hg] at h1 h2
    apply WPL_step
    conv => arg 4; whnf
    by_cases he : x = l[i]
    · have he2 : (l[i] == x) = true := by simp [he]
      simp only [he2, if_true] at h1 h2
      simp [hia, hH, irow, he]
      exact h2 (by omega)
    · have he' : (x == l[i]) = false := by simpa using he
      have he2 : ¬ (l[i] == x) = true := by simp; exact fun e => he e.symm
      rw [if_neg he2] at h1 h2
      simp [hia, hH, irow, he', hw]
      simpa [irow] using ih' h1 h2
theorem index_int_ok (l : List Int) (x : Int) (hn : l.length ≤ 1000000) (hH : 0 < H.length) : gcall KC (geval KC) 103 [.pure (.slice (l.map irow)), .pure (.int .i64 x)] c H = some (.pure (.int .i64 (idxV l x)), H) := by
  refine bor_c rfl rfl rfl rfl rfl hH fun H hH => ?_
  refine WPv_eq (call_enter0 KC needT Try.func103 rfl rfl good103 (by simp) hH ?_)
  have hd := idxV_def l x
  simp
  refine idxI0_loop (H := [] :: H) l x hn _ (by simp) l.length 0 (by omega) (fun h => ?_) (fun h => ?_)
  · rw [← hd] at h
    simp [h, gleave_free]
  · rw [← hd]
    simp [gleave_free]
theorem contains_int_ok (l : List Int) (x : Int) (hn : l.length ≤ 1000000) (hH : 0 < H.length) : gcall KC (geval KC) 92 [.pure (.slice (l.map irow)), .pure (.int .i64 x)] c H = some (.pure (.bool (l.contains x)), H) := by
  refine bor_c rfl rfl rfl rfl rfl hH fun H hH => ?_
  refine WPv_eq (call_enter0 KC needT Try.func92 rfl rfl good92 (by simp) hH ?_)
  have I := fun c (H : Heap) (hH : 0 < H.length) => index_int_ok (c := c) (H := H) l x hn hH
  have e : decide (0 ≤ idxV l x) = l.contains x := by
    rw [idxV_def, Bool.eq_iff_iff, decide_eq_true_eq, idxI_nonneg, List.contains_iff_mem]
    constructor
    · rintro ⟨j, _, h2, h3⟩
      have hj : j < l.length := by omega
      rw [getD_lt hj] at h3
      have : l[j] = x := by simpa using h3
      exact this ▸ List.getElem_mem hj
    · intro h
      obtain ⟨j, hj, rfl⟩ := List.getElem_of_mem h
      exact ⟨j, by omega, by omega, by rw [getD_lt hj]; simp⟩
  simp only [List.contains_eq_mem] at e
  simp [I, gleave_free]
  simpa using e
theorem free_ok0 {r : Rite} {s : Scene} {w : Nat} (hw : w < s.hands.length) (hH : 0 < H.length) :
    gcall0 KC (geval KC) 127 [.pure (.agg (stRow r s)), .pure (.int .i64 w)] c H = some (.pure (.int .i64 (takerV s.hands w)), H) := by
  refine WPv_eq (call_enter0 KC needT Try.func127 rfl rfl good127 (by simp) hH ?_)
  have I := fun c (H : Heap) (hH : 0 < H.length) => index_int_ok (c := c) (H := H) [s.hands[w].l, s.hands[w].r] (-1) (by simp) hH
  have e : idxV [s.hands[w].l, s.hands[w].r] (-1) = takerV s.hands w := by
    rw [idxV_def]
    unfold takerV
    rw [getD_lt hw]
    simp [idxI]
  rw [e] at I
  simp [irow] at I
  have gs : ∀ a b : PV, gslice KC 53 (.pptr [a, b]) none none none = some (.pure (.slice [[a], [b]])) := fun a b => by
    have t53 : tarr Try.prog 53 = some (2, 3) := by kernel_rfl
    unfold gslice
    simp [chunks, t53]
  unfold stRow
  simp [hw, Hands.row, gs, I, gleave_free]
end Go.Gh


/- The program's stages: what is possible. -/
namespace Go.Gh
open Go.Proofs
set_option linter.unusedSimpArgs false
set_option linter.unusedVariables false
set_option linter.unnecessarySimpa false
set_option maxRecDepth 100000
set_option maxHeartbeats 4000000

variable {c : Nat} {H : Heap}

/-- A room that is valid. -/
structure WB (r : Rite) : Prop where
  w1 : 1 ≤ r.wide
  w6 : r.wide ≤ 1000
  n6 : r.wide * r.deep < 1000000
  pl : r.people.length ≤ 1000000
  tl : r.things.length ≤ 1000000

section
variable {r : Rite} {s : Scene} {w : Nat} {a : RAct}
theorem held_ok (hS : ScB r s) (hA : AB r w a) (hH : 0 < H.length) : gcall KC (geval KC) 107 [.pure (.agg (stRow r s)), .pure (.agg a.row)] c H = some (.pure (.int .i64 (handAt s.hands w a.hand)), H) :=
  bor_c rfl rfl rfl rfl rfl hH fun H hH => held_ok0 (by rw [hS.hl]; exact hA.wl) hA.who hA.hand hH
theorem beside_ok (hS : ScB r s) (hA : AB r w a) (hH : 0 < H.length) : gcall KC (geval KC) 106 [.pure (.agg (stRow r s)), .pure (.agg a.row)] c H = some (.pure (.int .i64 (handAt s.hands w (1 - a.hand))), H) :=
  bor_c rfl rfl rfl rfl rfl hH fun H hH => beside_ok0 (by rw [hS.hl]; exact hA.wl) hA.who hA.hand hH
theorem hasS_ok' (hS : Snd r s) {t : Nat} {b : Int} (ht : t < s.things.length) (hb : b = 2 ∨ b = 4) (hH : 0 < H.length) : gcall KC (geval KC) 128 [.pure (.agg (stRow r s)), .pure (.int .i64 t), .pure (.int .i64 b)] c H = some (.pure (.bool (hasV s.things t b)), H) :=
  bor_c rfl rfl rfl rfl rfl hH fun H hH => hasS_ok0 ht (hS.st t ht) hb hH
theorem free_ok {o : Nat} (ho : o < s.hands.length) (hH : 0 < H.length) : gcall KC (geval KC) 127 [.pure (.agg (stRow r s)), .pure (.int .i64 o)] c H = some (.pure (.int .i64 (takerV s.hands o)), H) :=
  bor_c rfl rfl rfl rfl rfl hH fun H hH => free_ok0 ho hH

theorem mayStep_ok (hS : Snd r s) (hW : WB r) (hA : AB r w a) (hk : a.kind = 1) (hH : 0 < H.length) :
    gcall KC (geval KC) 108 [.pure (.agg (stRow r s)), .pure (.agg a.row)] c H = some (.pure (.bool (posV r s w a)), H) := by
  refine bor_c rfl rfl rfl rfl rfl hH fun H hH => ?_
  refine WPv_eq (call_enter0 KC needT Try.func108 rfl rfl good108 (by simp) hH ?_)
  have hwp : w < s.people.length := by rw [hS.pl]; exact hA.wl
  have C1 := cell_of hS hA.wl
  have C2 := hA.step hk
  have n6 := hW.n6
  have hd := posV_1 (r := r) (s := s) (w := w) hk
  rw [getD_lt hwp] at hd C1
  have N := fun c (H : Heap) (hH : 0 < H.length) => nearP_ok (c := c) (H := H) (w := r.wide) (d := r.deep) (a := s.people[w]) (b := a.cell) (x1 := .slice (r.people.map Person.row)) (x2 := .slice (r.things.map Thing.row)) (x3 := .slice (r.seen.map irow)) (x4 := .slice (r.lapses.map irow)) (x5 := .slice (r.acts.map RAct.row)) hW.w1 hW.w6 C1.1 (by omega) C2.1 (by omega) hH
  have CT := fun c (H : Heap) (hH : 0 < H.length) => contains_int_ok (c := c) (H := H) s.people a.cell (by rw [hS.pl]; exact hW.pl) hH
  rw [actRow]
  unfold stRow
  cases hn : nearV r.wide s.people[w] a.cell with
  | false =>
    simp [hn] at hd
    simp [hA.who, hwp, irow, N, hn, gleave_free, hd]
  | true =>
    rw [hn, Bool.and_true] at hd
    cases hc : s.people.contains a.cell with
    | false =>
      rw [hc] at hd CT
      simp [hA.who, hwp, irow, N, hn, CT, gleave_free, hd]
    | true =>
      rw [hc] at hd CT
      simp [hA.who, hwp, irow, N, hn, CT, gleave_free, hd]

theorem mayTake_ok (hS : Snd r s) (hA : AB r w a) (hk : a.kind = 2) (hH : 0 < H.length) :
    gcall KC (geval KC) 110 [.pure (.agg (stRow r s)), .pure (.agg a.row)] c H = some (.pure (.bool (posV r s w a)), H) := by
  refine bor_c rfl rfl rfl rfl rfl hH fun H hH => ?_
  refine WPv_eq (call_enter0 KC needT Try.func110 rfl rfl good110 (by simp) hH ?_)
  have hwp : w < s.people.length := by rw [hS.pl]; exact hA.wl
  obtain ⟨t, ht, htl⟩ := hA.take hk
  have htl' : t < s.things.length := by rw [hS.tl]; exact htl
  have R := handAt_rng hS.toScB (w := w) (hand := a.hand) hA.wl
  have hd := posV_2 (r := r) (s := s) (w := w) hk
  rw [getD_lt hwp, ht, Int.toNat_natCast, getD_lt htl'] at hd
  have E := fun c (H : Heap) (hH : 0 < H.length) => held_ok (c := c) (H := H) hS.toScB hA hH
  rw [actRow] at E ⊢
  unfold stRow at E ⊢
  by_cases h0 : handAt s.hands w a.hand < 0
  · have h1 : handAt s.hands w a.hand = -1 := by omega
    rw [h1] at hd E
    simp at hd
    simp [hA.who, ht] at E
    simp [hA.who, hwp, irow, E, Spot.row, ht, htl', gleave_free, hd]
  · have h1 : ¬ handAt s.hands w a.hand = -1 := by omega
    have h1' : (handAt s.hands w a.hand == -1) = false := by simpa using h1
    rw [h1', Bool.false_and] at hd
    simp [hA.who, ht] at E
    simp [hA.who, ht, E, h0, gleave_free, hd]

theorem mayLay_ok (hS : Snd r s) (hA : AB r w a) (hk : a.kind = 3) (hH : 0 < H.length) :
    gcall KC (geval KC) 112 [.pure (.agg (stRow r s)), .pure (.agg a.row)] c H = some (.pure (.bool (posV r s w a)), H) := by
  refine bor_c rfl rfl rfl rfl rfl hH fun H hH => ?_
  refine WPv_eq (call_enter0 KC needT Try.func112 rfl rfl good112 (by simp) hH ?_)
  have hd := posV_3 (r := r) (s := s) (w := w) hk
  have E := fun c (H : Heap) (hH : 0 < H.length) => held_ok (c := c) (H := H) hS.toScB hA hH
  rw [actRow] at E ⊢
  unfold stRow at E ⊢
  simp [E, gleave_free, hd]

theorem mayGive_ok (hS : Snd r s) (hW : WB r) (hA : AB r w a) (hk : a.kind = 4) (hH : 0 < H.length) :
    gcall KC (geval KC) 114 [.pure (.agg (stRow r s)), .pure (.agg a.row)] c H = some (.pure (.bool (posV r s w a)), H) := by
  refine bor_c rfl rfl rfl rfl rfl hH fun H hH => ?_
  refine WPv_eq (call_enter0 KC needT Try.func114 rfl rfl good114 (by simp) hH ?_)
  have hwp : w < s.people.length := by rw [hS.pl]; exact hA.wl
  obtain ⟨o, ho, hol, _⟩ := hA.give hk
  have hop : o < s.people.length := by rw [hS.pl]; exact hol
  have hoh : o < s.hands.length := by rw [hS.hl]; exact hol
  have C1 := cell_of hS hA.wl
  have C2 := cell_of hS hol
  have n6 := hW.n6
  have hd := posV_4 (r := r) (s := s) (w := w) hk
  rw [getD_lt hwp, ho, Int.toNat_natCast, getD_lt hop] at hd
  rw [getD_lt hwp] at C1
  rw [getD_lt hop] at C2
  have N := fun c (H : Heap) (hH : 0 < H.length) => nearP_ok (c := c) (H := H) (w := r.wide) (d := r.deep) (a := s.people[w]) (b := s.people[o]) (x1 := .slice (r.people.map Person.row)) (x2 := .slice (r.things.map Thing.row)) (x3 := .slice (r.seen.map irow)) (x4 := .slice (r.lapses.map irow)) (x5 := .slice (r.acts.map RAct.row)) hW.w1 hW.w6 C1.1 (by omega) C2.1 (by omega) hH
  have E := fun c (H : Heap) (hH : 0 < H.length) => held_ok (c := c) (H := H) hS.toScB hA hH
  have G := fun c (H : Heap) (hH : 0 < H.length) => free_ok (c := c) (H := H) (r := r) hoh hH
  rw [actRow] at E ⊢
  unfold stRow at E G ⊢
  by_cases h0 : 0 ≤ handAt s.hands w a.hand
  · cases hn : nearV r.wide s.people[w] s.people[o] with
    | false =>
      simp [hn] at hd
      simp [hA.who, ho] at E
      simp [hA.who, hwp, irow, E, h0, N, hn, ho, hop, gleave_free, hd]
    | true =>
      simp [hn, h0] at hd
      simp [hA.who, ho] at E
      simp [hA.who, hwp, irow, E, h0, N, hn, ho, hop, G, gleave_free, hd]
  · simp [h0] at hd
    simp [hA.who, ho] at E
    simp [hA.who, ho, E, h0, gleave_free, hd]

theorem mayWipe_ok (hS : Snd r s) (hA : AB r w a) (hk : a.kind = 5) (hH : 0 < H.length) :
    gcall KC (geval KC) 116 [.pure (.agg (stRow r s)), .pure (.agg a.row)] c H = some (.pure (.bool (posV r s w a)), H) := by
  refine bor_c rfl rfl rfl rfl rfl hH fun H hH => ?_
  refine WPv_eq (call_enter0 KC needT Try.func116 rfl rfl good116 (by simp) hH ?_)
  have R := handAt_rng hS.toScB (w := w) (hand := a.hand) hA.wl
  have hd := posV_5 (r := r) (s := s) (w := w) hk
  have E := fun c (H : Heap) (hH : 0 < H.length) => held_ok (c := c) (H := H) hS.toScB hA hH
  have G := fun c (H : Heap) (hH : 0 < H.length) => beside_ok (c := c) (H := H) hS.toScB hA hH
  rw [actRow] at E G ⊢
  unfold stRow at E G ⊢
  by_cases h0 : 0 ≤ handAt s.hands w a.hand
  · obtain ⟨t, ht⟩ := Int.eq_ofNat_of_zero_le h0
    have htl : t < r.things.length := by have := hS.tl; omega
    rw [ht, Int.toNat_natCast, getD_lt htl] at hd
    rw [ht] at E
    have ht0 : (0 : Int) ≤ t := by omega
    cases hc : r.things[t].cloth with
    | false =>
      simp [hc] at hd
      simp [E, ht0, htl, Thing.row, hc, gleave_free, hd]
    | true =>
      simp [hc] at hd
      simp [E, G, ht0, htl, Thing.row, hc, gleave_free, hd]
  · simp [h0] at hd
    simp [E, h0, gleave_free, hd]

theorem mayPour_ok (hS : Snd r s) (hA : AB r w a) (hk : a.kind = 6) (hH : 0 < H.length) :
    gcall KC (geval KC) 118 [.pure (.agg (stRow r s)), .pure (.agg a.row)] c H = some (.pure (.bool (posV r s w a)), H) := by
  refine bor_c rfl rfl rfl rfl rfl hH fun H hH => ?_
  refine WPv_eq (call_enter0 KC needT Try.func118 rfl rfl good118 (by simp) hH ?_)
  have R := handAt_rng hS.toScB (w := w) (hand := a.hand) hA.wl
  have R2 := handAt_rng hS.toScB (w := w) (hand := 1 - a.hand) hA.wl
  have hd := posV_6 (r := r) (s := s) (w := w) hk
  have E := fun c (H : Heap) (hH : 0 < H.length) => held_ok (c := c) (H := H) hS.toScB hA hH
  have G := fun c (H : Heap) (hH : 0 < H.length) => beside_ok (c := c) (H := H) hS.toScB hA hH
  have V := fun (t : Nat) (ht : t < s.things.length) (b : Int) (hb : b = 2 ∨ b = 4) c (H : Heap) (hH : 0 < H.length) => hasS_ok' (c := c) (H := H) hS ht hb hH
  rw [actRow] at E G ⊢
  unfold stRow at E G V ⊢
  have neg : ∀ x b : Int, ¬ 0 ≤ x → hasV s.things x b = false := fun x b h => by rw [hasV_def, decide_eq_false h]; rfl
  by_cases h0 : 0 ≤ handAt s.hands w a.hand
  · obtain ⟨t, ht⟩ := Int.eq_ofNat_of_zero_le h0
    have htl : t < s.things.length := by omega
    rw [ht] at hd E
    have ht0 : (0 : Int) ≤ t := by omega
    have V1 := V t htl 2 (.inl rfl)
    have V2 := V t htl 4 (.inr rfl)
    by_cases k0 : 0 ≤ handAt s.hands w (1 - a.hand)
    · obtain ⟨u, hu⟩ := Int.eq_ofNat_of_zero_le k0
      have hul : u < s.things.length := by omega
      rw [hu] at hd G
      have hu0 : (0 : Int) ≤ u := by omega
      have V3 := V u hul 2 (.inl rfl)
      have V4 := V u hul 4 (.inr rfl)
      cases x1 : hasV s.things t 2 with
      | false =>
        rw [x1] at hd V1
        simp at hd
        simp [E, G, ht0, hu0, V1, gleave_free, hd]
      | true =>
        cases x2 : hasV s.things t 4 with
        | true =>
          rw [x1, x2] at hd
          rw [x1] at V1
          rw [x2] at V2
          simp at hd
          simp [E, G, ht0, hu0, V1, V2, gleave_free, hd]
        | false =>
          cases x3 : hasV s.things u 2 with
          | true =>
            rw [x1, x2, x3] at hd
            rw [x1] at V1
            rw [x2] at V2
            rw [x3] at V3
            simp at hd
            simp [E, G, ht0, hu0, V1, V2, V3, gleave_free, hd]
          | false =>
            rw [x1, x2, x3] at hd
            rw [x1] at V1
            rw [x2] at V2
            rw [x3] at V3
            simp at hd
            simp [E, G, ht0, hu0, V1, V2, V3, V4, gleave_free, hd]
    · simp [k0] at hd
      simp [E, G, ht0, k0, gleave_free, hd]
  · rw [neg _ _ h0] at hd
    simp at hd
    simp [E, h0, gleave_free, hd]

theorem mayCover_ok (hS : Snd r s) (hA : AB r w a) (hk : a.kind = 7) (hH : 0 < H.length) :
    gcall KC (geval KC) 120 [.pure (.agg (stRow r s)), .pure (.agg a.row)] c H = some (.pure (.bool (posV r s w a)), H) := by
  refine bor_c rfl rfl rfl rfl rfl hH fun H hH => ?_
  refine WPv_eq (call_enter0 KC needT Try.func120 rfl rfl good120 (by simp) hH ?_)
  have R := handAt_rng hS.toScB (w := w) (hand := a.hand) hA.wl
  have hd := posV_7 (r := r) (s := s) (w := w) hk
  have E := fun c (H : Heap) (hH : 0 < H.length) => held_ok (c := c) (H := H) hS.toScB hA hH
  have V := fun (t : Nat) (ht : t < s.things.length) c (H : Heap) (hH : 0 < H.length) => hasS_ok' (c := c) (H := H) hS ht (b := 4) (.inr rfl) hH
  rw [actRow] at E ⊢
  unfold stRow at E V ⊢
  by_cases h0 : 0 ≤ handAt s.hands w a.hand
  · obtain ⟨t, ht⟩ := Int.eq_ofNat_of_zero_le h0
    have htl : t < s.things.length := by omega
    rw [ht] at hd E
    have ht0 : (0 : Int) ≤ t := by omega
    have V1 := V t htl
    simp at hd
    simp [E, ht0, V1, gleave_free, hd]
  · simp [h0] at hd
    simp [E, h0, gleave_free, hd]
theorem mayOpen_ok (hS : Snd r s) (hA : AB r w a) (hk : a.kind = 8) (hH : 0 < H.length) :
    gcall KC (geval KC) 122 [.pure (.agg (stRow r s)), .pure (.agg a.row)] c H = some (.pure (.bool (posV r s w a)), H) := by
  refine bor_c rfl rfl rfl rfl rfl hH fun H hH => ?_
  refine WPv_eq (call_enter0 KC needT Try.func122 rfl rfl good122 (by simp) hH ?_)
  have R := handAt_rng hS.toScB (w := w) (hand := a.hand) hA.wl
  have hd := posV_8 (r := r) (s := s) (w := w) hk
  have E := fun c (H : Heap) (hH : 0 < H.length) => held_ok (c := c) (H := H) hS.toScB hA hH
  have V := fun (t : Nat) (ht : t < s.things.length) c (H : Heap) (hH : 0 < H.length) => hasS_ok' (c := c) (H := H) hS ht (b := 4) (.inr rfl) hH
  rw [actRow] at E ⊢
  unfold stRow at E V ⊢
  by_cases h0 : 0 ≤ handAt s.hands w a.hand
  · obtain ⟨t, ht⟩ := Int.eq_ofNat_of_zero_le h0
    have htl : t < s.things.length := by omega
    rw [ht] at hd E
    have ht0 : (0 : Int) ≤ t := by omega
    have V1 := V t htl
    simp [E, ht0, V1, gleave_free, hd]
  · rw [hasV_def, decide_eq_false h0] at hd
    simp at hd
    simp [E, h0, gleave_free, hd]

/-! ### the ways of acts -/
theorem way_ok {k : Nat} (hk : 1 ≤ k ∧ k ≤ 8) (hH : 0 < H.length) : gcall KC (geval KC) 97 [.pure (.int .i64 k)] c H = some (.pure (.agg [.fn (108 + 2 * (k - 1)), .fn (109 + 2 * (k - 1))]), H) := by
  refine WPv_eq (call_enter KC needT Try.func97 rfl rfl good97 rfl rfl rfl (by simp) hH ?_)
  obtain ⟨k1, k8⟩ := hk
  match k, k1, k8 with
  | 1, _, _ => simp [gleave_free]
  | 2, _, _ => simp [gleave_free]
  | 3, _, _ => simp [gleave_free]
  | 4, _, _ => simp [gleave_free]
  | 5, _, _ => simp [gleave_free]
  | 6, _, _ => simp [gleave_free]
  | 7, _, _ => simp [gleave_free]
  | 8, _, _ => simp [gleave_free]
end
end Go.Gh


/- The program's stages: what is touched; may. -/
namespace Go.Gh
open Go.Proofs
set_option linter.unusedSimpArgs false
set_option linter.unusedVariables false
set_option linter.unnecessarySimpa false
set_option maxRecDepth 100000
set_option maxHeartbeats 4000000

variable {c : Nat} {H : Heap}

section
variable {r : Rite} {s : Scene} {w : Nat} {a : RAct}
theorem may_ok (hS : Snd r s) (hW : WB r) (hA : AB r w a) (hH : 0 < H.length) :
    gcall KC (geval KC) 95 [.pure (.agg (stRow r s)), .pure (.agg a.row)] c H = some (.pure (.bool (posV r s w a)), H) := by
  refine bor_c rfl rfl rfl rfl rfl hH fun H hH => ?_
  refine WPv_eq (call_enter0 KC needT Try.func95 rfl rfl good95 (by simp) hH ?_)
  have W := fun (k : Nat) (hk : 1 ≤ k ∧ k ≤ 8) c (H : Heap) (hH : 0 < H.length) => way_ok (c := c) (H := H) hk hH
  have W1 := W 1 (by omega)
  have W2 := W 2 (by omega)
  have W3 := W 3 (by omega)
  have W4 := W 4 (by omega)
  have W5 := W 5 (by omega)
  have W6 := W 6 (by omega)
  have W7 := W 7 (by omega)
  have W8 := W 8 (by omega)
  simp at W1 W2 W3 W4 W5 W6 W7 W8
  rcases kinds8 hA.kind with k | k | k | k | k | k | k | k
  · have M := fun c (H : Heap) (hH : 0 < H.length) => mayStep_ok (c := c) (H := H) hS hW hA k hH
    rw [actRow, k] at M ⊢
    unfold stRow at M ⊢
    simp [W1, M, gleave_free]
  · have M := fun c (H : Heap) (hH : 0 < H.length) => mayTake_ok (c := c) (H := H) hS hA k hH
    rw [actRow, k] at M ⊢
    unfold stRow at M ⊢
    simp [W2, M, gleave_free]
  · have M := fun c (H : Heap) (hH : 0 < H.length) => mayLay_ok (c := c) (H := H) hS hA k hH
    rw [actRow, k] at M ⊢
    unfold stRow at M ⊢
    simp [W3, M, gleave_free]
  · have M := fun c (H : Heap) (hH : 0 < H.length) => mayGive_ok (c := c) (H := H) hS hW hA k hH
    rw [actRow, k] at M ⊢
    unfold stRow at M ⊢
    simp [W4, M, gleave_free]
  · have M := fun c (H : Heap) (hH : 0 < H.length) => mayWipe_ok (c := c) (H := H) hS hA k hH
    rw [actRow, k] at M ⊢
    unfold stRow at M ⊢
    simp [W5, M, gleave_free]
  · have M := fun c (H : Heap) (hH : 0 < H.length) => mayPour_ok (c := c) (H := H) hS hA k hH
    rw [actRow, k] at M ⊢
    unfold stRow at M ⊢
    simp [W6, M, gleave_free]
  · have M := fun c (H : Heap) (hH : 0 < H.length) => mayCover_ok (c := c) (H := H) hS hA k hH
    rw [actRow, k] at M ⊢
    unfold stRow at M ⊢
    simp [W7, M, gleave_free]
  · have M := fun c (H : Heap) (hH : 0 < H.length) => mayOpen_ok (c := c) (H := H) hS hA k hH
    rw [actRow, k] at M ⊢
    unfold stRow at M ⊢
    simp [W8, M, gleave_free]

/-- What an act touches: people 0, things 1, cells 2. -/
def touchP (s : Scene) (w : Nat) (a : RAct) : List (Int × Int) :=
  if a.kind = 1 then [(0, a.who), (2, s.people.getD w 0), (2, a.cell)]
  else if a.kind = 2 then [(0, a.who), (1, a.thing)]
  else if a.kind = 4 then [(0, a.who), (0, a.other), (1, handAt s.hands w a.hand)]
  else if a.kind = 5 ∨ a.kind = 6 then [(0, a.who), (1, handAt s.hands w (1 - a.hand)), (1, handAt s.hands w a.hand)]
  else [(0, a.who), (1, handAt s.hands w a.hand)]
def pairRow (x : Int × Int) : List PV := [.int .i64 x.1, .int .i64 x.2]

theorem touchesP_ok (hS : Snd r s) (hA : AB r w a) (hH : 0 < H.length) :
    gcall KC (geval KC) 96 [.pure (.agg (stRow r s)), .pure (.agg a.row)] c H = some (.pure (.slice ((touchP s w a).map pairRow)), H) := by
  refine WPv_eq (call_enter KC needT Try.func96 rfl rfl good96 rfl rfl rfl (by simp) hH ?_)
  have hwp : w < s.people.length := by rw [hS.pl]; exact hA.wl
  have E := fun c (H : Heap) (hH : 0 < H.length) => held_ok (c := c) (H := H) hS.toScB hA hH
  have G := fun c (H : Heap) (hH : 0 < H.length) => beside_ok (c := c) (H := H) hS.toScB hA hH
  have hnl : ¬ H.length ≤ H.length - 1 := by omega
  have hp := getD_lt (d := 0) hwp
  unfold touchP
  rcases kinds8 hA.kind with k | k | k | k | k | k | k | k
  · rw [actRow, k] at E G ⊢
    unfold stRow at E G ⊢
    simp [hA.who] at E G
    simp [hA.who, hwp, irow, E, G, pairRow, hp, gleave_free, hnl]
  · rw [actRow, k] at E G ⊢
    unfold stRow at E G ⊢
    simp [hA.who] at E G
    simp [hA.who, hwp, irow, E, G, pairRow, hp, gleave_free, hnl]
  · rw [actRow, k] at E G ⊢
    unfold stRow at E G ⊢
    simp [hA.who] at E G
    simp [hA.who, hwp, irow, E, G, pairRow, hp, gleave_free, hnl]
  · rw [actRow, k] at E G ⊢
    unfold stRow at E G ⊢
    simp [hA.who] at E G
    simp [hA.who, hwp, irow, E, G, pairRow, hp, gleave_free, hnl]
  · rw [actRow, k] at E G ⊢
    unfold stRow at E G ⊢
    simp [hA.who] at E G
    simp [hA.who, hwp, irow, E, G, pairRow, hp, gleave_free, hnl]
  · rw [actRow, k] at E G ⊢
    unfold stRow at E G ⊢
    simp [hA.who] at E G
    simp [hA.who, hwp, irow, E, G, pairRow, hp, gleave_free, hnl]
  · rw [actRow, k] at E G ⊢
    unfold stRow at E G ⊢
    simp [hA.who] at E G
    simp [hA.who, hwp, irow, E, G, pairRow, hp, gleave_free, hnl]
  · rw [actRow, k] at E G ⊢
    unfold stRow at E G ⊢
    simp [hA.who] at E G
    simp [hA.who, hwp, irow, E, G, pairRow, hp, gleave_free, hnl]

/-- Touched in common, both ways. -/
theorem touchP_apa {s : Scene} {w v : Nat} {a b : RAct} : Apa (touchV s w a) (touchV s v b) ↔ ∀ x ∈ touchP s w a, x ∉ touchP s v b := by
  have mem : ∀ (w : Nat) (a : RAct) (x : Int × Int), x ∈ touchP s w a ↔ (x.1 = 0 ∧ x.2 ∈ (touchV s w a).people) ∨ (x.1 = 1 ∧ x.2 ∈ (touchV s w a).things) ∨ (x.1 = 2 ∧ x.2 ∈ (touchV s w a).cells) := fun w a x => by
    obtain ⟨p, q⟩ := x
    unfold touchP
    rw [touchV_def]
    simp only [heldV_eq]
    repeat' split
    all_goals simp only [List.mem_cons, List.not_mem_nil, or_false, Prod.mk.injEq]
    all_goals grind
  constructor
  · intro h x hx hy
    rw [mem] at hx hy
    rcases hx with ⟨e, hx⟩ | ⟨e, hx⟩ | ⟨e, hx⟩
    · rcases hy with ⟨_, hy⟩ | ⟨e', hy⟩ | ⟨e', hy⟩
      · exact h.ap _ hx hy
      · omega
      · omega
    · rcases hy with ⟨e', hy⟩ | ⟨_, hy⟩ | ⟨e', hy⟩
      · omega
      · exact h.at' _ hx hy
      · omega
    · rcases hy with ⟨e', hy⟩ | ⟨e', hy⟩ | ⟨_, hy⟩
      · omega
      · omega
      · exact h.ac _ hx hy
  · intro h
    refine ⟨fun x h1 h2 => h (0, x) ((mem _ _ _).2 (.inl ⟨rfl, h1⟩)) ((mem _ _ _).2 (.inl ⟨rfl, h2⟩)), fun x h1 h2 => h (1, x) ((mem _ _ _).2 (.inr (.inl ⟨rfl, h1⟩))) ((mem _ _ _).2 (.inr (.inl ⟨rfl, h2⟩))), fun x h1 h2 => h (2, x) ((mem _ _ _).2 (.inr (.inr ⟨rfl, h1⟩))) ((mem _ _ _).2 (.inr (.inr ⟨rfl, h2⟩)))⟩
end
end Go.Gh


/- The program's stages: what acts do. -/
namespace Go.Gh
open Go.Proofs
set_option linter.unusedSimpArgs false
set_option linter.unusedVariables false
set_option linter.unnecessarySimpa false
set_option maxRecDepth 100000
set_option maxHeartbeats 4000000

variable {c : Nat} {H : Heap}

/-! ### states -/
theorem bits_or : ∀ q : Fin 16, ∀ b ∈ [(1 : Int), 2, 4], bor .i64 ((q.1 : Nat) : Int) b = if ((IntKind.i64.wrap (((q.1 : Nat) : Int).tdiv b)).tmod 2 == 1) then ((q.1 : Nat) : Int) else IntKind.i64.wrap (((q.1 : Nat) : Int) + b) := by decide +kernel
theorem bits_andn : ∀ q : Fin 16, ∀ b ∈ [(1 : Int), 2, 4], bandn ((q.1 : Nat) : Int) b = if ((IntKind.i64.wrap (((q.1 : Nat) : Int).tdiv b)).tmod 2 == 1) then IntKind.i64.wrap (((q.1 : Nat) : Int) - b) else ((q.1 : Nat) : Int) := by decide +kernel
theorem bits_3 : ∀ q : Fin 16, bandn ((q.1 : Nat) : Int) 3 = bandn (bandn ((q.1 : Nat) : Int) 2) 1 ∧ 0 ≤ bandn ((q.1 : Nat) : Int) 2 ∧ bandn ((q.1 : Nat) : Int) 2 < 16 := by decide +kernel

section
variable {ts : List Spot} {t : Nat} {b : Int}
theorem setV_on (ht : t < ts.length) (hs : 0 ≤ (ts.getD t spot0).state ∧ (ts.getD t spot0).state < 16) (hb : b = 1 ∨ b = 2 ∨ b = 4) :
    setV ts t b true = ts.set t ⟨(ts.getD t spot0).cell, bor .i64 (ts.getD t spot0).state b⟩ := by
  obtain ⟨q, hq⟩ := Int.eq_ofNat_of_zero_le hs.1
  have B := bits_or ⟨q, by omega⟩ b (by simp; exact hb)
  simp only [← hq] at B
  have h0 : decide ((0 : Int) ≤ t) = true := by simp
  rw [setV_def, hasV_def, h0, Bool.true_and]
  simp only [Int.toNat_natCast]
  rw [B]
  by_cases h : ((IntKind.i64.wrap ((ts.getD t spot0).state.tdiv b)).tmod 2 == 1) = true
  · rw [if_pos h, if_pos h]
    exact (set_self ts t spot0).symm
  · rw [if_neg h, if_neg h]; simp
theorem setV_off (ht : t < ts.length) (hs : 0 ≤ (ts.getD t spot0).state ∧ (ts.getD t spot0).state < 16) (hb : b = 1 ∨ b = 2 ∨ b = 4) :
    setV ts t b false = ts.set t ⟨(ts.getD t spot0).cell, bandn (ts.getD t spot0).state b⟩ := by
  obtain ⟨q, hq⟩ := Int.eq_ofNat_of_zero_le hs.1
  have B := bits_andn ⟨q, by omega⟩ b (by simp; exact hb)
  simp only [← hq] at B
  have h0 : decide ((0 : Int) ≤ t) = true := by simp
  rw [setV_def, hasV_def, h0, Bool.true_and]
  simp only [Int.toNat_natCast]
  rw [B]
  split
  · rename_i h
    have h' : ¬ ((IntKind.i64.wrap ((ts.getD t spot0).state.tdiv b)).tmod 2 == 1) = true := by rw [h]; simp
    rw [if_neg h']
    exact (set_self ts t spot0).symm
  · rename_i h
    have h' : ((IntKind.i64.wrap ((ts.getD t spot0).state.tdiv b)).tmod 2 == 1) = true := by simpa using h
    rw [if_pos h']; rfl
theorem setV_off3 (ht : t < ts.length) (hs : 0 ≤ (ts.getD t spot0).state ∧ (ts.getD t spot0).state < 16) :
    setV (setV ts t 2 false) t 1 false = ts.set t ⟨(ts.getD t spot0).cell, bandn (ts.getD t spot0).state 3⟩ := by
  obtain ⟨q, hq⟩ := Int.eq_ofNat_of_zero_le hs.1
  obtain ⟨b1, b2, b3⟩ := bits_3 ⟨q, by omega⟩
  simp only [← hq] at b1 b2 b3
  rw [setV_off ht hs (.inr (.inl rfl))]
  have e : (ts.set t ⟨(ts.getD t spot0).cell, bandn (ts.getD t spot0).state 2⟩).getD t spot0 = ⟨(ts.getD t spot0).cell, bandn (ts.getD t spot0).state 2⟩ := by rw [getDs ht, if_pos rfl]
  rw [setV_off (by simpa using ht) (by rw [e]; exact ⟨b2, b3⟩) (.inl rfl), e, b1]
  simp
end

/-- A stage whose scene lies in blocks. -/
def stG (r : Rite) (n1 n2 n3 : Nm) (s : Scene) : GV := .agg [.pure (.int .i64 r.wide), .pure (.int .i64 r.deep), .pure (.slice (r.people.map Person.row)), .pure (.slice (r.things.map Thing.row)), .pure (.slice (r.seen.map irow)), .pure (.slice (r.lapses.map irow)), .pure (.slice (r.acts.map RAct.row)), .hdr n1 1 s.people.length 0 s.people.length, .hdr n2 2 s.hands.length 0 s.hands.length, .hdr n3 2 s.things.length 0 s.things.length]

section
variable {r : Rite} {s : Scene} {w : Nat} {a : RAct} {n1 n2 n3 : Nm} {v1 v2 v3 : Nat}
theorem stG_rd (h : ScAt H n1 n2 n3 v1 v2 v3 s) : rdG H (stG r n1 n2 n3 s) (.agg (stRow r s)) := by
  unfold stG stRow
  rw [rdG_agg]
  simp only [rdL_cons, rdL_nil, rdC_pure, and_true, true_and]
  exact ⟨⟨_, v1, false, h.g1, h.e1, by simp, rfl, rfl, rfl⟩, ⟨_, v2, false, h.g2, h.e2, by simp, rfl, rfl, rfl⟩, ⟨_, v3, false, h.g3, h.e3, by simp, rfl, rfl, rfl⟩⟩
theorem heldB_ok (h : ScAt H n1 n2 n3 v1 v2 v3 s) (hw : w < s.hands.length) (h1 : a.who = w) (h2 : a.hand = 0 ∨ a.hand = 1) (hH : 0 < H.length) :
    gcall KC (geval KC) 107 [stG r n1 n2 n3 s, .pure (.agg a.row)] c H = some (.pure (.int .i64 (handAt s.hands w a.hand)), H) :=
  bor_flat KC rfl rfl (frz2 (stG_rd h) (show rdG H (.pure (.agg a.row)) (.agg a.row) from rfl)) rfl hH (fun H hH => held_ok0 (c := c) hw h1 h2 hH) rfl
theorem besideB_ok (h : ScAt H n1 n2 n3 v1 v2 v3 s) (hw : w < s.hands.length) (h1 : a.who = w) (h2 : a.hand = 0 ∨ a.hand = 1) (hH : 0 < H.length) :
    gcall KC (geval KC) 106 [stG r n1 n2 n3 s, .pure (.agg a.row)] c H = some (.pure (.int .i64 (handAt s.hands w (1 - a.hand))), H) :=
  bor_flat KC rfl rfl (frz2 (stG_rd h) (show rdG H (.pure (.agg a.row)) (.agg a.row) from rfl)) rfl hH (fun H hH => beside_ok0 (c := c) hw h1 h2 hH) rfl
theorem freeB_ok (h : ScAt H n1 n2 n3 v1 v2 v3 s) {o : Nat} (ho : o < s.hands.length) (hH : 0 < H.length) :
    gcall KC (geval KC) 127 [stG r n1 n2 n3 s, .pure (.int .i64 o)] c H = some (.pure (.int .i64 (takerV s.hands o)), H) :=
  bor_flat KC rfl rfl (frz2 (stG_rd h) (show rdG H (.pure (.int .i64 o)) (.int .i64 o) from rfl)) rfl hH (fun H hH => free_ok0 (c := c) ho hH) rfl

/-- The blocks after a call. -/
def DoR (H : Heap) (f : Nat) (r : Rite) (n1 n2 n3 : Nm) (s : Scene) (w : Nat) (a : RAct) (c : Nat) : Prop :=
  ∃ v1' v2' v3', v1' ≤ s.people.length ∧ v2' ≤ s.hands.length ∧ v3' ≤ s.things.length ∧
    gcall KC (geval KC) f [stG r n1 n2 n3 s, .pure (.agg a.row)] c H = some (.pure (.tuple []), scSet H n1 n2 n3 v1' v2' v3' (doV s w a))

theorem doP_ok (h : ScSelf H n1 n2 n3 v1 v2 v3 s) (hb : DoB s w a) (hst : ∀ t : Nat, t < s.things.length → 0 ≤ (s.things.getD t spot0).state ∧ (s.things.getD t spot0).state < 16) (hH : 0 < H.length) :
    (a.kind = 1 → DoR H 109 r n1 n2 n3 s w a c) ∧ (a.kind = 2 → DoR H 111 r n1 n2 n3 s w a c) ∧ (a.kind = 3 → DoR H 113 r n1 n2 n3 s w a c) ∧ (a.kind = 4 → DoR H 115 r n1 n2 n3 s w a c) ∧
    (a.kind = 5 → DoR H 117 r n1 n2 n3 s w a c) ∧ (a.kind = 6 → DoR H 119 r n1 n2 n3 s w a c) ∧ (a.kind = 7 → DoR H 121 r n1 n2 n3 s w a c) ∧ (a.kind = 8 → DoR H 123 r n1 n2 n3 s w a c) := by
  have l1 := Heap.get_lt h.g1
  have l2 := Heap.get_lt h.g2
  have l3 := Heap.get_lt h.g3
  have d1 : ¬ n1.1 = H.length := by omega
  have d2 : ¬ n2.1 = H.length := by omega
  have d3 : ¬ n3.1 = H.length := by omega
  have hp := hb.hp
  have hh := hb.hh
  have hwho := hb.who
  have hg : s.hands.getD w hands0 = s.hands[w] := getD_lt hh
  have hgp : s.people.getD w 0 = s.people[w] := getD_lt hp
  have G23 : ∀ b, (H.set n2 b).get n3 = H.get n3 := fun b => Heap.get_set_other b h.n23.symm
  have G32 : ∀ b, (H.set n3 b).get n2 = H.get n2 := fun b => Heap.get_set_other b h.n23
  have C32 : ∀ x y, (H.set n3 x).set n2 y = (H.set n2 y).set n3 x := fun x y => Heap.set_comm h.n23.symm
  have G31 : ∀ b, (H.set n3 b).get n1 = H.get n1 := fun b => Heap.get_set_other b h.n13
  have S2 : ∀ x, (H.set n1 x).set n2 (.arr 2 (s.hands.map Hands.row) v2 false) = H.set n1 x := fun x => by rw [Heap.set_comm h.n12, h.s2]
  have S3 : ∀ x, (H.set n1 x).set n3 (.arr 2 (s.things.map Spot.row) v3 false) = H.set n1 x := fun x => by rw [Heap.set_comm h.n13, h.s3]
  have S4 : ∀ x, (H.set n2 x).set n3 (.arr 2 (s.things.map Spot.row) v3 false) = H.set n2 x := fun x => by rw [Heap.set_comm h.n23, h.s3]
  have s1 := h.s1
  have s2 := h.s2
  have s3 := h.s3
  have G22 : ∀ b, (H.set n2 b).get n2 = some b := fun b => Heap.get_set' l2
  have G33 : ∀ b, (H.set n3 b).get n3 = some b := fun b => Heap.get_set' l3
  have E := fun c (f : Fr) => heldB_ok (r := r) (c := c) (a := a) (ScAt.up (fr := f) h.toScAt) hh hwho hb.hand (by simp)
  have G := fun c (f : Fr) => besideB_ok (r := r) (c := c) (a := a) (ScAt.up (fr := f) h.toScAt) hh hwho hb.hand (by simp)
  have heq : handAt s.hands w 0 = s.hands[w].l ∧ handAt s.hands w 1 = s.hands[w].r := by unfold handAt; rw [hg]; simp
  refine ⟨fun k => ?_, fun k => ?_, fun k => ?_, fun k => ?_, fun k => ?_, fun k => ?_, fun k => ?_, fun k => ?_⟩
  · have hd := doV_1 (s := s) (w := w) k
    refine ⟨s.people.length, v2, v3, Nat.le_refl _, h.e2, h.e3, WPv_eq (call_enterR KC needT Try.func109 rfl rfl good109 rfl rfl rfl (by simp) hH ?_)⟩
    rw [actRow]
    unfold stG
    simp [d1, d2, d3, h.g1, h.g2, h.g3, h.e1, h.e2, h.e3, hp, hh, hwho, irow, splice, gleave_free, hd, scSet, S2, S3]
  · obtain ⟨t, et, ht⟩ := hb.take k
    have hd := doV_2 (s := s) (w := w) k
    have hgt := getD_lt (d := spot0) ht
    rw [et, Int.toNat_natCast, hgt] at hd
    simp only [putHand, hg] at hd
    refine ⟨v1, s.hands.length, s.things.length, h.e1, Nat.le_refl _, Nat.le_refl _, WPv_eq (call_enterR KC needT Try.func111 rfl rfl good111 rfl rfl rfl (by simp) hH ?_)⟩
    rw [actRow]
    unfold stG
    rcases hb.hand with z | z
    · rw [z] at hd
      simp at hd
      simp [d1, d2, d3, h.g1, h.g2, h.g3, h.e1, h.e2, h.e3, hp, hh, hwho, et, z, ht, Hands.row, Spot.row, splice, gleave_free, hd, scSet, G23, s1]
    · rw [z] at hd
      simp at hd
      simp [d1, d2, d3, h.g1, h.g2, h.g3, h.e1, h.e2, h.e3, hp, hh, hwho, et, z, ht, Hands.row, Spot.row, splice, gleave_free, hd, scSet, G23, s1]
  · obtain ⟨t, et, ht⟩ := hb.held (by omega)
    rw [heldV_eq] at et
    have hd := doV_3 (s := s) (w := w) k
    have hgt := getD_lt (d := spot0) ht
    rw [et, Int.toNat_natCast, hgt, hgp] at hd
    simp only [putHand, hg] at hd
    refine ⟨v1, s.hands.length, s.things.length, h.e1, Nat.le_refl _, Nat.le_refl _, WPv_eq (call_enterR KC needT Try.func113 rfl rfl good113 rfl rfl rfl (by simp) hH ?_)⟩
    rw [et, actRow] at E
    rw [actRow]
    unfold stG at E ⊢
    simp [hwho] at E
    rcases hb.hand with z | z
    · rw [z] at hd E
      simp at hd
      simp [d1, d2, d3, h.g1, h.g2, h.g3, h.e1, h.e2, h.e3, hp, hh, hwho, E, z, ht, irow, Hands.row, Spot.row, splice, gleave_free, hd, scSet, G32, C32, s1]
    · rw [z] at hd E
      simp at hd
      simp [d1, d2, d3, h.g1, h.g2, h.g3, h.e1, h.e2, h.e3, hp, hh, hwho, E, z, ht, irow, Hands.row, Spot.row, splice, gleave_free, hd, scSet, G32, C32, s1]
  · obtain ⟨t, et, ht⟩ := hb.held (by omega)
    rw [heldV_eq] at et
    obtain ⟨o, eo, ho, how, htk⟩ := hb.give k
    have hgo := getD_lt (d := hands0) ho
    have hsw : ∀ x, (s.hands.set o x).getD w hands0 = s.hands[w] := fun x => by rw [getDs hh, if_neg how, hg]
    have hd := doV_4 (s := s) (w := w) k
    rw [et, eo, Int.toNat_natCast] at hd
    have T := fun c (f : Fr) => freeB_ok (r := r) (c := c) (ScAt.up (fr := f) h.toScAt) ho (by simp)
    rw [et, actRow] at E
    unfold stG at E T
    simp [hwho, eo] at E
    simp only [putHand, hgo, hsw] at hd
    rcases htk with y | y
    · rw [y] at hd T
      refine ⟨v1, s.hands.length, v3, h.e1, Nat.le_refl _, h.e3, WPv_eq (call_enterR KC needT Try.func115 rfl rfl good115 rfl rfl rfl (by simp) hH ?_)⟩
      rw [actRow]
      unfold stG
      rcases hb.hand with z | z
      · rw [z] at hd E
        simp at hd
        simp [d1, d2, d3, h.g1, h.g2, h.g3, h.e1, h.e2, h.e3, hp, hh, hwho, eo, E, T, z, ht, ho, irow, Hands.row, Spot.row, splice, gleave_free, hd, scSet, G22, G23, s1, S4, how, List.getElem_set_ne]
      · rw [z] at hd E
        simp at hd
        simp [d1, d2, d3, h.g1, h.g2, h.g3, h.e1, h.e2, h.e3, hp, hh, hwho, eo, E, T, z, ht, ho, irow, Hands.row, Spot.row, splice, gleave_free, hd, scSet, G22, G23, s1, S4, how, List.getElem_set_ne]
    · rw [y] at hd T
      refine ⟨v1, s.hands.length, v3, h.e1, Nat.le_refl _, h.e3, WPv_eq (call_enterR KC needT Try.func115 rfl rfl good115 rfl rfl rfl (by simp) hH ?_)⟩
      rw [actRow]
      unfold stG
      rcases hb.hand with z | z
      · rw [z] at hd E
        simp at hd
        simp [d1, d2, d3, h.g1, h.g2, h.g3, h.e1, h.e2, h.e3, hp, hh, hwho, eo, E, T, z, ht, ho, irow, Hands.row, Spot.row, splice, gleave_free, hd, scSet, G22, G23, s1, S4, how, List.getElem_set_ne]
      · rw [z] at hd E
        simp at hd
        simp [d1, d2, d3, h.g1, h.g2, h.g3, h.e1, h.e2, h.e3, hp, hh, hwho, eo, E, T, z, ht, ho, irow, Hands.row, Spot.row, splice, gleave_free, hd, scSet, G22, G23, s1, S4, how, List.getElem_set_ne]
  · obtain ⟨u, eu, hu⟩ := hb.oth (.inl k)
    rw [heldV_eq] at eu
    have hd := doV_5 (s := s) (w := w) k
    have hgt := getD_lt (d := spot0) hu
    rw [eu, Int.toNat_natCast, setV_on hu (hst u hu) (.inl rfl), hgt] at hd
    rw [eu, actRow] at G
    unfold stG at G
    refine ⟨v1, v2, s.things.length, h.e1, h.e2, Nat.le_refl _, WPv_eq (call_enterR KC needT Try.func117 rfl rfl good117 rfl rfl rfl (by simp) hH ?_)⟩
    rw [actRow]
    unfold stG
    simp [d1, d2, d3, h.g1, h.g2, h.g3, h.e1, h.e2, h.e3, hp, hh, G, hu, Spot.row, splice, gleave_free, hd, scSet, s1, s2]
  · obtain ⟨t, et, ht⟩ := hb.held (by omega)
    rw [heldV_eq] at et
    obtain ⟨u, eu, hu⟩ := hb.oth (.inr k)
    rw [heldV_eq] at eu
    have hd := doV_6 (s := s) (w := w) k
    have hgt := getD_lt (d := spot0) ht
    have hst2 := hst
    have S := states_set (t := t) (bit := 2) (on := false) hst ht (.inr (.inl rfl))
    have S' := states_set (ts := setV s.things t 2 false) (t := t) (bit := 1) (on := false) (fun j hj => (S.2 j (by rw [S.1] at hj; exact hj)).2) (by rw [S.1]; exact ht) (.inl rfl)
    rw [et, eu, Int.toNat_natCast, Int.toNat_natCast, setV_on (by rw [S'.1, S.1]; exact hu) (S'.2 u (by rw [S.1]; exact hu)).2 (.inr (.inl rfl)), setV_off3 ht (hst t ht), hgt] at hd
    rw [et, actRow] at E
    unfold stG at E
    obtain ⟨X, hX⟩ : ∃ X, s.things.set t ⟨s.things[t].cell, bandn s.things[t].state 3⟩ = X := ⟨_, rfl⟩
    have hXl : X.length = s.things.length := by rw [← hX]; simp
    have huX : u < X.length := by omega
    rw [hX, getD_lt huX] at hd
    have hXr : (s.things.map Spot.row).set t [.int .i64 s.things[t].cell, .int .i64 (bandn s.things[t].state 3)] = X.map Spot.row := by
      rw [← hX, List.map_set]; rfl
    have SX : ScAt (H.set n3 (.arr 2 (X.map Spot.row) s.things.length false)) n1 n2 n3 v1 v2 s.things.length { s with things := X } :=
      ⟨h.n12, h.n13, h.n23, (G31 _).trans h.g1, (G32 _).trans h.g2, G33 _, h.e1, h.e2, by show s.things.length ≤ X.length; omega⟩
    have G' := fun c (f : Fr) => besideB_ok (r := r) (c := c) (a := a) (ScAt.up (fr := f) SX) hh hwho hb.hand (by simp)
    simp only [eu] at G'
    rw [actRow] at G'
    unfold stG at G'
    simp only [hXl] at G'
    refine ⟨v1, v2, s.things.length, h.e1, h.e2, Nat.le_refl _, WPv_eq (call_enterR KC needT Try.func119 rfl rfl good119 rfl rfl rfl (by simp) hH ?_)⟩
    rw [actRow]
    unfold stG
    simp [d1, d2, d3, h.g1, h.g2, h.g3, h.e1, h.e2, h.e3, hp, hh, E, ht, hXr, G', G33, hu, huX, hXl, Spot.row, splice, gleave_free, hd, scSet, s1, s2]
  · obtain ⟨t, et, ht⟩ := hb.held (by omega)
    rw [heldV_eq] at et
    have hd := doV_7 (s := s) (w := w) k
    have hgt := getD_lt (d := spot0) ht
    rw [et, Int.toNat_natCast, setV_on ht (hst t ht) (.inr (.inr rfl)), hgt] at hd
    rw [et, actRow] at E
    unfold stG at E
    refine ⟨v1, v2, s.things.length, h.e1, h.e2, Nat.le_refl _, WPv_eq (call_enterR KC needT Try.func121 rfl rfl good121 rfl rfl rfl (by simp) hH ?_)⟩
    rw [actRow]
    unfold stG
    simp [d1, d2, d3, h.g1, h.g2, h.g3, h.e1, h.e2, h.e3, hp, hh, E, ht, Spot.row, splice, gleave_free, hd, scSet, s1, s2]
  · obtain ⟨t, et, ht⟩ := hb.held (by omega)
    rw [heldV_eq] at et
    have hd := doV_8 (s := s) (w := w) k
    have hgt := getD_lt (d := spot0) ht
    rw [et, Int.toNat_natCast, setV_off ht (hst t ht) (.inr (.inr rfl)), hgt] at hd
    rw [et, actRow] at E
    unfold stG at E
    refine ⟨v1, v2, s.things.length, h.e1, h.e2, Nat.le_refl _, WPv_eq (call_enterR KC needT Try.func123 rfl rfl good123 rfl rfl rfl (by simp) hH ?_)⟩
    rw [actRow]
    unfold stG
    simp [d1, d2, d3, h.g1, h.g2, h.g3, h.e1, h.e2, h.e3, hp, hh, E, ht, Spot.row, splice, gleave_free, hd, scSet, s1, s2]
end
end Go.Gh

/- Plain: water in a kettle. -/
import Derived.Test.YtldhcphijclmdaaFa
import Derived.Test.YtldhcphijclmdaaFd
import Derived.Test.YtldhcphijclmdaaFc
namespace Go.Gh
set_option linter.unusedSimpArgs false
set_option linter.unusedVariables false

structure Water where
  ladles : Int
  lo : Int
  hi : Int
  deriving DecidableEq
def Water.row (w : Water) : List PV := [.int .i64 w.ladles, .int .i64 w.lo, .int .i64 w.hi]
def Water.span (w : Water) : Span := ⟨w.lo, w.hi⟩
structure WOk (w : Water) : Prop where
  l : 1 ≤ w.ladles ∧ w.ladles ≤ 50
  lo : 0 ≤ w.lo ∧ w.lo ≤ 1000
  hi : 0 ≤ w.hi ∧ w.hi ≤ 1000
structure KOk (k : Kettle) : Prop where
  water : 1 ≤ k.water ∧ k.water ≤ 50
  warm : 0 ≤ k.warm.lo ∧ k.warm.lo ≤ k.warm.hi ∧ k.warm.hi ≤ 1000
  room : 0 ≤ k.room ∧ k.room ≤ 1000
  gain : 0 ≤ k.gain ∧ k.gain ≤ 1000
  lose : 0 ≤ k.lose ∧ k.lose ≤ 1000000
  sing : 0 ≤ k.sing ∧ k.sing ≤ k.boil ∧ k.boil ≤ 1000
structure POk (p : Pour) : Prop where
  m : 0 ≤ p.minute ∧ p.minute ≤ 300
  l : -50 ≤ p.ladles ∧ p.ladles ≤ 50 ∧ p.ladles ≠ 0
  w : 0 ≤ p.warm ∧ p.warm ≤ 1000
def psOk : Int → Int → List Pour → Prop
  | _, _, [] => True
  | w, m, p :: r => POk p ∧ m ≤ p.minute ∧ 1 ≤ w + p.ladles ∧ w + p.ladles ≤ 50 ∧ psOk (w + p.ladles) p.minute r

theorem kok_of {k : Kettle} (h : kettleF k = 0) : KOk k := by
  rw [kettleF_def] at h
  split at h
  · rename_i h1
    split at h
    · rename_i h2; exact absurd h h2
    · rename_i h2
      split at h
      · rename_i h3
        split at h
        · omega
        · rename_i h4
          have := Classical.not_not.1 h2
          rw [faultF_def] at this
          split at this
          · rename_i h5
            split at this
            · omega
            · rename_i h6
              simp [inB] at h1 h3 h5
              exact ⟨by omega, by omega, by omega, by omega, by omega, by omega⟩
          · omega
      · omega
  · omega
theorem psok_of : ∀ (l : List Pour) (w m : Int), 1 ≤ w ∧ w ≤ 50 → poursErr w m l = 0 → psOk w m l
  | [], w, m, _, _ => trivial
  | p :: r, w, m, hw, h => by
    simp only [poursErr] at h
    split at h
    · rename_i h1
      simp [inB] at h1
      have hwr := w64 (x := w + p.ladles) (by omega) (by omega)
      rw [hwr] at h
      split at h
      · omega
      · rename_i h2
        split at h
        · rename_i h3
          simp [inB] at h3
          exact ⟨⟨by omega, by omega, by omega⟩, by omega, by omega, by omega, psok_of r _ _ (by omega) h⟩
        · omega
    · omega

/-! ### fractions -/
noncomputable def dn : Int → Int → Int := hid fun n d => n / d
theorem dn_def (n d : Int) : dn n d = n / d := by rw [dn, hid_eq]
noncomputable def upn : Int → Int → Int := hid fun n d => -((-n) / d)
theorem upn_def (n d : Int) : upn n d = -((-n) / d) := by rw [upn, hid_eq]
theorem upn_eq {n d : Int} (hd : 0 < d) : upn n d = if n % d = 0 then n / d else n / d + 1 := by
  rw [upn_def]
  have h1 := Int.mul_ediv_add_emod n d
  have h2 := Int.emod_nonneg n (show d ≠ 0 by omega)
  have h3 := Int.emod_lt_of_pos n hd
  split
  · rename_i h
    have e : -n = (-(n / d)) * d := by rw [h] at h1; rw [Int.neg_mul, Int.mul_comm (n / d) d]; omega
    rw [e, Int.mul_ediv_cancel _ (by omega)]; omega
  · rename_i h
    have e : -n = (d - n % d) + (-(n / d) - 1) * d := by
      rw [Int.sub_mul, Int.neg_mul, Int.mul_comm (n / d) d]; omega
    rw [e, Int.add_mul_ediv_right _ _ (by omega), Int.ediv_eq_zero_of_lt (by omega) (by omega)]; omega
theorem dn_mono {a b d : Int} (hd : 0 < d) (h : a ≤ b) : dn a d ≤ dn b d := by rw [dn_def, dn_def]; exact Int.ediv_le_ediv hd h
theorem upn_mono {a b d : Int} (hd : 0 < d) (h : a ≤ b) : upn a d ≤ upn b d := by
  rw [upn_def, upn_def]
  have := Int.ediv_le_ediv hd (show -b ≤ -a by omega)
  omega
theorem dn_le_upn {n d : Int} (hd : 0 < d) : dn n d ≤ upn n d := by rw [upn_eq hd, dn_def]; split <;> omega
theorem dn_nonneg {n d : Int} (hd : 0 < d) (h : 0 ≤ n) : 0 ≤ dn n d := by rw [dn_def]; exact Int.ediv_nonneg h (by omega)
theorem dn_mul {a d : Int} (hd : 0 < d) : dn (a * d) d = a := by rw [dn_def, Int.mul_ediv_cancel _ (by omega)]
theorem upn_mul {a d : Int} (hd : 0 < d) : upn (a * d) d = a := by rw [upn_def, ← Int.neg_mul, Int.mul_ediv_cancel _ (by omega)]; omega

theorem mulb {a A b B : Int} (ha : 0 ≤ a ∧ a ≤ A) (hb : 0 ≤ b ∧ b ≤ B) : 0 ≤ a * b ∧ a * b ≤ A * B :=
  ⟨Int.mul_nonneg ha.1 hb.1, Int.mul_le_mul ha.2 hb.2 hb.1 (by omega)⟩

/-! ### a minute, a pour -/
def heatV (k : Kettle) (t L h : Int) : Int := (t * L + h * k.gain) * 1000000 - (t - k.room) * k.lose * L
def pourV (p : Pour) (t L : Int) : Int := t * L + p.warm * p.ladles
theorem heatV_eq (k : Kettle) (t L h : Int) : heatV k t L h = t * ((1000000 - k.lose) * L) + h * k.gain * 1000000 + k.room * (k.lose * L) := by unfold heatV; grind
theorem heatV_bnd {k : Kettle} (hk : KOk k) {t L h : Int} (ht : 0 ≤ t ∧ t ≤ 1000) (hL : 1 ≤ L ∧ L ≤ 50) (hh : 0 ≤ h ∧ h ≤ 30000) : 0 ≤ heatV k t L h ∧ heatV k t L h ≤ 1000000000000000 := by
  rw [heatV_eq]
  have a1 := mulb (show 0 ≤ 1000000 - k.lose ∧ 1000000 - k.lose ≤ 1000000 by have := hk.lose; omega) (show 0 ≤ L ∧ L ≤ 50 by omega)
  have a2 := mulb ht a1
  have a3 := mulb hh hk.gain
  have a4 := mulb hk.lose (show 0 ≤ L ∧ L ≤ 50 by omega)
  have a5 := mulb hk.room a4
  omega
noncomputable def heatedW : Kettle → Water → Span → Water := hid fun k w h =>
  ⟨w.ladles, min 1000 (dn (heatV k w.lo w.ladles h.lo) (w.ladles * 1000000)), min 1000 (upn (heatV k w.hi w.ladles h.hi) (w.ladles * 1000000))⟩
theorem heatedW_def (k : Kettle) (w : Water) (h : Span) : heatedW k w h =
  ⟨w.ladles, min 1000 (dn (heatV k w.lo w.ladles h.lo) (w.ladles * 1000000)), min 1000 (upn (heatV k w.hi w.ladles h.hi) (w.ladles * 1000000))⟩ := by rw [heatedW, hid_eq]
noncomputable def pouredW : Water → Pour → Water := hid fun w p =>
  if 0 < p.ladles then ⟨w.ladles + p.ladles, dn (pourV p w.lo w.ladles) (w.ladles + p.ladles), upn (pourV p w.hi w.ladles) (w.ladles + p.ladles)⟩ else ⟨w.ladles + p.ladles, w.lo, w.hi⟩
theorem pouredW_def (w : Water) (p : Pour) : pouredW w p =
  if 0 < p.ladles then ⟨w.ladles + p.ladles, dn (pourV p w.lo w.ladles) (w.ladles + p.ladles), upn (pourV p w.hi w.ladles) (w.ladles + p.ladles)⟩ else ⟨w.ladles + p.ladles, w.lo, w.hi⟩ := by rw [pouredW, hid_eq]
theorem heatedW_ok {k : Kettle} {w : Water} {h : Span} (hk : KOk k) (hw : WOk w) (h1 : 0 ≤ h.lo ∧ h.lo ≤ 30000) (h2 : 0 ≤ h.hi ∧ h.hi ≤ 30000) : WOk (heatedW k w h) := by
  rw [heatedW_def]
  obtain ⟨a1, a2, a3⟩ := hw
  have b1 := heatV_bnd hk a2 a1 h1
  have b2 := heatV_bnd hk a3 a1 h2
  have hd : 0 < w.ladles * 1000000 := by omega
  have c1 := dn_nonneg hd b1.1
  have c2 := dn_nonneg hd b2.1
  have c3 := dn_le_upn (n := heatV k w.hi w.ladles h.hi) hd
  exact ⟨a1, by simp only; omega, by simp only; omega⟩
theorem pourV_bnd {p : Pour} (hp : POk p) (hpos : 0 < p.ladles) {t L : Int} (ht : 0 ≤ t ∧ t ≤ 1000) (hL : 1 ≤ L ∧ L ≤ 50) : 0 ≤ pourV p t L ∧ pourV p t L ≤ 1000 * (L + p.ladles) := by
  unfold pourV
  have a1 := mulb ht (show 0 ≤ L ∧ L ≤ L by omega)
  have a2 := mulb hp.w (show 0 ≤ p.ladles ∧ p.ladles ≤ p.ladles by omega)
  rw [Int.mul_add]
  omega
theorem pouredW_ok {w : Water} {p : Pour} (hw : WOk w) (hp : POk p) (hL : 1 ≤ w.ladles + p.ladles ∧ w.ladles + p.ladles ≤ 50) : WOk (pouredW w p) := by
  rw [pouredW_def]
  obtain ⟨a1, a2, a3⟩ := hw
  split
  · rename_i hpos
    have b1 := pourV_bnd hp hpos a2 a1
    have b2 := pourV_bnd hp hpos a3 a1
    have hd : 0 < w.ladles + p.ladles := by omega
    have c1 := dn_nonneg hd b1.1
    have c2 := dn_nonneg hd b2.1
    have c3 := dn_le_upn (n := pourV p w.hi w.ladles) hd
    have c4 := dn_mono hd b1.2
    have c5 := upn_mono hd b2.2
    rw [dn_mul hd] at c4
    rw [upn_mul hd] at c5
    exact ⟨hL, by simp only; omega, by simp only; omega⟩
  · exact ⟨hL, a2, a3⟩
end Go.Gh


/- Water: a minute, a pour; program and reference. -/
namespace Go.Gh
open Go.Proofs
set_option linter.unusedSimpArgs false
set_option linter.unusedVariables false
set_option maxRecDepth 100000
set_option maxHeartbeats 4000000

variable {keep : Nat → Bool} (hk : ∀ f, kept f = false → keep f = false) {c : Nat} {H : Heap}

theorem tdiv_pos {n d : Int} (hn : 0 ≤ n) : n.tdiv d = n / d := Int.tdiv_eq_ediv_of_nonneg hn
theorem tmod_pos {n d : Int} (hn : 0 ≤ n) : n.tmod d = n % d := Int.tmod_eq_emod_of_nonneg hn
theorem div_bnd {n d : Int} (hd : 0 < d) (hn : 0 ≤ n) : 0 ≤ n / d ∧ n / d ≤ n ∧ 0 ≤ n % d ∧ n % d < d :=
  ⟨Int.ediv_nonneg hn (by omega), Int.ediv_le_self _ hn, Int.emod_nonneg _ (by omega), Int.emod_lt_of_pos _ hd⟩

/-! ### fractions -/
include hk in
theorem rounded0_ok {n d : Int} (hd : 0 < d) (hn : 0 ≤ n ∧ n ≤ 1000000000000000000) (hH : 0 < H.length) : gcall (KC keep) (geval (KC keep)) 100 [.pure (.int .i64 n), .pure (.int .i64 d), .pure (.int .i64 0)] c H = some (.pure (.int .i64 (dn n d)), H) := by
  refine WPv_eq (call_enter (KC keep) needT Try.func100 rfl rfl good100 rfl (by simp) hH ?_)
  obtain ⟨b1, b2, b3, b4⟩ := div_bnd hd hn.1
  have e1 := tdiv_pos (d := d) hn.1
  have e2 := tmod_pos (d := d) hn.1
  have w1 := w64 (x := n / d) (by omega) (by omega)
  have hd0 : ¬ d = 0 := by omega
  have c1 : ¬ n % d < 0 := by omega
  rw [dn_def]
  simp [e1, e2, w1, hd0, c1, gleave_free, hk, kept]
include hk in
theorem rounded1_ok {n d : Int} (hd : 0 < d) (hn : 0 ≤ n ∧ n ≤ 1000000000000000000) (hH : 0 < H.length) : gcall (KC keep) (geval (KC keep)) 100 [.pure (.int .i64 n), .pure (.int .i64 d), .pure (.int .i64 1)] c H = some (.pure (.int .i64 (upn n d)), H) := by
  refine WPv_eq (call_enter (KC keep) needT Try.func100 rfl rfl good100 rfl (by simp) hH ?_)
  obtain ⟨b1, b2, b3, b4⟩ := div_bnd hd hn.1
  have e1 := tdiv_pos (d := d) hn.1
  have e2 := tmod_pos (d := d) hn.1
  have w1 := w64 (x := n / d) (by omega) (by omega)
  have w2 := w64 (x := n / d + 1) (by omega) (by omega)
  have hd0 : ¬ d = 0 := by omega
  rw [upn_eq hd]
  by_cases hz : n % d = 0
  · simp [e1, e2, w1, hd0, hz, gleave_free, hk, kept]
  · have c1 : 0 < n % d := by omega
    simp [e1, e2, w1, w2, hd0, hz, c1, gleave_free, hk, kept]
include hk in
theorem down_ok {n d : Int} (hd : 0 < d) (hn : -1000000000000000000 ≤ n ∧ n ≤ 1000000000000000000) (hH : 0 < H.length) : gcall (KC keep) (geval (KC keep)) 81 [.pure (.int .i64 n), .pure (.int .i64 d)] c H = some (.pure (.int .i64 (dn n d)), H) := by
  refine WPv_eq (call_enter (KC keep) needT Try.func81 rfl rfl good81 rfl (by simp) hH ?_)
  have hd0 : ¬ d = 0 := by omega
  by_cases h0 : 0 ≤ n
  · obtain ⟨b1, b2, b3, b4⟩ := div_bnd hd h0
    have e1 := tdiv_pos (d := d) h0
    have e2 := tmod_pos (d := d) h0
    have w1 := w64 (x := n / d) (by omega) (by omega)
    have c1 : ¬ n % d < 0 := by omega
    rw [dn_def]
    simp [e1, e2, w1, hd0, c1, gleave_free, hk, kept]
  · obtain ⟨m, rfl⟩ : ∃ m, n = -m := ⟨-n, by omega⟩
    have hm : 0 ≤ m := by omega
    obtain ⟨b1, b2, b3, b4⟩ := div_bnd hd hm
    have e1 : (-m).tdiv d = -(m / d) := by rw [Int.neg_tdiv, tdiv_pos hm]
    have e2 : (-m).tmod d = -(m % d) := by rw [Int.neg_tmod, tmod_pos hm]
    have w1 := w64 (x := -(m / d)) (by omega) (by omega)
    have w2 := w64 (x := -(m / d) - 1) (by omega) (by omega)
    have e3 : dn (-m) d = -(upn m d) := by rw [dn_def, upn_def]; omega
    rw [e3, upn_eq hd]
    by_cases hz : m % d = 0
    · simp [e1, e2, w1, hd0, hz, gleave_free, hk, kept]
    · have c1 : 0 < m % d := by omega
      have e4 : -(m / d) - 1 = -(m / d + 1) := by omega
      rw [e4] at w2
      simp [e1, e2, w1, hd0, hz, c1, e4, w2, gleave_free, hk, kept]
include hk in
theorem upr_ok {n d : Int} (hd : 0 < d) (hn : 0 ≤ n ∧ n ≤ 1000000000000000000) (hH : 0 < H.length) : gcall (KC keep) (geval (KC keep)) 82 [.pure (.int .i64 n), .pure (.int .i64 d)] c H = some (.pure (.int .i64 (upn n d)), H) := by
  refine WPv_eq (call_enter (KC keep) needT Try.func82 rfl rfl good82 rfl (by simp) hH ?_)
  have w1 := w64 (x := -n) (by omega) (by omega)
  obtain ⟨b1, b2, b3, b4⟩ := div_bnd hd hn.1
  have hu := upn_eq (n := n) hd
  have w2 := w64 (x := upn n d) (by rw [hu]; split <;> omega) (by rw [hu]; split <;> omega)
  have e : -(dn (-n) d) = upn n d := by rw [dn_def, upn_def]
  simp [w1, down_ok hk hd (show -1000000000000000000 ≤ -n ∧ -n ≤ 1000000000000000000 by omega), e, w2, gleave_free, hk, kept]

/-! ### a minute -/
structure HW (k : Kettle) (t L h : Int) : Prop where
  w1 : IntKind.i64.wrap (t * L) = t * L
  w2 : IntKind.i64.wrap (h * k.gain) = h * k.gain
  w3 : IntKind.i64.wrap (t * L + h * k.gain) = t * L + h * k.gain
  w4 : IntKind.i64.wrap ((t * L + h * k.gain) * 1000000) = (t * L + h * k.gain) * 1000000
  w5 : IntKind.i64.wrap (t - k.room) = t - k.room
  w6 : IntKind.i64.wrap ((t - k.room) * k.lose) = (t - k.room) * k.lose
  w7 : IntKind.i64.wrap ((t - k.room) * k.lose * L) = (t - k.room) * k.lose * L
  w8 : IntKind.i64.wrap ((t * L + h * k.gain) * 1000000 - (t - k.room) * k.lose * L) = heatV k t L h
theorem hw_of {k : Kettle} (hk : KOk k) {t L h : Int} (ht : 0 ≤ t ∧ t ≤ 1000) (hL : 1 ≤ L ∧ L ≤ 50) (hh : 0 ≤ h ∧ h ≤ 30000) : HW k t L h := by
  have hb := heatV_bnd hk ht hL hh
  have a1 := mulb ht (show 0 ≤ L ∧ L ≤ 50 by omega)
  have a2 := mulb hh hk.gain
  have a3 := mulb ht hk.lose
  have a4 := mulb hk.room hk.lose
  have e6 : (t - k.room) * k.lose = t * k.lose - k.room * k.lose := Int.sub_mul _ _ _
  have a5 := mulb a3 (show 0 ≤ L ∧ L ≤ 50 by omega)
  have a6 := mulb a4 (show 0 ≤ L ∧ L ≤ 50 by omega)
  have e7 : (t - k.room) * k.lose * L = t * k.lose * L - k.room * k.lose * L := by rw [e6, Int.sub_mul]
  have hr := hk.room
  exact ⟨w64 (by omega) (by omega), w64 (by omega) (by omega), w64 (by omega) (by omega), w64 (by omega) (by omega), w64 (by omega) (by omega), w64 (by rw [e6]; omega) (by rw [e6]; omega), w64 (by rw [e7]; omega) (by rw [e7]; omega), w64 (by unfold heatV at hb; omega) (by unfold heatV at hb; omega)⟩
include hk in
theorem heated_ok {k : Kettle} {w : Water} {h : Span} (hko : KOk k) (hw : WOk w) (h1 : 0 ≤ h.lo ∧ h.lo ≤ 30000) (h2 : 0 ≤ h.hi ∧ h.hi ≤ 30000) (hH : 0 < H.length) :
    gcall (KC keep) (geval (KC keep)) 96 [.pure (.agg w.row), .pure (.agg k.row), .pure (.agg [.int .i64 h.lo, .int .i64 h.hi])] c H = some (.pure (.agg (heatedW k w h).row), H) := by
  refine WPv_eq (call_enter (KC keep) needT Try.func96 rfl rfl good96 rfl (by simp) hH ?_)
  obtain ⟨x1, x2, x3, x4, x5, x6, x7, x8⟩ := hw_of hko hw.lo hw.l h1
  obtain ⟨y1, y2, y3, y4, y5, y6, y7, y8⟩ := hw_of hko hw.hi hw.l h2
  have b1 := heatV_bnd hko hw.lo hw.l h1
  have b2 := heatV_bnd hko hw.hi hw.l h2
  have hl := hw.l
  have hd : 0 < w.ladles * 1000000 := by omega
  have wd := w64 (x := w.ladles * 1000000) (by omega) (by omega)
  have R0 := fun (H : Heap) (c : Nat) hH => rounded0_ok (H := H) (c := c) hk hd (show 0 ≤ heatV k w.lo w.ladles h.lo ∧ heatV k w.lo w.ladles h.lo ≤ 1000000000000000000 by omega) hH
  have R1 := fun (H : Heap) (c : Nat) hH => rounded1_ok (H := H) (c := c) hk hd (show 0 ≤ heatV k w.hi w.ladles h.hi ∧ heatV k w.hi w.ladles h.hi ≤ 1000000000000000000 by omega) hH
  have w0 : IntKind.i64.wrap 1 = 1 := rfl
  have w2 : IntKind.i64.wrap 2 = 2 := rfl
  rw [heatedW_def]
  generalize dn (heatV k w.lo w.ladles h.lo) (w.ladles * 1000000) = r0 at *
  generalize upn (heatV k w.hi w.ladles h.hi) (w.ladles * 1000000) = r1 at *
  have m0 : (if r0 < 1000 then r0 else 1000) = min 1000 r0 := by split <;> omega
  have m1 : (if r1 < 1000 then r1 else 1000) = min 1000 r1 := by split <;> omega
  simp [Water.row, Kettle.row]
  apply WPL_step
  conv => arg 4; whnf
  simp [x1, x2, x3, x4, x5, x6, x7, x8, wd, R0, w0]
  apply WPL_step
  conv => arg 4; whnf
  simp [y1, y2, y3, y4, y5, y6, y7, y8, wd, R1, w2]
  apply WPL_step
  conv => arg 4; whnf
  simp [m0, m1, hH, gleave_free, hk, kept, Water.row]

/-! ### a pour -/
structure PW (p : Pour) (t L : Int) : Prop where
  w1 : IntKind.i64.wrap (t * L) = t * L
  w2 : IntKind.i64.wrap (p.warm * p.ladles) = p.warm * p.ladles
  w3 : IntKind.i64.wrap (t * L + p.warm * p.ladles) = pourV p t L
theorem pw_of {p : Pour} (hp : POk p) (hpos : 0 < p.ladles) {t L : Int} (ht : 0 ≤ t ∧ t ≤ 1000) (hL : 1 ≤ L ∧ L ≤ 50) : PW p t L := by
  have a1 := mulb ht (show 0 ≤ L ∧ L ≤ 50 by omega)
  have a2 := mulb hp.w (show 0 ≤ p.ladles ∧ p.ladles ≤ 50 by have := hp.l; omega)
  exact ⟨w64 (by omega) (by omega), w64 (by omega) (by omega), w64 (by omega) (by omega)⟩
include hk in
theorem poured_ok {w : Water} {p : Pour} (hp : POk p) (hw : WOk w) (hL : 1 ≤ w.ladles + p.ladles ∧ w.ladles + p.ladles ≤ 50) (hH : 0 < H.length) :
    gcall (KC keep) (geval (KC keep)) 95 [.pure (.agg w.row), .pure (.agg p.row)] c H = some (.pure (.agg (pouredW w p).row), H) := by
  refine WPv_eq (call_enter (KC keep) needT Try.func95 rfl rfl good95 rfl (by simp) hH ?_)
  have hl := hw.l
  have wd := w64 (x := w.ladles + p.ladles) (by omega) (by omega)
  have w0 : IntKind.i64.wrap 1 = 1 := rfl
  have w2 : IntKind.i64.wrap 2 = 2 := rfl
  rw [pouredW_def]
  by_cases hpos : 0 < p.ladles
  · obtain ⟨x1, x2, x3⟩ := pw_of hp hpos hw.lo hl
    obtain ⟨y1, y2, y3⟩ := pw_of hp hpos hw.hi hl
    have b1 := pourV_bnd hp hpos hw.lo hl
    have b2 := pourV_bnd hp hpos hw.hi hl
    have hd : 0 < w.ladles + p.ladles := by omega
    have R0 := fun (H : Heap) (c : Nat) hH => rounded0_ok (H := H) (c := c) hk hd (show 0 ≤ pourV p w.lo w.ladles ∧ pourV p w.lo w.ladles ≤ 1000000000000000000 by omega) hH
    have R1 := fun (H : Heap) (c : Nat) hH => rounded1_ok (H := H) (c := c) hk hd (show 0 ≤ pourV p w.hi w.ladles ∧ pourV p w.hi w.ladles ≤ 1000000000000000000 by omega) hH
    rw [if_pos hpos]
    generalize dn (pourV p w.lo w.ladles) (w.ladles + p.ladles) = r0 at *
    generalize upn (pourV p w.hi w.ladles) (w.ladles + p.ladles) = r1 at *
    simp [Water.row, Pour.row, hpos]
    apply WPL_step
    conv => arg 4; whnf
    simp [x1, x2, x3, wd, R0, w0]
    apply WPL_step
    conv => arg 4; whnf
    simp [y1, y2, y3, wd, R1, w2]
    apply WPL_step
    conv => arg 4; whnf
    simp [hH, wd, gleave_free, hk, kept, Water.row]
  · rw [if_neg hpos]
    simp [Water.row, Pour.row, hpos, hH, wd, gleave_free, hk, kept]

/-! ### the reference -/
include hk in
theorem heatedR_ok {k : Kettle} {t L h : Int} (hko : KOk k) (ht : 0 ≤ t ∧ t ≤ 1000) (hL : 1 ≤ L ∧ L ≤ 50) (hh : 0 ≤ h ∧ h ≤ 30000) (hH : 0 < H.length) :
    gcall (KC keep) (geval (KC keep)) 48 [.pure (.agg k.row), .pure (.int .i64 t), .pure (.int .i64 L), .pure (.int .i64 h)] c H =
      some (.pure (.agg [.int .i64 (min 1000 (dn (heatV k t L h) (L * 1000000))), .int .i64 (min 1000 (upn (heatV k t L h) (L * 1000000)))]), H) := by
  refine WPv_eq (call_enter (KC keep) needT Try.func48 rfl rfl good48 rfl (by simp) hH ?_)
  obtain ⟨x1, x2, x3, x4, x5, x6, x7, x8⟩ := hw_of hko ht hL hh
  have b1 := heatV_bnd hko ht hL hh
  have hd : 0 < L * 1000000 := by omega
  have wd := w64 (x := L * 1000000) (by omega) (by omega)
  have R0 := fun (H : Heap) (c : Nat) hH => down_ok (H := H) (c := c) hk hd (show -1000000000000000000 ≤ heatV k t L h ∧ heatV k t L h ≤ 1000000000000000000 by omega) hH
  have R1 := fun (H : Heap) (c : Nat) hH => upr_ok (H := H) (c := c) hk hd (show 0 ≤ heatV k t L h ∧ heatV k t L h ≤ 1000000000000000000 by omega) hH
  generalize dn (heatV k t L h) (L * 1000000) = r0 at *
  generalize upn (heatV k t L h) (L * 1000000) = r1 at *
  have m0 : (if r0 < 1000 then r0 else 1000) = min 1000 r0 := by split <;> omega
  have m1 : (if r1 < 1000 then r1 else 1000) = min 1000 r1 := by split <;> omega
  simp [Kettle.row, x1, x2, x3, x4, x5, x6, x7, x8, wd, R0, R1, m0, m1, gleave_free, hk, kept]
/-- What the reference's pour answers. -/
noncomputable def pouredR : Pour → Int → Int → Span := hid fun p t L => if p.ladles < 0 then ⟨t, t⟩ else ⟨dn (pourV p t L) (L + p.ladles), upn (pourV p t L) (L + p.ladles)⟩
theorem pouredR_def (p : Pour) (t L : Int) : pouredR p t L = if p.ladles < 0 then ⟨t, t⟩ else ⟨dn (pourV p t L) (L + p.ladles), upn (pourV p t L) (L + p.ladles)⟩ := by rw [pouredR, hid_eq]
include hk in
theorem pouredR_ok {p : Pour} {t L : Int} (hp : POk p) (ht : 0 ≤ t ∧ t ≤ 1000) (hl : 1 ≤ L ∧ L ≤ 50) (hL : 1 ≤ L + p.ladles ∧ L + p.ladles ≤ 50) (hH : 0 < H.length) :
    gcall (KC keep) (geval (KC keep)) 49 [.pure (.agg p.row), .pure (.int .i64 t), .pure (.int .i64 L)] c H = some (.pure (.agg (pouredR p t L).row), H) := by
  refine WPv_eq (call_enter (KC keep) needT Try.func49 rfl rfl good49 rfl (by simp) hH ?_)
  rw [pouredR_def]
  by_cases hneg : p.ladles < 0
  · rw [if_pos hneg]
    simp [Pour.row, hneg, Span.row, gleave_free, hk, kept]
  · have hpos : 0 < p.ladles := by have := hp.l; omega
    obtain ⟨x1, x2, x3⟩ := pw_of hp hpos ht hl
    have b1 := pourV_bnd hp hpos ht hl
    have hd : 0 < L + p.ladles := by omega
    have wd := w64 (x := L + p.ladles) (by omega) (by omega)
    have R0 := fun (H : Heap) (c : Nat) hH => down_ok (H := H) (c := c) hk hd (show -1000000000000000000 ≤ pourV p t L ∧ pourV p t L ≤ 1000000000000000000 by omega) hH
    have R1 := fun (H : Heap) (c : Nat) hH => upr_ok (H := H) (c := c) hk hd (show 0 ≤ pourV p t L ∧ pourV p t L ≤ 1000000000000000000 by omega) hH
    rw [if_neg hneg]
    generalize dn (pourV p t L) (L + p.ladles) = r0 at *
    generalize upn (pourV p t L) (L + p.ladles) = r1 at *
    simp [Pour.row, hneg, x1, x2, x3, wd, R0, R1, Span.row, gleave_free, hk, kept]
end Go.Gh


/- Plain: the warmth minute by minute. -/
namespace Go.Gh
set_option linter.unusedSimpArgs false
set_option linter.unusedVariables false

noncomputable def poursAt (m : Int) : Water → List Pour → Water × List Pour
  | w, [] => (w, [])
  | w, p :: r => if p.minute = m then poursAt m (pouredW w p) r else (w, p :: r)
noncomputable def stepW (k : Kettle) (hs : Int → Span) (m : Nat) (w : Water) : Water := if m = 0 then w else heatedW k w (hs ((m : Int) - 1))
/-- What is known of the warmth from minute m on, of so many minutes; w: the water behind the pours of the minute before. -/
noncomputable def runL (k : Kettle) (hs : Int → Span) : Nat → Nat → Water → List Pour → List Span
  | 0, _, _, _ => []
  | n + 1, m, w, l => (poursAt m (stepW k hs m w) l).1.span :: runL k hs n (m + 1) (poursAt m (stepW k hs m w) l).1 (poursAt m (stepW k hs m w) l).2
theorem runL_len (k : Kettle) (hs : Int → Span) : ∀ (n m : Nat) (w : Water) (l : List Pour), (runL k hs n m w l).length = n
  | 0, m, w, l => rfl
  | n + 1, m, w, l => by simp [runL, runL_len k hs n]

def PsOk (w : Int) (l : List Pour) : Prop := ∃ m, psOk w m l
theorem PsOk.cons {w : Int} {p : Pour} {r : List Pour} (h : PsOk w (p :: r)) : POk p ∧ 1 ≤ w + p.ladles ∧ w + p.ladles ≤ 50 ∧ PsOk (w + p.ladles) r := by
  obtain ⟨m, h1, h2, h3, h4, h5⟩ := h
  exact ⟨h1, h3, h4, _, h5⟩
theorem pouredW_ladles (w : Water) (p : Pour) : (pouredW w p).ladles = w.ladles + p.ladles := by rw [pouredW_def]; split <;> rfl
theorem heatedW_ladles (k : Kettle) (w : Water) (h : Span) : (heatedW k w h).ladles = w.ladles := by rw [heatedW_def]
theorem poursAt_ok (m : Int) : ∀ (l : List Pour) (w : Water), WOk w → PsOk w.ladles l → WOk (poursAt m w l).1 ∧ PsOk (poursAt m w l).1.ladles (poursAt m w l).2
  | [], w, hw, hp => ⟨hw, hp⟩
  | p :: r, w, hw, hp => by
    obtain ⟨h1, h2, h3, h4⟩ := hp.cons
    simp only [poursAt]
    split
    · exact poursAt_ok m r _ (pouredW_ok hw h1 ⟨h2, h3⟩) (by rw [pouredW_ladles]; exact h4)
    · exact ⟨hw, hp⟩
structure HsOk (hs : Int → Span) : Prop where
  lo : ∀ m, 0 ≤ (hs m).lo ∧ (hs m).lo ≤ 30000
  hi : ∀ m, 0 ≤ (hs m).hi ∧ (hs m).hi ≤ 30000
theorem stepW_ok {k : Kettle} {hs : Int → Span} {w : Water} (m : Nat) (hk : KOk k) (hh : HsOk hs) (hw : WOk w) : WOk (stepW k hs m w) ∧ (stepW k hs m w).ladles = w.ladles := by
  unfold stepW
  split
  · exact ⟨hw, rfl⟩
  · exact ⟨heatedW_ok hk hw (hh.lo _) (hh.hi _), heatedW_ladles _ _ _⟩
theorem sumsF_bnd : ∀ (l : List Span) (a : Span) (n : Int), (∀ x ∈ l, 0 ≤ x.lo ∧ x.lo ≤ 1000 ∧ 0 ≤ x.hi ∧ x.hi ≤ 1000) → 0 ≤ a.lo ∧ a.lo ≤ 1000 * n ∧ 0 ≤ a.hi ∧ a.hi ≤ 1000 * n →
    0 ≤ (sumsF a l).lo ∧ (sumsF a l).lo ≤ 1000 * (n + l.length) ∧ 0 ≤ (sumsF a l).hi ∧ (sumsF a l).hi ≤ 1000 * (n + l.length)
  | [], a, n, _, ha => by simpa [sumsF] using ha
  | x :: r, a, n, h, ha => by
    have hx := h x (List.mem_cons_self ..)
    have := sumsF_bnd r ⟨a.lo + x.lo, a.hi + x.hi⟩ (n + 1) (fun y hy => h y (List.mem_cons_of_mem _ hy)) (by simp only; omega)
    simp only [sumsF, List.length_cons]
    have e : n + 1 + (r.length : Int) = n + ((r.length + 1 : Nat) : Int) := by omega
    rw [← e]
    exact this
theorem heatL_bnd {cs : List Coal} {ts : List Touch} (hf : FireOk cs ts) (bs : List Span) (m : Int) : 0 ≤ (heatL cs bs m).lo ∧ (heatL cs bs m).lo ≤ 30000 ∧ 0 ≤ (heatL cs bs m).hi ∧ (heatL cs bs m).hi ≤ 30000 := by
  have hn := hf.n
  have := sumsF_bnd (List.zipWith (hp m) bs cs) ⟨0, 0⟩ 0 (fun x hx => by
    obtain ⟨i, hi, e⟩ := List.getElem_of_mem hx
    have hl := hi
    simp at hl
    have e1 : x = ⟨hlo m bs[i] cs[i], hhi m bs[i] cs[i]⟩ := by rw [← e]; simp [hp]
    subst e1
    have := hp_bnd hf m bs[i] (List.getElem_mem (n := i) (by omega))
    simp only; omega) (by simp)
  have hl : (List.zipWith (hp m) bs cs).length ≤ 12 := by simp; omega
  unfold heatL
  omega
theorem hsok {cs : List Coal} {ts : List Touch} (hf : FireOk cs ts) : HsOk (fun m => heatL cs (beginsL cs ts) m) :=
  ⟨fun m => by have := heatL_bnd hf (beginsL cs ts) m; omega, fun m => by have := heatL_bnd hf (beginsL cs ts) m; omega⟩
theorem poursAt_drop (m : Int) (w : Water) (l : List Pour) (i : Nat) (h : i < l.length) : poursAt m w (l.drop i) = if l[i].minute = m then poursAt m (pouredW w l[i]) (l.drop (i + 1)) else (w, l.drop i) := by
  rw [List.drop_eq_getElem_cons h]; rfl
theorem poursAt_suffix (m : Int) : ∀ (l : List Pour) (w : Water), ∃ i, i ≤ l.length ∧ (poursAt m w l).2 = l.drop i
  | [], w => ⟨0, by simp, rfl⟩
  | p :: r, w => by
    simp only [poursAt]
    split
    · obtain ⟨i, h1, h2⟩ := poursAt_suffix m r (pouredW w p)
      exact ⟨i + 1, by simpa using h1, by simpa using h2⟩
    · exact ⟨0, by simp, rfl⟩
theorem kwok {k : Kettle} (h : KOk k) : WOk ⟨k.water, k.warm.lo, k.warm.hi⟩ := ⟨h.water, by have := h.warm; simp only; omega, by have := h.warm; simp only; omega⟩
end Go.Gh


/- The warmth minute by minute: the reference. -/
namespace Go.Gh
open Go.Proofs
set_option linter.unusedSimpArgs false
set_option linter.unusedVariables false
set_option maxRecDepth 100000
set_option maxHeartbeats 4000000

variable {keep : Nat → Bool} (hk : ∀ f, kept f = false → keep f = false) {c : Nat} {H : Heap}

def rfr (k : Kettle) (cs : List Coal) (ts : List Touch) (lo hi : Int) : Fr :=
  [(4, .box (k.row.map .pure)), (5, .box [.pure (.slice (cs.map Coal.row)), .pure (.slice (ts.map Touch.row))]), (11, .box [.pure (.int .i64 lo), .pure (.int .i64 hi)])]

include hk in
theorem runR_loop1 (k : Kettle) (cs : List Coal) (ts : List Touch) (bs : List Span) (l : List Pour) (hl : l.length ≤ 1000) (m : Nat) (last : Int) (rows : List (List PV)) (X : Fr) (Q : GX → GSt → Prop) (hH : 0 < H.length) : ∀ (kk i : Nat) (w : Water), i + kk = l.length → WOk w → PsOk w.ladles (l.drop i) →
    (∀ (w' : Water) (i' : Nat), i' ≤ l.length → poursAt m w (l.drop i) = (w', l.drop i') → Q (.exit 2) ⟨[(2, .pure (.slice (l.map Pour.row))), (3, .pure (.int .i64 last)), (4, .bptr (H.length, 4) 0), (5, .bptr (H.length, 5) 0), (9, .pure (.slice (bs.map Span.row))), (10, apS (H.length, 95) 2 rows), (11, .bptr (H.length, 11) 0), (12, .pure (.int .i64 w'.ladles)), (13, .pure (.int .i64 i')), (14, .pure (.int .i64 m))],
      X :: apF 95 2 rows (rfr k cs ts w'.lo w'.hi) :: H, 97⟩) →
    WPL (KC keep) needT 84 (lp Try.f84 1) [2, 3, 4, 5, 9, 10, 11, 12, 13, 14] [2, 3, 4, 5, 9, 10, 11, 12, 13, 14] Q
      [(2, .pure (.slice (l.map Pour.row))), (3, .pure (.int .i64 last)), (4, .bptr (H.length, 4) 0), (5, .bptr (H.length, 5) 0), (9, .pure (.slice (bs.map Span.row))), (10, apS (H.length, 95) 2 rows), (11, .bptr (H.length, 11) 0), (12, .pure (.int .i64 w.ladles)), (13, .pure (.int .i64 i)), (14, .pure (.int .i64 m))]
      (X :: apF 95 2 rows (rfr k cs ts w.lo w.hi) :: H) 97 := by
  intro kk
  induction kk with
  | zero =>
    intro i w hi hw hp h1
    have e : l.drop i = [] := List.drop_of_length_le (by omega)
    have h2 := h1 w i (by omega) (by rw [e]; rfl)
    have hni : ¬ i < l.length := by omega
    apply WPL_step
    conv => arg 4; whnf
    simp [hni, hH, rfr, Kettle.row]
    simpa [rfr, Kettle.row] using h2
  | succ kk ih =>
    intro i w hi hw hp h1
    have hia : i < l.length := by omega
    rw [List.drop_eq_getElem_cons hia] at hp
    obtain ⟨p1, p2, p3, p4⟩ := hp.cons
    have pm := p1.m
    have wl := hw.l
    have hwi := w64 (x := (i : Int) + 1) (by omega) (by omega)
    have hwl := w64 (x := w.ladles + l[i].ladles) (by omega) (by omega)
    rw [poursAt_drop m w l i hia] at h1
    have T0 := fun (H : Heap) (c : Nat) hH => pouredR_ok (H := H) (c := c) (p := l[i]) (t := w.lo) (L := w.ladles) hk p1 hw.lo hw.l ⟨p2, p3⟩ hH
    have T1 := fun (H : Heap) (c : Nat) hH => pouredR_ok (H := H) (c := c) (p := l[i]) (t := w.hi) (L := w.ladles) hk p1 hw.hi hw.l ⟨p2, p3⟩ hH
    have hpo := pouredW_ok hw p1 ⟨p2, p3⟩
    have hpl := pouredW_ladles w l[i]
    by_cases hm : l[i].minute = m
    · rw [if_pos hm] at h1
      have ih' := ih (i + 1) (pouredW w l[i]) (by omega) hpo (by rw [hpl]; exact p4) h1
      rw [hpl] at ih'
      rw [pouredR_def] at T0 T1
      rw [pouredW_def] at ih'
      clear h1 ih
      by_cases hneg : l[i].ladles < 0
      · rw [if_pos hneg] at T0 T1
        rw [if_neg (by omega)] at ih'
        simp only [Pour.row, Span.row, hm] at T0 T1
        apply WPL_step
        conv => arg 4; whnf
        simp [hia, hH, rfr, Kettle.row, Pour.row, hm, T0, T1, hwi, hwl]
        simp [rfr, Kettle.row] at ih'
        exact ih'
      · rw [if_neg hneg] at T0 T1
        rw [if_pos (by have := p1.l; omega)] at ih'
        simp only [Pour.row, Span.row, hm] at T0 T1
        simp only at ih'
        generalize dn (pourV l[i] w.lo w.ladles) (w.ladles + l[i].ladles) = r0 at *
        generalize upn (pourV l[i] w.lo w.ladles) (w.ladles + l[i].ladles) = r1 at *
        generalize dn (pourV l[i] w.hi w.ladles) (w.ladles + l[i].ladles) = r2 at *
        generalize upn (pourV l[i] w.hi w.ladles) (w.ladles + l[i].ladles) = r3 at *
        apply WPL_step
        conv => arg 4; whnf
        simp [hia, hH, rfr, Kettle.row, Pour.row, hm, T0, T1, hwi, hwl]
        simp [rfr, Kettle.row] at ih'
        exact ih'
    · rw [if_neg hm] at h1
      have h2 := h1 w i (by omega) rfl
      have hm' : (l[i].minute == (m : Int)) = false := by simpa using hm
      apply WPL_step
      conv => arg 4; whnf
      simp [hia, hH, rfr, Kettle.row, Pour.row, hm, hm']
      simpa [rfr, Kettle.row] using h2

section
variable {k : Kettle} (hko : KOk k) {cs : List Coal} {ts : List Touch} (hf : FireOk cs ts) {bs : List Span} (hb : BOk cs bs)
include hk hko hf hb in
theorem runR_loop0 (l : List Pour) (hl : l.length ≤ 1000) (last : Nat) (hlast : last ≤ 300) (Q : GX → GSt → Prop) (hH : 0 < H.length) : ∀ (kk m i : Nat) (w : Water) (rows : List (List PV)), m + kk = last + 1 → WOk w → PsOk w.ladles (l.drop i) → i ≤ l.length → rows.length = m →
    (∀ lo hi : Int, Q (.exit 0) ⟨[(10, apS (H.length, 95) 2 (rows ++ (runL k (fun m => heatL cs bs m) kk m w (l.drop i)).map Span.row))], apF 95 2 (rows ++ (runL k (fun m => heatL cs bs m) kk m w (l.drop i)).map Span.row) (rfr k cs ts lo hi) :: H, 97⟩) →
    WPL (KC keep) needT 84 (lp Try.f84 0) [2, 3, 4, 5, 9, 10, 11, 12, 13, 14] [10] Q
      [(2, .pure (.slice (l.map Pour.row))), (3, .pure (.int .i64 last)), (4, .bptr (H.length, 4) 0), (5, .bptr (H.length, 5) 0), (9, .pure (.slice (bs.map Span.row))), (10, apS (H.length, 95) 2 rows), (11, .bptr (H.length, 11) 0), (12, .pure (.int .i64 w.ladles)), (13, .pure (.int .i64 i)), (14, .pure (.int .i64 m))]
      (apF 95 2 rows (rfr k cs ts w.lo w.hi) :: H) 97 := by
  have hh : HsOk (fun m => heatL cs bs m) := ⟨fun m => by have := heatL_bnd hf bs m; omega, fun m => by have := heatL_bnd hf bs m; omega⟩
  intro kk
  induction kk with
  | zero =>
    intro m i w rows hm hw hp hi hr h1
    have h2 := h1 w.lo w.hi
    simp only [runL, List.map_nil, List.append_nil] at h2
    have hn : ¬ (m : Int) ≤ last := by omega
    apply WPL_step
    conv => arg 4; whnf
    simp [hn, hH, rfr, Kettle.row]
    simpa [rfr, Kettle.row] using h2
  | succ kk ih =>
    intro m i w rows hm hw hp hi hr h1
    obtain ⟨s1, s2⟩ := stepW_ok m hko hh hw
    have q1 := poursAt_ok m (l.drop i) _ s1 (by rw [s2]; exact hp)
    have hml : (m : Int) ≤ last := by omega
    have hwm := w64 (x := (m : Int) + 1) (by omega) (by omega)
    have hwm1 := w64 (x := (m : Int) - 1) (by omega) (by omega)
    have hb16 : (rows.length + 1) * 16 ≤ 1099511627776 := by omega
    simp only [runL] at h1
    have L := fun X Q hq => runR_loop1 (keep := keep) hk k cs ts bs l hl m last rows X Q hH (l.length - i) i (stepW k (fun m => heatL cs bs m) m w) (by omega) s1 (by rw [s2]; exact hp) hq
    rw [s2] at L
    have ih' := fun (w' : Water) (i' : Nat) (h1 : i' ≤ l.length) (h2 : WOk w') (h3 : PsOk w'.ladles (l.drop i')) => ih (m + 1) i' w' (rows ++ [w'.span.row]) (by omega) h2 h3 h1 (by simp [hr])
    simp only [Water.span, Span.row] at ih' h1
    simp only [rfr, Kettle.row] at L
    by_cases hm0 : m = 0
    · subst hm0
      have e0 : stepW k (fun m => heatL cs bs m) 0 w = w := rfl
      rw [e0] at L h1 q1
      apply WPL_step
      conv => arg 4; whnf
      simp [hml, hH, rfr, Kettle.row]
      simp at L
      refine L _ _ (fun w' i' hi' hpq => ?_)
      simp at h1 q1
      rw [hpq] at h1 q1
      have ih2 := ih' w' i' hi' q1.1 q1.2 (fun lo hi => by have := h1 lo hi; simpa [Span.row] using this)
      simp [hb16, hwm]
      simp [rfr, Kettle.row] at ih2
      exact ih2
    · have e0 : stepW k (fun m => heatL cs bs m) m w = heatedW k w (heatL cs bs ((m : Int) - 1)) := by unfold stepW; rw [if_neg hm0]
      have hmp : (0 : Int) < m := by omega
      have hmp' : 0 < m := by omega
      have T := fun (H : Heap) (c : Nat) hH => heatR_ok (H := H) (c := c) hk cs ts bs ((m : Int) - 1) hf hb hH
      have U0 := fun (H : Heap) (c : Nat) hH => heatedR_ok (H := H) (c := c) (h := (heatL cs bs ((m : Int) - 1)).lo) hk hko hw.lo hw.l (hh.lo _) hH
      have U1 := fun (H : Heap) (c : Nat) hH => heatedR_ok (H := H) (c := c) (h := (heatL cs bs ((m : Int) - 1)).hi) hk hko hw.hi hw.l (hh.hi _) hH
      rw [e0] at L h1 q1
      have el : (heatedW k w (heatL cs bs ((m : Int) - 1))).lo = min 1000 (dn (heatV k w.lo w.ladles (heatL cs bs ((m : Int) - 1)).lo) (w.ladles * 1000000)) := by rw [heatedW_def]
      have eh : (heatedW k w (heatL cs bs ((m : Int) - 1))).hi = min 1000 (upn (heatV k w.hi w.ladles (heatL cs bs ((m : Int) - 1)).hi) (w.ladles * 1000000)) := by rw [heatedW_def]
      rw [el, eh] at L
      simp only [Kettle.row] at U0 U1
      generalize min 1000 (dn (heatV k w.lo w.ladles (heatL cs bs ((m : Int) - 1)).lo) (w.ladles * 1000000)) = a0 at *
      generalize min 1000 (upn (heatV k w.lo w.ladles (heatL cs bs ((m : Int) - 1)).lo) (w.ladles * 1000000)) = a1 at *
      generalize min 1000 (dn (heatV k w.hi w.ladles (heatL cs bs ((m : Int) - 1)).hi) (w.ladles * 1000000)) = a2 at *
      generalize min 1000 (upn (heatV k w.hi w.ladles (heatL cs bs ((m : Int) - 1)).hi) (w.ladles * 1000000)) = a3 at *
      apply WPL_step
      conv => arg 4; whnf
      simp [hml, hmp, hmp', hH, rfr, Kettle.row, T, Span.row, U0, U1, hwm1]
      refine L _ _ (fun w' i' hi' hpq => ?_)
      rw [hpq] at h1 q1
      have ih2 := ih' w' i' hi' q1.1 q1.2 (fun lo hi => by have := h1 lo hi; simpa [Span.row] using this)
      simp [hb16, hwm]
      simp [rfr, Kettle.row] at ih2
      exact ih2

include hk hko hf in
theorem runR_ok (l : List Pour) (hl : l.length ≤ 1000) (last : Nat) (hlast : last ≤ 300) (hp : PsOk k.water l) (hH : 0 < H.length) :
    gcall (KC keep) (geval (KC keep)) 84 [.pure (.agg k.row), .pure (.agg [.slice (cs.map Coal.row), .slice (ts.map Touch.row)]), .pure (.slice (l.map Pour.row)), .pure (.int .i64 last)] c H =
      some (.pure (.slice ((runL k (fun m => heatL cs (beginsL cs ts) m) (last + 1) 0 ⟨k.water, k.warm.lo, k.warm.hi⟩ l).map Span.row)), H) := by
  refine WPv_eq (call_enter (KC keep) needT Try.func84 rfl rfl good84 rfl (by simp) hH ?_)
  have hlt : H.length - 1 < H.length := by omega
  have T := fun (H : Heap) (c : Nat) hH => beginsR_ok (H := H) (c := c) hk cs ts hf hH
  have h0 := fun Q hq => runR_loop0 (keep := keep) (H := H) hk hko hf (beginsL_bok hf) l hl last hlast Q hH (last + 1) 0 0 ⟨k.water, k.warm.lo, k.warm.hi⟩ [] (by omega) (kwok hko) (by simpa using hp) (by omega) rfl hq
  simp [apS_nil, apF_nil, rfr, Kettle.row] at h0
  simp [Kettle.row, T]
  refine h0 _ (fun lo hi => ?_)
  simp [gleave_free, hk, kept, cc_apS, hlt]

/-- What Run answers. -/
noncomputable def runA : Kettle → Fire → List Pour → Int → List Span × Int := hid fun k f l n => if askedF k f l n = 0 then (runL k (fun m => heatL f.coals (beginsL f.coals f.touches) m) (n.toNat + 1) 0 ⟨k.water, k.warm.lo, k.warm.hi⟩ l, 0) else ([], askedF k f l n)
theorem runA_def (k : Kettle) (f : Fire) (l : List Pour) (n : Int) : runA k f l n = if askedF k f l n = 0 then (runL k (fun m => heatL f.coals (beginsL f.coals f.touches) m) (n.toNat + 1) 0 ⟨k.water, k.warm.lo, k.warm.hi⟩ l, 0) else ([], askedF k f l n) := by rw [runA, hid_eq]
theorem asked_zero {k : Kettle} {f : Fire} {l : List Pour} {n : Int} (h : askedF k f l n = 0) : KOk k ∧ FireOk f.coals f.touches ∧ checkF f.coals f.touches = 0 ∧ PsOk k.water l ∧ l.length ≤ 20 ∧ 0 ≤ n ∧ n ≤ 300 := by
  rw [askedF_def] at h
  split at h
  · rename_i h1; exact absurd h h1
  · rename_i h1
    split at h
    · rename_i h2; exact absurd h h2
    · rename_i h2
      split at h
      · rename_i h3
        have h1' := Classical.not_not.1 h1
        have h2' := Classical.not_not.1 h2
        rw [poursF_def] at h1'
        split at h1'
        · rename_i e; exact absurd h1' e
        · rename_i e
          split at h1'
          · omega
          · have hko := kok_of (Classical.not_not.1 e)
            simp [inB] at h3
            exact ⟨hko, fireOk_of h2', h2', ⟨0, psok_of l _ _ hko.water h1'⟩, by omega, by omega, by omega⟩
      · omega
include hk in
theorem RunR_ok (k : Kettle) (f : Fire) (l : List Pour) (n : Int) (hH : 0 < H.length) :
    gcall (KC keep) (geval (KC keep)) 53 [.pure (.agg k.row), .pure (.agg f.row), .pure (.slice (l.map Pour.row)), .pure (.int .i64 n)] c H =
      some (.pure (.tuple [.slice ((runA k f l n).1.map Span.row), .int .i64 (runA k f l n).2]), H) := by
  refine WPv_eq (call_enter (KC keep) needT Try.func53 rfl rfl good53 rfl (by simp) hH ?_)
  rw [runA_def]
  have A := fun (H : Heap) (c : Nat) hH => askedR_ok (H := H) (c := c) (w := k.water) (wl := k.warm.lo) (wh := k.warm.hi) (ro := k.room) (ga := k.gain) (lo := k.lose) (si := k.sing) (bo := k.boil) (cs := f.coals) (ts := f.touches) (l := l) (n := n) hk hH
  have ek : (⟨k.water, ⟨k.warm.lo, k.warm.hi⟩, k.room, k.gain, k.lose, k.sing, k.boil⟩ : Kettle) = k := rfl
  have ef : (⟨f.coals, f.touches⟩ : Fire) = f := rfl
  rw [ek, ef] at A
  by_cases h : askedF k f l n = 0
  · obtain ⟨a1, a2, a3, a4, a5, a6, a7⟩ := asked_zero h
    obtain ⟨last, rfl⟩ : ∃ m : Nat, n = m := ⟨n.toNat, by omega⟩
    have R := fun (H : Heap) (c : Nat) hH => runR_ok (H := H) (c := c) hk a1 a2 l (by omega) last (by omega) a4 hH
    simp only [Kettle.row] at R
    rw [if_pos h]
    simp [Kettle.row, Fire.row, A, h, R, gleave_free, hk, kept]
  · have h' : (askedF k f l n != 0) = true := by simpa using h
    rw [if_neg h]
    simp [Kettle.row, Fire.row, A, h, h', gleave_free, hk, kept]
end
end Go.Gh

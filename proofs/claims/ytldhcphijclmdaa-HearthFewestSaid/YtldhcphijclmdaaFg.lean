/- Plain: warmer stays warmer. -/
import Derived.Test.YtldhcphijclmdaaFe
import Derived.Test.YtldhcphijclmdaaFf
import Derived.Test.YtldhcphijclmdaaFd
namespace Go.Gh
set_option linter.unusedSimpArgs false
set_option linter.unusedVariables false

/-- At one end (true: the lower one) no less. -/
def Sle (b : Bool) (s s' : Span) : Prop := if b = true then s.lo ≤ s'.lo else s.hi ≤ s'.hi
def Wle (b : Bool) (w w' : Water) : Prop := w.ladles = w'.ladles ∧ Sle b w.span w'.span
structure PLe (p p' : Pour) : Prop where
  m : p.minute = p'.minute
  l : p.ladles = p'.ladles
  w : p.warm ≤ p'.warm
def PsLe : List Pour → List Pour → Prop
  | [], [] => True
  | p :: r, p' :: r' => PLe p p' ∧ PsLe r r'
  | _, _ => False
theorem PsLe.refl : ∀ l : List Pour, PsLe l l
  | [] => trivial
  | p :: r => ⟨⟨rfl, rfl, Int.le_refl _⟩, PsLe.refl r⟩
structure KLe (k k' : Kettle) : Prop where
  room : k.room = k'.room
  gain : k.gain = k'.gain
  lose : k.lose = k'.lose

theorem heatV_mono {k k' : Kettle} (hk : KOk k) (hkk : KLe k k') {t t' L h h' : Int} (hL : 1 ≤ L) (ht : t ≤ t') (hh : h ≤ h') : heatV k t L h ≤ heatV k' t' L h' := by
  rw [heatV_eq, heatV_eq, ← hkk.room, ← hkk.gain, ← hkk.lose]
  have hl := hk.lose
  have hg := hk.gain
  have a1 : t * ((1000000 - k.lose) * L) ≤ t' * ((1000000 - k.lose) * L) := Int.mul_le_mul_of_nonneg_right ht (Int.mul_nonneg (by omega) (by omega))
  have a2 : h * k.gain ≤ h' * k.gain := Int.mul_le_mul_of_nonneg_right hh hg.1
  omega
theorem heatedW_le (b : Bool) {k k' : Kettle} (hk : KOk k) (hkk : KLe k k') {w w' : Water} (hw : WOk w) (h : Wle b w w') {s s' : Span} (hs : Sle b s s') : Wle b (heatedW k w s) (heatedW k' w' s') := by
  obtain ⟨h1, h2⟩ := h
  rw [heatedW_def, heatedW_def]
  refine ⟨h1, ?_⟩
  have hd : 0 < w.ladles * 1000000 := by have := hw.l; omega
  cases b with
  | true =>
    simp only [Sle, if_true, Water.span] at h2 hs ⊢
    have := dn_mono hd (heatV_mono hk hkk hw.l.1 h2 hs)
    rw [← h1]
    omega
  | false =>
    simp only [Sle, Bool.false_eq_true, if_false, Water.span] at h2 hs ⊢
    have := upn_mono hd (heatV_mono hk hkk hw.l.1 h2 hs)
    rw [← h1]
    omega
theorem pourV_mono {p p' : Pour} (hp : PLe p p') (hpos : 0 < p.ladles) {t t' L : Int} (hL : 1 ≤ L) (ht : t ≤ t') : pourV p t L ≤ pourV p' t' L := by
  unfold pourV
  rw [← hp.l]
  have a1 : t * L ≤ t' * L := Int.mul_le_mul_of_nonneg_right ht (by omega)
  have a2 : p.warm * p.ladles ≤ p'.warm * p.ladles := Int.mul_le_mul_of_nonneg_right hp.w (by omega)
  omega
theorem pouredW_le (b : Bool) {w w' : Water} (hw : WOk w) (h : Wle b w w') {p p' : Pour} (hp : PLe p p') (hL : 1 ≤ w.ladles + p.ladles) : Wle b (pouredW w p) (pouredW w' p') := by
  obtain ⟨h1, h2⟩ := h
  rw [pouredW_def, pouredW_def, ← hp.l]
  by_cases hpos : 0 < p.ladles
  · rw [if_pos hpos, if_pos hpos]
    refine ⟨by simp only; omega, ?_⟩
    cases b with
    | true =>
      simp only [Sle, if_true, Water.span] at h2 ⊢
      rw [← h1]
      exact dn_mono (by omega) (pourV_mono hp hpos hw.l.1 h2)
    | false =>
      simp only [Sle, Bool.false_eq_true, if_false, Water.span] at h2 ⊢
      rw [← h1]
      exact upn_mono (by omega) (pourV_mono hp hpos hw.l.1 h2)
  · rw [if_neg hpos, if_neg hpos]
    exact ⟨by simp only; omega, h2⟩
theorem poursAt_le (b : Bool) (m : Int) : ∀ (l l' : List Pour) (w w' : Water), WOk w → PsOk w.ladles l → Wle b w w' → PsLe l l' → Wle b (poursAt m w l).1 (poursAt m w' l').1 ∧ PsLe (poursAt m w l).2 (poursAt m w' l').2
  | [], [], w, w', _, _, h, _ => ⟨h, trivial⟩
  | [], _ :: _, w, w', _, _, _, hp => hp.elim
  | _ :: _, [], w, w', _, _, _, hp => hp.elim
  | p :: r, p' :: r', w, w', hw, hps, h, hp => by
    obtain ⟨q1, q2, q3, q4⟩ := hps.cons
    simp only [poursAt]
    rw [← hp.1.m]
    split
    · exact poursAt_le b m r r' _ _ (pouredW_ok hw q1 ⟨q2, q3⟩) (by rw [pouredW_ladles]; exact q4) (pouredW_le b hw h hp.1 q2) hp.2
    · exact ⟨h, hp⟩
def allLe' (b : Bool) : List Span → List Span → Prop
  | [], [] => True
  | s :: r, s' :: r' => Sle b s s' ∧ allLe' b r r'
  | _, _ => False
theorem allLe'.get {b : Bool} : ∀ {l l' : List Span}, allLe' b l l' → l.length = l'.length ∧ ∀ i (h : i < l.length) (h' : i < l'.length), Sle b l[i] l'[i]
  | [], [], _ => ⟨rfl, fun i h => by simp at h⟩
  | [], _ :: _, h => h.elim
  | _ :: _, [], h => h.elim
  | s :: r, s' :: r', h => by
    obtain ⟨i1, i2⟩ := allLe'.get h.2
    refine ⟨by simp [i1], fun i h1 h2 => ?_⟩
    cases i with
    | zero => exact h.1
    | succ i => exact i2 i (by simpa using h1) (by simpa using h2)
theorem stepW_le (b : Bool) {k k' : Kettle} (hk : KOk k) (hkk : KLe k k') {hs hs' : Int → Span} (hss : ∀ m, Sle b (hs m) (hs' m)) {w w' : Water} (hw : WOk w) (h : Wle b w w') (m : Nat) : Wle b (stepW k hs m w) (stepW k' hs' m w') := by
  unfold stepW
  split
  · exact h
  · exact heatedW_le b hk hkk hw h (hss _)
theorem runL_le (b : Bool) {k k' : Kettle} (hk : KOk k) (hkk : KLe k k') {hs hs' : Int → Span} (hh : HsOk hs) (hss : ∀ m, Sle b (hs m) (hs' m)) : ∀ (n m : Nat) (w w' : Water) (l l' : List Pour), WOk w → PsOk w.ladles l → Wle b w w' → PsLe l l' → allLe' b (runL k hs n m w l) (runL k' hs' n m w' l')
  | 0, m, w, w', l, l', _, _, _, _ => trivial
  | n + 1, m, w, w', l, l', hw, hps, h, hp => by
    simp only [runL]
    obtain ⟨s1, s2⟩ := stepW_ok m hk hh hw
    have q := poursAt_ok m l _ s1 (by rw [s2]; exact hps)
    obtain ⟨p1, p2⟩ := poursAt_le b m l l' _ _ s1 (by rw [s2]; exact hps) (stepW_le b hk hkk hss hw h m) hp
    exact ⟨p1.2, runL_le b hk hkk hh hss n (m + 1) _ _ _ _ q.1 q.2 p1 p2⟩
end Go.Gh


/- A fire within a fire. -/
namespace Go.Gh
open Go.Proofs
set_option linter.unusedSimpArgs false
set_option linter.unusedVariables false
set_option maxRecDepth 100000
set_option maxHeartbeats 4000000

variable {keep : Nat → Bool} (hk : ∀ f, kept f = false → keep f = false) {c : Nat} {H : Heap}

include hk in
theorem within2_ok {a b d e : Int} (hH : 0 < H.length) : gcall (KC keep) (geval (KC keep)) 52 [.pure (.agg [.int .i64 a, .int .i64 b]), .pure (.agg [.int .i64 d, .int .i64 e])] c H = some (.pure (.bool (decide (d ≤ a) && decide (b ≤ e))), H) := by
  refine WPv_eq (call_enter (KC keep) needT Try.func52 rfl rfl good52 rfl (by simp) hH ?_)
  by_cases h : d ≤ a
  · simp [h, gleave_free, hk, kept]
  · simp [h, gleave_free, hk, kept]

noncomputable def partC : Int → Coal → Coal × Int := hid fun w x =>
  (⟨(partR w x.katch).1, (partR (partR w x.katch).2 x.burn).1, (partR (partR (partR w x.katch).2 x.burn).2 x.heat).1, x.lit⟩, (partR (partR (partR w x.katch).2 x.burn).2 x.heat).2)
theorem partC_def (w : Int) (x : Coal) : partC w x =
  (⟨(partR w x.katch).1, (partR (partR w x.katch).2 x.burn).1, (partR (partR (partR w x.katch).2 x.burn).2 x.heat).1, x.lit⟩, (partR (partR (partR w x.katch).2 x.burn).2 x.heat).2) := by rw [partC, hid_eq]
noncomputable def innerR : Int → List Coal → List Coal × Int
  | w, [] => ([], w)
  | w, x :: r => ((partC w x).1 :: (innerR (partC w x).2 r).1, (innerR (partC w x).2 r).2)
theorem innerR_drop (w : Int) (l : List Coal) (i : Nat) (h : i < l.length) : innerR w (l.drop i) = ((partC w l[i]).1 :: (innerR (partC w l[i]).2 (l.drop (i + 1))).1, (innerR (partC w l[i]).2 (l.drop (i + 1))).2) := by
  rw [List.drop_eq_getElem_cons h]; rfl
def ifr (cs : List Coal) (ts : List Touch) (L : Nat) (rows : List (List PV)) : Fr :=
  apF 41 7 rows [(3, .box [.pure (.slice (cs.map Coal.row)), .pure (.slice (ts.map Touch.row))]), (4, .box [.nils, .nils]), (5, .box [apS (L, 41) 7 rows, .pure (.slice (ts.map Touch.row))])]
include hk in
theorem inner_loop (cs : List Coal) (ts : List Touch) (hn : cs.length ≤ 1000000) {nm : Nm} (hB : isBox H nm) (Q : GX → GSt → Prop) : ∀ (k i : Nat) (w : Int) (rows : List (List PV)), i + k = cs.length → rows.length = i →
    Q (.exit 0) ⟨[(4, .bptr (H.length, 4) 0), (5, .bptr (H.length, 5) 0)], ifr cs ts H.length (rows ++ (innerR w (cs.drop i)).1.map Coal.row) :: H.set nm (wbox (innerR w (cs.drop i)).2), 44⟩ →
    WPL (KC keep) needT 50 (lp Try.f50 0) [0, 3, 4, 5, 6] [4, 5] Q [(0, .bptr nm 0), (3, .bptr (H.length, 3) 0), (4, .bptr (H.length, 4) 0), (5, .bptr (H.length, 5) 0), (6, .pure (.int .i64 i))]
      (ifr cs ts H.length rows :: H.set nm (wbox w)) 44 := by
  have hl := isBox_lt hB
  have hne : ¬ nm.1 = H.length := by omega
  have hne2 : ¬ nm.1 = H.length + 1 := by omega
  have hle : nm.1 ≤ H.length := by omega
  have hB2 : ∀ fr w, isBox (fr :: H.set nm (wbox w)) nm := fun fr w => isBox_up (isBox_set' hl)
  have hB3 : ∀ f2 fr w, isBox (f2 :: fr :: H.set nm (wbox w)) nm := fun f2 fr w => isBox_up (hB2 fr w)
  have hl3 : nm.1 < H.length + 1 := by omega
  have hl2 : ∀ w, nm.1 < (H.set nm (wbox w)).length := fun w => by simpa using hl
  intro k
  induction k with
  | zero =>
    intro i w rows hi hr h1
    have e1 : cs.drop i = [] := List.drop_of_length_le (by omega)
    rw [e1] at h1
    apply WPL_step
    conv => arg 4; whnf
    have : ¬ i < cs.length := by omega
    simp [this, ifr]
    simp [innerR, ifr] at h1
    exact h1
  | succ k ih =>
    intro i w rows hi hr h1
    have hia : i < cs.length := by omega
    have hw := w64 (x := (i : Int) + 1) (by omega) (by omega)
    rw [innerR_drop w cs i hia] at h1
    have hb : (rows.length + 1) * 56 ≤ 1099511627776 := by omega
    have ih' := ih (i + 1) (partC w cs[i]).2 (rows ++ [(partC w cs[i]).1.row]) (by omega) (by simp [hr]) (by simpa using h1)
    rw [partC_def] at ih'
    clear ih h1
    simp only at ih'
    apply WPL_step
    conv => arg 4; whnf
    simp [hia, Coal.row, Span.row, hne, hne2, hle, part_ok hk, hB2, hB3, hl, hl2, hl3, wordAt_up, hw, hb, ifr]
    simp [ifr, Coal.row] at ih'
    exact ih'
theorem cc_agg1 {l l0 k1 e1 : Nat} {F : Fr} {r1 : List (List PV)} {p : PV} (hl : H.length = l) (h : l0 < l) (h1 : r1 ≠ [] → F.get k1 = some (.arr e1 r1 0 false)) :
    canon (clean (F :: H) l0 (.agg [apS (l, k1) e1 r1, .pure p])) = .pure (.agg [.slice r1, p]) := by
  rw [clean_agg]
  simp only [List.map_cons, List.map_nil, clean1_apS hl h h1]
  by_cases hr1 : r1 = [] <;> simp [hr1]
include hk in
theorem inner_ok (cs : List Coal) (ts : List Touch) (hn : cs.length ≤ 1000000) {nm : Nm} (hB : isBox H nm) : gcall (KC keep) (geval (KC keep)) 50 [.bptr nm 0, .pure (.agg [.slice (cs.map Coal.row), .slice (ts.map Touch.row)])] c H =
    some (.pure (.agg [.slice ((innerR (wordAt H nm) cs).1.map Coal.row), .slice (ts.map Touch.row)]), H.set nm (wbox (innerR (wordAt H nm) cs).2)) := by
  have hl := isBox_lt hB
  have hs := isBox_set hB
  refine WPv_eq (call_enter (KC keep) needT Try.func50 rfl rfl good50 rfl (by simp) (by omega) ?_)
  have hlt : H.length - 1 < H.length := by omega
  have h0 := fun Q hq => inner_loop hk cs ts hn hB Q cs.length 0 (wordAt H nm) [] (by omega) rfl hq
  simp [apS_nil, apF_nil, hs, ifr] at h0
  simp
  refine h0 _ ?_
  generalize innerR (wordAt H nm) cs = z at *
  have hcc : ∀ (F : Fr) (h1 : z.1.map Coal.row ≠ [] → F.get 41 = some (.arr 7 (z.1.map Coal.row) 0 false)) (w : Int),
      canon (clean (F :: H.set nm (wbox w)) (H.length - 1) (.agg [apS (H.length, 41) 7 (z.1.map Coal.row), .pure (.slice (ts.map Touch.row))])) = .pure (.agg [.slice (z.1.map Coal.row), .slice (ts.map Touch.row)]) :=
    fun F h1 w => cc_agg1 (by simp) hlt h1
  simp [gleave_free, hk, kept, -clean_agg]
  exact hcc _ (fun h => apF_self h) _

/-! ### what it is -/
structure SIn (x y : Span) : Prop where
  lo : y.lo ≤ x.lo
  hi : x.hi ≤ y.hi
  ok : x.lo ≤ x.hi
structure CIn (x y : Coal) : Prop where
  k : SIn x.katch y.katch
  b : SIn x.burn y.burn
  h : SIn x.heat y.heat
  l : x.lit = y.lit
def CsIn : List Coal → List Coal → Prop
  | [], [] => True
  | x :: r, y :: s => CIn x y ∧ CsIn r s
  | _, _ => False
theorem CsIn.get : ∀ {a b : List Coal}, CsIn a b → a.length = b.length ∧ ∀ i (h : i < a.length) (h' : i < b.length), CIn a[i] b[i]
  | [], [], _ => ⟨rfl, fun i h => by simp at h⟩
  | [], _ :: _, h => h.elim
  | _ :: _, [], h => h.elim
  | x :: r, y :: s, h => by
    obtain ⟨i1, i2⟩ := CsIn.get h.2
    refine ⟨by simp [i1], fun i h1 h2 => ?_⟩
    cases i with
    | zero => exact h.1
    | succ i => exact i2 i (by simpa using h1) (by simpa using h2)
theorem partR_in (w : Int) (x : Span) (h0 : -1000000 ≤ x.lo) (h : x.lo ≤ x.hi) (h1 : x.hi ≤ 1000000) : SIn (partR w x).1 x := by
  rw [partR_def]
  simp only
  have a1 := inR_rng w x h0 h h1
  have a2 := inR_rng (inR w x).2 x h0 h h1
  refine ⟨?_, ?_, ?_⟩ <;> simp only <;> split <;> (try split) <;> omega
theorem partC_in (w : Int) {x : Coal} (h : CMade x) : CIn (partC w x).1 x := by
  obtain ⟨h1, h2, h3⟩ := h
  rw [partC_def]
  exact ⟨partR_in _ _ (by omega) (by omega) (by omega), partR_in _ _ (by omega) (by omega) (by omega), partR_in _ _ (by omega) (by omega) (by omega), rfl⟩
theorem innerR_in : ∀ (cs : List Coal) (w : Int), (∀ x ∈ cs, CMade x) → CsIn (innerR w cs).1 cs
  | [], w, _ => trivial
  | x :: r, w, h => ⟨partC_in w (h x (List.mem_cons_self ..)), innerR_in r _ (fun y hy => h y (List.mem_cons_of_mem _ hy))⟩
end Go.Gh


/- Plain: what is asked of what was made is all right; narrower spans. -/
namespace Go.Gh
set_option linter.unusedSimpArgs false
set_option linter.unusedVariables false

/-! ### what was made is all right -/
theorem kettleF_ok {k : Kettle} (h : KOk k) : kettleF k = 0 := by
  obtain ⟨h1, h2, h3, h4, h5, h6⟩ := h
  rw [kettleF_def, if_pos (by simp [inB]; omega), faultF_ok (by omega)]
  rw [if_neg (by simp), if_pos (by simp [inB]; omega), if_neg (by omega)]
theorem poursErr_ok : ∀ (l : List Pour) (w m : Int), 1 ≤ w ∧ w ≤ 50 → psOk w m l → poursErr w m l = 0
  | [], w, m, _, _ => rfl
  | p :: r, w, m, hw, ⟨h1, h2, h3, h4, h5⟩ => by
    obtain ⟨a1, a2, a3⟩ := h1
    have hwr := w64 (x := w + p.ladles) (by omega) (by omega)
    simp only [poursErr]
    rw [if_pos (by simp [inB]; omega), if_neg (by omega), hwr, if_pos (by simp [inB]; omega)]
    exact poursErr_ok r _ _ ⟨h3, h4⟩ h5
theorem asked_ok0 {k : Kettle} {f : Fire} {l : List Pour} {n : Int} (hk : KOk k) (hc : checkF f.coals f.touches = 0) (hl : l.length ≤ 20) (hp : psOk k.water 0 l) (hn : 0 ≤ n ∧ n ≤ 300) : askedF k f l n = 0 := by
  have h1 : poursF k l = 0 := by
    rw [poursF_def, kettleF_ok hk, if_neg (by simp), if_neg (by omega)]
    exact poursErr_ok l _ _ hk.water hp
  rw [askedF_def, h1, hc]
  rw [if_neg (by simp), if_neg (by simp), if_pos (by simp [inB]; omega)]
theorem kettleR_kok (w : Int) : KOk (kettleR w).1 := by
  rw [kettleR_def]
  simp only
  have a1 := anyR_rng w 1 30 (by omega) (by omega) (by omega)
  generalize anyR w 1 30 = x1 at *
  have a2 := spanR_rng x1.2 100 600 (by omega) (by omega) (by omega)
  generalize spanR x1.2 100 600 = x2 at *
  have a3 := anyR_rng x2.2 50 300 (by omega) (by omega) (by omega)
  generalize anyR x2.2 50 300 = x3 at *
  have a4 := upR_rng x3.2 100 (by omega)
  generalize upR x3.2 100 = x4 at *
  have a5 := upR_rng x4.2 300 (by omega)
  generalize upR x4.2 300 = x5 at *
  have a6 := pick3_mem x5.2 0 x4.1 x5.1
  generalize pickR x5.2 [0, x4.1, x5.1] = x6 at *
  have a7 := upR_rng x6.2 300000 (by omega)
  generalize upR x6.2 300000 = x7 at *
  have a8 := upR_rng x7.2 1000001 (by omega)
  generalize upR x7.2 1000001 = x8 at *
  have a9 := pick3_mem x8.2 0 x7.1 x8.1
  generalize pickR x8.2 [0, x7.1, x8.1] = x9 at *
  have b1 := anyR_rng x9.2 0 800 (by omega) (by omega) (by omega)
  generalize anyR x9.2 0 800 = y1 at *
  have b2 := anyR_rng y1.2 y1.1 1000 (by omega) (by omega) (by omega)
  generalize anyR y1.2 y1.1 1000 = y2 at *
  exact ⟨by simp only; omega, by simp only; omega, by simp only; omega, by simp only; omega, by simp only; omega, by simp only; omega⟩
theorem poursOfR_ok (k : Kettle) (hk : KOk k) (most mins w : Int) (hm : 0 ≤ most ∧ most ≤ 20) (hmi : 0 ≤ mins ∧ mins ≤ 1000) : psOk k.water 0 (poursOfR k most mins w).1 ∧ (poursOfR k most mins w).1.length ≤ most := by
  unfold poursOfR
  have hr := upR_rng w (most + 1) (by omega)
  have e2 : mins.tdiv 2 = mins / 2 := tdiv_pos hmi.1
  have := poursG_ok (mins.tdiv 2 + 1) (by rw [e2]; omega) (upR w (most + 1)).1.toNat k.water 0 (upR w (most + 1)).2 hk.water (by omega)
  exact ⟨this.1, by omega⟩

/-! ### narrower -/
theorem CIn.made {x y : Coal} (h : CIn x y) (hy : CMade y) : CMade x := by
  obtain ⟨h1, h2, h3, h4⟩ := h
  obtain ⟨k1, k2, k3⟩ := hy
  have := h1.lo; have := h1.hi; have := h1.ok; have := h2.lo; have := h2.hi; have := h2.ok; have := h3.lo; have := h3.hi; have := h3.ok
  exact ⟨by omega, by omega, by omega⟩
theorem CsIn.made {m : Nat} {cs cs' : List Coal} {ts : List Touch} (h : CsIn cs' cs) (hm : FMade m ⟨cs, ts⟩) : FMade m ⟨cs', ts⟩ := by
  obtain ⟨h1, h2⟩ := h.get
  obtain ⟨m1, m2, m3, m4⟩ := hm
  simp only at m1 m2 m3 m4
  refine ⟨by simp only; omega, by simp only; omega, fun x hx => ?_, fun x hx => by simp only; rw [h1]; exact m4 x hx⟩
  obtain ⟨i, hi, e⟩ := List.getElem_of_mem hx
  simp only at hi
  rw [← e]
  exact (h2 i hi (by omega)).made (m3 _ (List.getElem_mem _))
theorem CsIn.lits : ∀ {a b : List Coal}, CsIn a b → lits a = lits b
  | [], [], _ => rfl
  | [], _ :: _, h => h.elim
  | _ :: _, [], h => h.elim
  | x :: r, y :: s, h => by simp only [Go.Gh.lits, h.1.l, CsIn.lits h.2]

theorem begins_in {cs cs' : List Coal} {ts : List Touch} (h : CsIn cs' cs) (hf : FireOk cs ts) (hf' : FireOk cs' ts) : (beginsL cs' ts).length = cs.length ∧ (beginsL cs ts).length = cs.length ∧
    ∀ i (h : i < (beginsL cs ts).length) (h' : i < (beginsL cs' ts).length), (beginsL cs ts)[i].lo ≤ (beginsL cs' ts)[i].lo ∧ (beginsL cs' ts)[i].hi ≤ (beginsL cs ts)[i].hi := by
  obtain ⟨hl, hi⟩ := h.get
  have hn := hf.n
  have key : ∀ cs : List Coal, FireOk cs ts → (∀ i, i < cs.length → 1 ≤ (soonC cs).getD i 0 ∧ (soonC cs).getD i 0 ≤ 300) ∧ (∀ i, i < cs.length → 1 ≤ (lateC cs).getD i 0 ∧ (lateC cs).getD i 0 ≤ 300) := by
    intro cs hf
    refine ⟨fun i hi => ?_, fun i hi => ?_⟩
    · have := hf.coal cs[i] (List.getElem_mem hi)
      rw [soonC, getD_map_of hi]; omega
    · have := hf.coal cs[i] (List.getElem_mem hi)
      rw [lateC, getD_map_of hi]; omega
  obtain ⟨a1, a2⟩ := key cs hf
  obtain ⟨b1, b2⟩ := key cs' hf'
  have s1 := times_sol (bu := soonB cs) cs (by omega) a1 hf.touch
  have s2 := times_sol (bu := lateB cs) cs (by omega) a2 hf.touch
  have r1 := times_sol (bu := soonB cs') cs' (by omega) b1 hf'.touch
  have r2 := times_sol (bu := lateB cs') cs' (by omega) b2 hf'.touch
  have bo := beginsL_bok hf
  have bo' := beginsL_bok hf'
  rw [h.lits, hl] at r1 r2
  rw [beginsL_def] at bo bo' ⊢
  rw [beginsL_def]
  have c1 := s1.len; have c2 := s2.len; have c3 := r1.len; have c4 := r2.len
  have bv : ∀ (cs : List Coal) (t1 t2 : List Int) (n : Nat), BOk cs (List.zipWith mkSpan t1 t2) → t1.length = n → t2.length = n → ∀ i, i < n → t1.getD i 0 ≤ 1000000 ∧ t2.getD i 0 ≤ 1000000 := fun cs t1 t2 n b l1 l2 i hi => by
    have := b.val _ (List.getElem_mem (l := List.zipWith mkSpan t1 t2) (n := i) (by simp [l1, l2]; omega))
    simp [mkSpan] at this
    rw [getD_eq (by omega), getD_eq (by omega)]
    omega
  have v1 := bv cs _ _ _ bo c1 c2
  have v2 := bv cs' _ _ _ bo' c3 c4
  refine ⟨by simp [c3, c4], by simp [c1, c2], fun i h1 h2 => ?_⟩
  have hi' : i < cs.length := by simp [c1, c2] at h1; exact h1
  have hi2 : i < cs'.length := by omega
  have e1 : (List.zipWith mkSpan (times (soonC cs) (soonB cs) ts cs) (times (lateC cs) (lateB cs) ts cs))[i] = ⟨(times (soonC cs) (soonB cs) ts cs).getD i 0, (times (lateC cs) (lateB cs) ts cs).getD i 0⟩ := by
    rw [getD_eq (by omega), getD_eq (by omega)]; simp [mkSpan]
  have e2 : (List.zipWith mkSpan (times (soonC cs') (soonB cs') ts cs') (times (lateC cs') (lateB cs') ts cs'))[i] = ⟨(times (soonC cs') (soonB cs') ts cs').getD i 0, (times (lateC cs') (lateB cs') ts cs').getD i 0⟩ := by
    rw [getD_eq (by omega), getD_eq (by omega)]; simp [mkSpan]
  rw [e1, e2]
  constructor
  · refine Sol.mono' (ca := soonC cs') (bu := soonB cs') (ca' := soonC cs) (bu' := soonB cs) (n := cs.length) (fun i hi => (b1 i (by omega)).1) (fun j hj => ?_) (fun j hj => ?_) r1 s1 (fun j hj => ⟨(v2 j hj).1, (v1 j hj).1⟩) hi'
    · rw [soonC, soonC, getD_map_of (show j < cs'.length by omega), getD_map_of hj]; exact (hi j (by omega) hj).k.lo
    · rw [soonB, soonB, getD_map_of (show j < cs'.length by omega), getD_map_of hj]; exact (hi j (by omega) hj).b.hi
  · refine Sol.mono' (ca := lateC cs) (bu := lateB cs) (ca' := lateC cs') (bu' := lateB cs') (n := cs.length) (fun i hi => (a2 i hi).1) (fun j hj => ?_) (fun j hj => ?_) s2 r2 (fun j hj => ⟨(v1 j hj).2, (v2 j hj).2⟩) hi'
    · rw [lateC, lateC, getD_map_of (show j < cs'.length by omega), getD_map_of hj]; exact (hi j (by omega) hj).k.hi
    · rw [lateB, lateB, getD_map_of (show j < cs'.length by omega), getD_map_of hj]; exact (hi j (by omega) hj).b.lo

theorem heat_sums (m : Int) : ∀ (cs cs' : List Coal) (bs bs' : List Span) (s s' : Span), CsIn cs' cs → bs.length = cs.length → bs'.length = cs.length →
    (∀ i (h : i < cs.length) (hb : i < bs.length) (hb' : i < bs'.length), bs[i].lo ≤ bs'[i].lo ∧ bs'[i].hi ≤ bs[i].hi ∧ 0 ≤ cs[i].heat.lo ∧ bs[i].hi ≤ 1000000) →
    s.lo ≤ s'.lo → s'.hi ≤ s.hi → (sumsF s (List.zipWith (hp m) bs cs)).lo ≤ (sumsF s' (List.zipWith (hp m) bs' cs')).lo ∧ (sumsF s' (List.zipWith (hp m) bs' cs')).hi ≤ (sumsF s (List.zipWith (hp m) bs cs)).hi
  | [], [], [], [], s, s', _, _, _, _, h1, h2 => ⟨h1, h2⟩
  | c :: cs, c' :: cs', b :: bs, b' :: bs', s, s', hi, e1, e2, hh, h1, h2 => by
    have h0 := hh 0 (by simp) (by simp) (by simp)
    simp at h0
    obtain ⟨⟨k1, k2, k3⟩, ⟨l1, l2, l3⟩, ⟨m1, m2, m3⟩, _⟩ := hi.1
    simp only [List.zipWith_cons_cons, sumsF]
    refine heat_sums m cs cs' bs bs' _ _ hi.2 (by simpa using e1) (by simpa using e2) (fun i hi hb hb' => ?_) ?_ ?_
    · have := hh (i + 1) (by simpa using hi) (by simpa using hb) (by simpa using hb')
      simpa using this
    · simp only [hp, hlo_def]
      split <;> split <;> omega
    · simp only [hp, hhi_def]
      split <;> split <;> omega
  | [], _ :: _, _, _, _, _, h, _, _, _, _, _ => h.elim
  | _ :: _, [], _, _, _, _, h, _, _, _, _, _ => h.elim
theorem heat_in {cs cs' : List Coal} {ts : List Touch} (h : CsIn cs' cs) (hf : FireOk cs ts) (hf' : FireOk cs' ts) (m : Int) :
    (heatL cs (beginsL cs ts) m).lo ≤ (heatL cs' (beginsL cs' ts) m).lo ∧ (heatL cs' (beginsL cs' ts) m).hi ≤ (heatL cs (beginsL cs ts) m).hi := by
  obtain ⟨l1, l2, hb⟩ := begins_in h hf hf'
  have bo := beginsL_bok hf
  exact heat_sums m cs cs' _ _ ⟨0, 0⟩ ⟨0, 0⟩ h l2 l1 (fun i hi h1 h2 => by
    have := hb i h1 h2
    have := hf.coal cs[i] (List.getElem_mem hi)
    have := bo.val _ (List.getElem_mem h1)
    omega) (by simp) (by simp)

/-- Narrower spans: nothing that is known is wider. -/
theorem run_in {cs cs' : List Coal} {ts : List Touch} (h : CsIn cs' cs) (hf : FireOk cs ts) (hf' : FireOk cs' ts) {k k' : Kettle} (hk : KOk k) (hk' : KOk k') (hkk : KLe k k') (hw : k'.water = k.water) (hkw : SIn k'.warm k.warm) {l : List Pour} (hp : PsOk k.water l) (n : Nat) :
    ∀ i (h : i < (runL k (fun m => heatL cs (beginsL cs ts) m) n 0 ⟨k.water, k.warm.lo, k.warm.hi⟩ l).length) (h' : i < (runL k' (fun m => heatL cs' (beginsL cs' ts) m) n 0 ⟨k'.water, k'.warm.lo, k'.warm.hi⟩ l).length),
      (runL k (fun m => heatL cs (beginsL cs ts) m) n 0 ⟨k.water, k.warm.lo, k.warm.hi⟩ l)[i].lo ≤ (runL k' (fun m => heatL cs' (beginsL cs' ts) m) n 0 ⟨k'.water, k'.warm.lo, k'.warm.hi⟩ l)[i].lo ∧
      (runL k' (fun m => heatL cs' (beginsL cs' ts) m) n 0 ⟨k'.water, k'.warm.lo, k'.warm.hi⟩ l)[i].hi ≤ (runL k (fun m => heatL cs (beginsL cs ts) m) n 0 ⟨k.water, k.warm.lo, k.warm.hi⟩ l)[i].hi := by
  have hkk' : KLe k' k := ⟨hkk.room.symm, hkk.gain.symm, hkk.lose.symm⟩
  have r1 := (runL_le true hk hkk (hsok hf) (hs' := fun m => heatL cs' (beginsL cs' ts) m) (fun m => by simp only [Sle, if_true]; exact (heat_in h hf hf' m).1) n 0 ⟨k.water, k.warm.lo, k.warm.hi⟩ ⟨k'.water, k'.warm.lo, k'.warm.hi⟩ l l (kwok hk) hp ⟨hw.symm, by simp only [Sle, if_true, Water.span]; exact hkw.lo⟩ (PsLe.refl l)).get
  have r2 := (runL_le false hk' hkk' (hsok hf') (hs' := fun m => heatL cs (beginsL cs ts) m) (fun m => by simp only [Sle, Bool.false_eq_true, if_false]; exact (heat_in h hf hf' m).2) n 0 ⟨k'.water, k'.warm.lo, k'.warm.hi⟩ ⟨k.water, k.warm.lo, k.warm.hi⟩ l l (kwok hk') (by simp only; rw [hw]; exact hp) ⟨hw, by simp only [Sle, Bool.false_eq_true, if_false, Water.span]; exact hkw.hi⟩ (PsLe.refl l)).get
  intro i h1 h2
  have a1 := r1.2 i h1 h2
  have a2 := r2.2 i h2 h1
  simp only [Sle, if_true, Bool.false_eq_true, if_false] at a1 a2
  exact ⟨a1, a2⟩
theorem verd_in {k k' : Kettle} (h1 : k'.sing = k.sing) (h2 : k'.boil = k.boil) {x y : Span} (hx : x.lo ≤ x.hi) (hl : y.lo ≤ x.lo) (hh : x.hi ≤ y.hi) (hv : verd k y ≠ 3) : verd k' x = verd k y := by
  unfold verd at *
  rw [singsF_def] at hv
  rw [singsF_def, singsF_def, h1, h2]
  by_cases c1 : k.sing ≤ y.lo ∧ y.hi ≤ k.boil
  · rw [if_pos c1, if_pos (by omega)]
  · rw [if_neg c1] at hv ⊢
    by_cases c2 : y.hi < k.sing ∨ k.boil < y.lo
    · rw [if_pos c2, if_neg (by omega), if_pos (by omega)]
    · rw [if_neg c2] at hv
      exact absurd rfl hv

/-! ### the lower end is no more than the upper one -/
theorem begins_ord {cs : List Coal} {ts : List Touch} (hn : cs.length ≤ 12) (hm : ∀ x ∈ cs, CMade x) (hf : FireOk cs ts) : ∀ i (h : i < (beginsL cs ts).length), (beginsL cs ts)[i].lo ≤ (beginsL cs ts)[i].hi := by
  have hd : Drawn cs (soonC cs) (soonB cs) := ⟨by simp [soonC], by simp [soonB], fun i hi => by
    have := (hm cs[i] (List.getElem_mem hi)).k
    rw [soonC, getD_map_of hi]; omega, fun i hi => by
    have := (hm cs[i] (List.getElem_mem hi)).b
    rw [soonB, getD_map_of hi]; omega⟩
  intro i hi
  have := (fire_holds hn hm hf hd).2 i hi
  omega
theorem sums_ord : ∀ (l : List Span) (a : Span), (∀ x ∈ l, x.lo ≤ x.hi) → a.lo ≤ a.hi → (sumsF a l).lo ≤ (sumsF a l).hi
  | [], a, _, h => h
  | x :: r, a, hx, h => by
    have := hx x (List.mem_cons_self ..)
    exact sums_ord r _ (fun y hy => hx y (List.mem_cons_of_mem _ hy)) (by simp only; omega)
theorem heat_ord {cs : List Coal} {ts : List Touch} (hn : cs.length ≤ 12) (hm : ∀ x ∈ cs, CMade x) (hf : FireOk cs ts) (m : Int) : (heatL cs (beginsL cs ts) m).lo ≤ (heatL cs (beginsL cs ts) m).hi := by
  refine sums_ord _ _ (fun x hx => ?_) (by simp)
  obtain ⟨i, hi, e⟩ := List.getElem_of_mem hx
  have hl := hi
  simp at hl
  have hl1 : i < (beginsL cs ts).length := by omega
  have hl2 : i < cs.length := by omega
  have h1 := begins_ord hn hm hf i hl1
  have h2 := hf.coal _ (List.getElem_mem hl2)
  have e1 : x = ⟨hlo m (beginsL cs ts)[i] cs[i], hhi m (beginsL cs ts)[i] cs[i]⟩ := by rw [← e]; simp [hp]
  subst e1
  simp only [hlo_def, hhi_def]
  split <;> split <;> omega
theorem heatedW_ord {k : Kettle} (hk : KOk k) {w : Water} (hw : WOk w) (ho : w.lo ≤ w.hi) {s : Span} (hs : s.lo ≤ s.hi) : (heatedW k w s).lo ≤ (heatedW k w s).hi := by
  rw [heatedW_def]
  have hd : 0 < w.ladles * 1000000 := by have := hw.l; omega
  have h1 := dn_mono hd (heatV_mono (k' := k) hk ⟨rfl, rfl, rfl⟩ hw.l.1 ho hs)
  have h2 := dn_le_upn (n := heatV k w.hi w.ladles s.hi) hd
  simp only
  omega
theorem pouredW_ord {w : Water} (hw : WOk w) (ho : w.lo ≤ w.hi) {p : Pour} (hL : 1 ≤ w.ladles + p.ladles) : (pouredW w p).lo ≤ (pouredW w p).hi := by
  rw [pouredW_def]
  split
  · rename_i hpos
    have h1 := dn_mono (d := w.ladles + p.ladles) (by omega) (pourV_mono (p := p) (p' := p) ⟨rfl, rfl, Int.le_refl _⟩ hpos hw.l.1 ho)
    have h2 := dn_le_upn (n := pourV p w.hi w.ladles) (d := w.ladles + p.ladles) (by omega)
    simp only
    omega
  · exact ho
theorem poursAt_ord (m : Int) : ∀ (l : List Pour) (w : Water), WOk w → PsOk w.ladles l → w.lo ≤ w.hi → (poursAt m w l).1.lo ≤ (poursAt m w l).1.hi
  | [], w, _, _, h => h
  | p :: r, w, hw, hp, h => by
    obtain ⟨q1, q2, q3, q4⟩ := hp.cons
    simp only [poursAt]
    split
    · exact poursAt_ord m r _ (pouredW_ok hw q1 ⟨q2, q3⟩) (by rw [pouredW_ladles]; exact q4) (pouredW_ord hw h q2)
    · exact h
theorem runL_ord {k : Kettle} (hk : KOk k) {hs : Int → Span} (hh : HsOk hs) (ho : ∀ m, (hs m).lo ≤ (hs m).hi) : ∀ (n m : Nat) (w : Water) (l : List Pour), WOk w → PsOk w.ladles l → w.lo ≤ w.hi → ∀ s ∈ runL k hs n m w l, s.lo ≤ s.hi
  | 0, m, w, l, _, _, _, s, h => by simp [runL] at h
  | n + 1, m, w, l, hw, hp, hlo, s, h => by
    obtain ⟨s1, s2⟩ := stepW_ok m hk hh hw
    have q := poursAt_ok m l _ s1 (by rw [s2]; exact hp)
    have h1 : (stepW k hs m w).lo ≤ (stepW k hs m w).hi := by
      unfold stepW
      split
      · exact hlo
      · exact heatedW_ord hk hw hlo (ho _)
    have h2 := poursAt_ord m l _ s1 (by rw [s2]; exact hp) h1
    simp only [runL] at h
    rcases List.mem_cons.1 h with rfl | h
    · exact h2
    · exact runL_ord hk hh ho n (m + 1) _ _ q.1 q.2 h2 s h
end Go.Gh

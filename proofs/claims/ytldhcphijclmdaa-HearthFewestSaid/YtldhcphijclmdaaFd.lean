/- How a fire truly burns, and how hot it is. -/
import Derived.Test.YtldhcphijclmdaaFc
import Derived.Test.YtldhcphijclmdaaPa
namespace Go.Gh
open Go.Proofs
set_option linter.unusedSimpArgs false
set_option linter.unusedVariables false
set_option maxRecDepth 100000
set_option maxHeartbeats 4000000

section
variable {key es : Nat} {rows : List (List PV)} {fr : Fr} {H : Heap} {nm : Nm}
/-- One row more in the list that lies one deeper. -/
@[simp] theorem apK_00 {l bytes k2 e2 : Nat} {r2 : List (List PV)} {r : List PV} (hl : H.length = l) (hf : fr.get key = none) (hne : k2 ≠ key) (hb : (rows.length + 1) * bytes ≤ 1099511627776) :
    apK l key (apS (l, key) es rows) es bytes [r] (apF k2 e2 r2 (apF key es rows fr) :: H) = some (apS (l, key) es (rows ++ [r]), apF k2 e2 r2 (apF key es (rows ++ [r]) fr) :: H) := by
  subst hl
  have h1 : (apF k2 e2 r2 (apF key es rows fr)).get key = (apF key es rows fr).get key := apF_get (Ne.symm hne)
  rw [apK_apS (fun h => by subst h; simp only [Heap.get, if_true]; rw [h1]; exact hf) (fun h => by simp [h1, apF_self h]) (by simp) hb]
  simp [apF_ins (Ne.symm hne)]
  congr 1
  unfold apF
  simp
  split
  · rfl
  · rw [Fr.ins_ins]
@[simp] theorem apK_10 {l bytes k2 e2 : Nat} {r2 : List (List PV)} {r : List PV} {f0 : Fr} (hl : H.length = l) (hf : fr.get key = none) (hne : k2 ≠ key) (hb : (rows.length + 1) * bytes ≤ 1099511627776) :
    apK l key (apS (l, key) es rows) es bytes [r] (f0 :: apF k2 e2 r2 (apF key es rows fr) :: H) = some (apS (l, key) es (rows ++ [r]), f0 :: apF k2 e2 r2 (apF key es (rows ++ [r]) fr) :: H) := by
  subst hl
  have h1 : (apF k2 e2 r2 (apF key es rows fr)).get key = (apF key es rows fr).get key := apF_get (Ne.symm hne)
  rw [apK_apS (fun h => by subst h; simp only [Heap.get, List.length_cons]; rw [if_neg (by simp), if_true, h1]; exact hf) (fun h => by simp [h1, apF_self h]) (by simp; omega) hb]
  simp [apF_ins (Ne.symm hne)]
  congr 1
  unfold apF
  simp
  split
  · rfl
  · rw [Fr.ins_ins]
end

variable {keep : Nat → Bool} (hk : ∀ f, kept f = false → keep f = false) {c : Nat} {H : Heap}

/-! ### BurningOf -/
noncomputable def pairR : Int → Int → Coal → (Int × Int) × Int := hid fun how w x =>
  let a := inR w x.katch
  let b := inR a.2 x.burn
  (if how = 0 then (x.katch.lo, x.burn.hi) else if how = 1 then (x.katch.hi, x.burn.lo) else (a.1, b.1), b.2)
theorem pairR_def (how w : Int) (x : Coal) : pairR how w x =
  (let a := inR w x.katch
  let b := inR a.2 x.burn
  (if how = 0 then (x.katch.lo, x.burn.hi) else if how = 1 then (x.katch.hi, x.burn.lo) else (a.1, b.1), b.2)) := by rw [pairR, hid_eq]
noncomputable def pairsR (how : Int) : Int → List Coal → List Int × List Int × Int
  | w, [] => ([], [], w)
  | w, x :: r => ((pairR how w x).1.1 :: (pairsR how (pairR how w x).2 r).1, (pairR how w x).1.2 :: (pairsR how (pairR how w x).2 r).2.1, (pairsR how (pairR how w x).2 r).2.2)
theorem pairsR_drop (how w : Int) (l : List Coal) (i : Nat) (h : i < l.length) : pairsR how w (l.drop i) =
    ((pairR how w l[i]).1.1 :: (pairsR how (pairR how w l[i]).2 (l.drop (i + 1))).1, (pairR how w l[i]).1.2 :: (pairsR how (pairR how w l[i]).2 (l.drop (i + 1))).2.1, (pairsR how (pairR how w l[i]).2 (l.drop (i + 1))).2.2) := by
  rw [List.drop_eq_getElem_cons h]; rfl
def bufr (cs : List Coal) (ts : List Touch) (L : Nat) (r1 r2 : List (List PV)) : Fr :=
  apF 59 1 r2 (apF 54 1 r1 [(3, .box [.pure (.slice (cs.map Coal.row)), .pure (.slice (ts.map Touch.row))]), (4, .box [.nils, .nils]), (5, .box [apS (L, 54) 1 r1, apS (L, 59) 1 r2])])
include hk in
theorem burning_loop (cs : List Coal) (ts : List Touch) (hn : cs.length ≤ 1000000) {nm : Nm} (how : Int) (hB : isBox H nm) (Q : GX → GSt → Prop) : ∀ (k i : Nat) (w : Int) (r1 r2 : List (List PV)), i + k = cs.length → r1.length = i → r2.length = i →
    Q (.exit 0) ⟨[(4, .bptr (H.length, 4) 0), (5, .bptr (H.length, 5) 0)], bufr cs ts H.length (r1 ++ (pairsR how w (cs.drop i)).1.map irow) (r2 ++ (pairsR how w (cs.drop i)).2.1.map irow) :: H.set nm (wbox (pairsR how w (cs.drop i)).2.2), 63⟩ →
    WPL (KC keep) needT 36 (lp Try.f36 0) [0, 3, 4, 5, 6, 7] [4, 5] Q [(0, .bptr nm 0), (3, .bptr (H.length, 3) 0), (4, .bptr (H.length, 4) 0), (5, .bptr (H.length, 5) 0), (6, .pure (.int .i64 how)), (7, .pure (.int .i64 i))]
      (bufr cs ts H.length r1 r2 :: H.set nm (wbox w)) 63 := by
  have hl := isBox_lt hB
  have hne : ¬ nm.1 = H.length := by omega
  have hne2 : ¬ nm.1 = H.length + 1 := by omega
  have hle : nm.1 ≤ H.length := by omega
  have hB2 : ∀ fr w, isBox (fr :: H.set nm (wbox w)) nm := fun fr w => isBox_up (isBox_set' hl)
  have hB3 : ∀ f2 fr w, isBox (f2 :: fr :: H.set nm (wbox w)) nm := fun f2 fr w => isBox_up (hB2 fr w)
  have hl3 : nm.1 < H.length + 1 := by omega
  have hl2 : ∀ w, nm.1 < (H.set nm (wbox w)).length := fun w => by simpa using hl
  intro k
  induction k with
  | zero =>
    intro i w r1 r2 hi q1 q2 h1
    have e1 : cs.drop i = [] := List.drop_of_length_le (by omega)
    rw [e1] at h1
    apply WPL_step
    conv => arg 4; whnf
    have : ¬ i < cs.length := by omega
    simp [this, bufr]
    simp [pairsR, bufr] at h1
    exact h1
  | succ k ih =>
    intro i w r1 r2 hi q1 q2 h1
    have hia : i < cs.length := by omega
    have hw := w64 (x := (i : Int) + 1) (by omega) (by omega)
    rw [pairsR_drop how w cs i hia] at h1
    have hb1 : (r1.length + 1) * 8 ≤ 1099511627776 := by omega
    have hb2 : (r2.length + 1) * 8 ≤ 1099511627776 := by omega
    have ih' := ih (i + 1) (pairR how w cs[i]).2 (r1 ++ [irow (pairR how w cs[i]).1.1]) (r2 ++ [irow (pairR how w cs[i]).1.2]) (by omega) (by simp [q1]) (by simp [q2])
    have ih2 := fun hq => ih' (by simpa using hq)
    simp at h1
    have ih3 := ih2 h1
    rw [pairR_def] at ih3
    clear ih ih' ih2 h1
    apply WPL_step
    conv => arg 4; whnf
    by_cases c0 : how = 0
    · simp [hia, Coal.row, hne, hne2, hle, in_ok hk, hB2, hB3, hl, hl2, hl3, wordAt_up, hw, hb1, hb2, c0, bufr]
      simp [irow, c0, bufr] at ih3
      exact ih3
    · have c0' : (how == 0) = false := by simpa using c0
      by_cases c1 : how = 1
      · simp [hia, Coal.row, hne, hne2, hle, in_ok hk, hB2, hB3, hl, hl2, hl3, wordAt_up, hw, hb1, hb2, c0, c0', c1, bufr]
        simp [irow, c0, c1, bufr] at ih3
        exact ih3
      · have c1' : (how == 1) = false := by simpa using c1
        simp [hia, Coal.row, hne, hne2, hle, in_ok hk, hB2, hB3, hl, hl2, hl3, wordAt_up, hw, hb1, hb2, c0, c0', c1, c1', bufr]
        simp [irow, c0, c1, bufr] at ih3
        exact ih3
noncomputable def burningR (w : Int) (cs : List Coal) : List Int × List Int × Int := pairsR (upR w 4).1 (upR w 4).2 cs
include hk in
theorem burning_ok (cs : List Coal) (ts : List Touch) (hn : cs.length ≤ 1000000) {nm : Nm} (hB : isBox H nm) : gcall (KC keep) (geval (KC keep)) 36 [.bptr nm 0, .pure (.agg [.slice (cs.map Coal.row), .slice (ts.map Touch.row)])] c H =
    some (.pure (.agg [.slice ((burningR (wordAt H nm) cs).1.map irow), .slice ((burningR (wordAt H nm) cs).2.1.map irow)]), H.set nm (wbox (burningR (wordAt H nm) cs).2.2)) := by
  have hl := isBox_lt hB
  have hs := isBox_set hB
  have hne : ¬ nm.1 = H.length := by omega
  refine WPv_eq (call_enter (KC keep) needT Try.func36 rfl rfl good36 rfl (by simp) (by omega) ?_)
  have hlt : H.length - 1 < H.length := by omega
  have hB2 : ∀ fr, isBox (fr :: H) nm := fun fr => isBox_up hB
  have h := burning_loop hk cs ts hn (upR (wordAt H nm) 4).1 hB
  have h0 := fun Q => h Q cs.length 0 (upR (wordAt H nm) 4).2 [] [] (by omega) rfl rfl
  simp [apS_nil, apF_nil, bufr] at h0
  simp [up_ok hk, hB2, hl, hne, wordAt_up]
  refine h0 _ ?_
  unfold burningR
  generalize pairsR (upR (wordAt H nm) 4).1 (upR (wordAt H nm) 4).2 cs = z at *
  have hcc : ∀ (F : Fr) (h1 : z.1.map irow ≠ [] → F.get 54 = some (.arr 1 (z.1.map irow) 0 false)) (h2 : z.2.1.map irow ≠ [] → F.get 59 = some (.arr 1 (z.2.1.map irow) 0 false)) (w : Int),
      canon (clean (F :: H.set nm (wbox w)) (H.length - 1) (.agg [apS (H.length, 54) 1 (z.1.map irow), apS (H.length, 59) 1 (z.2.1.map irow)])) = .pure (.agg [.slice (z.1.map irow), .slice (z.2.1.map irow)]) :=
    fun F h1 h2 w => cc_agg2 (by simp) hlt h1 h2
  simp [gleave_free, hk, kept, -clean_agg]
  refine hcc _ (fun h => ?_) (fun h => ?_) _
  · simp
    exact apF_self h
  · exact apF_self h

/-! ### Holds -/
include hk in
theorem holds_ok {a b n : Int} (hH : 0 < H.length) : gcall (KC keep) (geval (KC keep)) 39 [.pure (.agg [.int .i64 a, .int .i64 b]), .pure (.int .i64 n)] c H = some (.pure (.bool (inB n a b)), H) := by
  refine WPv_eq (call_enter (KC keep) needT Try.func39 rfl rfl good39 rfl (by simp) hH ?_)
  by_cases h : a ≤ n
  · simp [h, inB, gleave_free, hk, kept]
  · simp [h, inB, gleave_free, hk, kept]

/-! ### hot -/
noncomputable def hot1 : Int → Int → Int → Int → Int := hid fun m t b h => if t ≤ m ∧ m < t + b then h else 0
theorem hot1_def (m t b h : Int) : hot1 m t b h = if t ≤ m ∧ m < t + b then h else 0 := by rw [hot1, hid_eq]
noncomputable def hotF (m : Int) : Int → List Int → List Int → List Int → Int
  | a, t :: ts, b :: bs, h :: hs => hotF m (a + hot1 m t b h) ts bs hs
  | a, _, _, _ => a
theorem hotF_drop (m a : Int) (ts bs hs : List Int) (i : Nat) (h1 : i < ts.length) (h2 : i < bs.length) (h3 : i < hs.length) : hotF m a (ts.drop i) (bs.drop i) (hs.drop i) = hotF m (a + hot1 m ts[i] bs[i] hs[i]) (ts.drop (i + 1)) (bs.drop (i + 1)) (hs.drop (i + 1)) := by
  rw [List.drop_eq_getElem_cons h1, List.drop_eq_getElem_cons h2, List.drop_eq_getElem_cons h3]; rfl
theorem hot_loop (ca bu at_ he : List Int) (m : Int) {n : Nat} (hn : n ≤ 1000) (l1 : bu.length = n) (l2 : at_.length = n) (l3 : he.length = n) (hb : ∀ x ∈ bu, 0 ≤ x ∧ x ≤ 1000) (ha : ∀ x ∈ at_, 0 ≤ x ∧ x ≤ 1000000) (hh : ∀ x ∈ he, 0 ≤ x ∧ x ≤ 1000) (Q : GX → GSt → Prop) (hH : 0 < H.length) : ∀ (k i : Nat) (a : Int), i + k = n → 0 ≤ a → a ≤ 1000 * i →
    (∀ r : Int, r = hotF m a (at_.drop i) (bu.drop i) (he.drop i) → Q (.exit 0) ⟨[(9, .pure (.int .i64 r))], [(4, .box [.pure (.slice (ca.map irow)), .pure (.slice (bu.map irow))])] :: H, 44⟩) →
    WPL (KC keep) needT 40 (lp Try.f40 0) [1, 2, 3, 4, 9, 10] [9] Q [(1, .pure (.slice (at_.map irow))), (2, .pure (.slice (he.map irow))), (3, .pure (.int .i64 m)), (4, .bptr (H.length, 4) 0), (9, .pure (.int .i64 a)), (10, .pure (.int .i64 i))]
      ([(4, .box [.pure (.slice (ca.map irow)), .pure (.slice (bu.map irow))])] :: H) 44 := by
  intro k
  induction k with
  | zero =>
    intro i a hi h0 h1 hq
    have e : at_.drop i = [] := List.drop_of_length_le (by omega)
    rw [e] at hq
    have hq' := hq a (by simp [hotF])
    have : ¬ i < at_.length := by omega
    apply WPL_step
    conv => arg 4; whnf
    simp [this, hH]
    exact hq'
  | succ k ih =>
    intro i a hi h0 h1 hq
    have i1 : i < at_.length := by omega
    have i2 : i < bu.length := by omega
    have i3 : i < he.length := by omega
    have v1 := ha at_[i] (List.getElem_mem i1)
    have v2 := hb bu[i] (List.getElem_mem i2)
    have v3 := hh he[i] (List.getElem_mem i3)
    have hw := w64 (x := (i : Int) + 1) (by omega) (by omega)
    have hw1 := w64 (x := at_[i] + bu[i]) (by omega) (by omega)
    have hw2 := w64 (x := a + he[i]) (by omega) (by omega)
    rw [hotF_drop m a at_ bu he i i1 i2 i3] at hq
    have hb1 : 0 ≤ hot1 m at_[i] bu[i] he[i] ∧ hot1 m at_[i] bu[i] he[i] ≤ 1000 := by rw [hot1_def]; split <;> omega
    have ih' := ih (i + 1) _ (by omega) (by omega) (by omega) hq
    rw [hot1_def] at ih'
    clear ih hq
    apply WPL_step
    conv => arg 4; whnf
    by_cases p1 : at_[i] ≤ m
    · by_cases p2 : m < at_[i] + bu[i]
      · simp [i1, i2, i3, irow, hw, hw1, hw2, p1, p2, hH]
        simp [p1, p2, irow] at ih'
        exact ih'
      · simp [i1, i2, i3, irow, hw, hw1, hw2, p1, p2, hH]
        simp [p1, p2, irow] at ih'
        exact ih'
    · simp [i1, i2, i3, irow, hw, hw1, hw2, p1, hH]
      simp [p1, irow] at ih'
      exact ih'
include hk in
theorem hot_ok (ca bu at_ he : List Int) (m : Int) {n : Nat} (hn : n ≤ 1000) (l1 : bu.length = n) (l2 : at_.length = n) (l3 : he.length = n) (hb : ∀ x ∈ bu, 0 ≤ x ∧ x ≤ 1000) (ha : ∀ x ∈ at_, 0 ≤ x ∧ x ≤ 1000000) (hh : ∀ x ∈ he, 0 ≤ x ∧ x ≤ 1000) (hH : 0 < H.length) :
    gcall (KC keep) (geval (KC keep)) 40 [.pure (.agg [.slice (ca.map irow), .slice (bu.map irow)]), .pure (.slice (at_.map irow)), .pure (.slice (he.map irow)), .pure (.int .i64 m)] c H = some (.pure (.int .i64 (hotF m 0 at_ bu he)), H) := by
  refine WPv_eq (call_enter (KC keep) needT Try.func40 rfl rfl good40 rfl (by simp) hH ?_)
  have h0 := fun Q hq => hot_loop (keep := keep) ca bu at_ he m hn l1 l2 l3 hb ha hh Q hH n 0 0 (by omega) (by omega) (by omega) hq
  simp at h0
  simp
  refine h0 _ ?_
  simp [gleave_free, hk, kept]
end Go.Gh


/- Plain: however a fire truly burns. -/
namespace Go.Gh
set_option linter.unusedSimpArgs false
set_option linter.unusedVariables false

/-- Sooner caught and burning longer: no later. -/
theorem Sol.mono {n : Nat} {ca bu ca' bu' : List Int} {ts : List Touch} {l0 t t' : List Int} (hca : ∀ i, i < n → 1 ≤ ca.getD i 0) (hc : ∀ i, i < n → ca'.getD i 0 ≤ ca.getD i 0) (hb : ∀ i, i < n → bu.getD i 0 ≤ bu'.getD i 0)
    (h : Sol n ca bu ts l0 t) (h' : Sol n ca' bu' ts l0 t') : ∀ (k i : Nat), (t.getD i 0).toNat ≤ k → i < n → t.getD i 0 ≠ 1000000 → t'.getD i 0 ≠ 1000000 ∧ t'.getD i 0 ≤ t.getD i 0 := by
  intro k
  induction k with
  | zero =>
    intro i hk hi hu
    have h0 := h.non i hi
    by_cases hl : l0.getD i 0 = 0
    · have := h'.lit i hi hl; omega
    · obtain ⟨a, ha, he, hau, e⟩ := h.sup i hi hl hu
      have := h.non a ha
      have := hca i hi
      omega
  | succ k ih =>
    intro i hk hi hu
    have h0 := h.non i hi
    by_cases hl : l0.getD i 0 = 0
    · have := h'.lit i hi hl; omega
    · obtain ⟨a, ha, he, hau, e⟩ := h.sup i hi hl hu
      have h1 := h.non a ha
      have h2 := hca i hi
      obtain ⟨q1, q2⟩ := ih a (by omega) ha hau
      have he' : Edge ca' bu' ts a i := ⟨he.1, by have := he.2; have := hc i hi; have := hb a ha; omega⟩
      obtain ⟨q3, q4⟩ := h'.rel a i ha hi he' q1
      have := hc i hi
      exact ⟨q3, by omega⟩
theorem Sol.mono' {n : Nat} {ca bu ca' bu' : List Int} {ts : List Touch} {l0 t t' : List Int} (hca : ∀ i, i < n → 1 ≤ ca.getD i 0) (hc : ∀ i, i < n → ca'.getD i 0 ≤ ca.getD i 0) (hb : ∀ i, i < n → bu.getD i 0 ≤ bu'.getD i 0)
    (h : Sol n ca bu ts l0 t) (h' : Sol n ca' bu' ts l0 t') (hm : ∀ i, i < n → t.getD i 0 ≤ 1000000 ∧ t'.getD i 0 ≤ 1000000) {i : Nat} (hi : i < n) : t'.getD i 0 ≤ t.getD i 0 := by
  have := hm i hi
  by_cases hu : t.getD i 0 = 1000000
  · omega
  · exact (Sol.mono hca hc hb h h' _ i (Nat.le_refl _) hi hu).2

/-- What is drawn of a fire's coals. -/
structure Drawn (cs : List Coal) (ca bu : List Int) : Prop where
  l1 : ca.length = cs.length
  l2 : bu.length = cs.length
  c : ∀ i, (h : i < cs.length) → cs[i].katch.lo ≤ ca.getD i 0 ∧ ca.getD i 0 ≤ cs[i].katch.hi
  b : ∀ i, (h : i < cs.length) → cs[i].burn.lo ≤ bu.getD i 0 ∧ bu.getD i 0 ≤ cs[i].burn.hi
theorem pairR_in (how w : Int) {x : Coal} (h : CMade x) : x.katch.lo ≤ (pairR how w x).1.1 ∧ (pairR how w x).1.1 ≤ x.katch.hi ∧ x.burn.lo ≤ (pairR how w x).1.2 ∧ (pairR how w x).1.2 ≤ x.burn.hi := by
  obtain ⟨h1, h2, h3⟩ := h
  rw [pairR_def]
  simp only
  have a1 := inR_rng w x.katch (by omega) (by omega) (by omega)
  have a2 := inR_rng (inR w x.katch).2 x.burn (by omega) (by omega) (by omega)
  split
  · simp only; omega
  · split
    · simp only; omega
    · simp only; omega
theorem pairsR_drawn (how : Int) : ∀ (cs : List Coal) (w : Int), (∀ x ∈ cs, CMade x) → Drawn cs (pairsR how w cs).1 (pairsR how w cs).2.1
  | [], w, h => ⟨rfl, rfl, fun i hi => by simp at hi, fun i hi => by simp at hi⟩
  | x :: r, w, h => by
    have ih := pairsR_drawn how r (pairR how w x).2 (fun y hy => h y (List.mem_cons_of_mem _ hy))
    have hx := pairR_in how w (h x (List.mem_cons_self ..))
    simp only [pairsR]
    refine ⟨by simp [ih.l1], by simp [ih.l2], fun i hi => ?_, fun i hi => ?_⟩
    · cases i with
      | zero => simp; omega
      | succ i => simpa using ih.c i (by simpa using hi)
    · cases i with
      | zero => simp; omega
      | succ i => simpa using ih.b i (by simpa using hi)
theorem burningR_drawn (w : Int) {cs : List Coal} (h : ∀ x ∈ cs, CMade x) : Drawn cs (burningR w cs).1 (burningR w cs).2.1 := pairsR_drawn _ cs _ h
theorem heatsR_in : ∀ (cs : List Coal) (w : Int), (∀ x ∈ cs, CMade x) → (heatsR w cs).1.length = cs.length ∧ ∀ i, (h : i < cs.length) → cs[i].heat.lo ≤ (heatsR w cs).1.getD i 0 ∧ (heatsR w cs).1.getD i 0 ≤ cs[i].heat.hi
  | [], w, h => ⟨rfl, fun i hi => by simp at hi⟩
  | x :: r, w, h => by
    obtain ⟨i1, i2⟩ := heatsR_in r (inR w x.heat).2 (fun y hy => h y (List.mem_cons_of_mem _ hy))
    have hm := h x (List.mem_cons_self ..)
    have hx := inR_rng w x.heat (by have := hm.h; omega) (by have := hm.h; omega) (by have := hm.h; omega)
    simp only [heatsR]
    refine ⟨by simp [i1], fun i hi => ?_⟩
    cases i with
    | zero => simp; omega
    | succ i => simpa using i2 i (by simpa using hi)

section
variable {cs : List Coal} {ts : List Touch} {ca bu : List Int} (hn : cs.length ≤ 12) (hm : ∀ x ∈ cs, CMade x) (hf : FireOk cs ts) (hd : Drawn cs ca bu)
include hn hm hf hd
theorem drawn_sol : Sol cs.length ca bu ts (lits cs) (trulyL ca bu ts cs) :=
  truly_sol cs hn (fun i hi => by have := hd.c i hi; have := (hm cs[i] (List.getElem_mem hi)).k; omega) hf.touch
/-- Each coal begins within what is known. -/
theorem fire_holds : (beginsL cs ts).length = cs.length ∧ ∀ i (h : i < (beginsL cs ts).length), (beginsL cs ts)[i].lo ≤ (trulyL ca bu ts cs).getD i 0 ∧ (trulyL ca bu ts cs).getD i 0 ≤ (beginsL cs ts)[i].hi := by
  have hs1 : ∀ i, i < cs.length → 1 ≤ (soonC cs).getD i 0 ∧ (soonC cs).getD i 0 ≤ 300 := fun i hi => by
    have := hf.coal cs[i] (List.getElem_mem hi)
    rw [soonC, getD_map_of hi]; omega
  have hs2 : ∀ i, i < cs.length → 1 ≤ (lateC cs).getD i 0 ∧ (lateC cs).getD i 0 ≤ 300 := fun i hi => by
    have := hf.coal cs[i] (List.getElem_mem hi)
    rw [lateC, getD_map_of hi]; omega
  have t1 := times_sol (bu := soonB cs) cs (by omega) hs1 hf.touch
  have t2 := times_sol (bu := lateB cs) cs (by omega) hs2 hf.touch
  have t0 := drawn_sol hn hm hf hd
  have b := beginsL_bok hf
  have g0 := truly_g2 (ca := ca) (bu := bu) (ts := ts) cs
  have l1 := t1.len
  have l2 := t2.len
  rw [beginsL_def] at b ⊢
  have bv : ∀ i, i < cs.length → (times (soonC cs) (soonB cs) ts cs).getD i 0 ≤ 1000000 ∧ (times (lateC cs) (lateB cs) ts cs).getD i 0 ≤ 1000000 := fun i hi => by
    have := b.val _ (List.getElem_mem (l := List.zipWith mkSpan (times (soonC cs) (soonB cs) ts cs) (times (lateC cs) (lateB cs) ts cs)) (n := i) (by simp [l1, l2]; omega))
    simp [mkSpan] at this
    rw [getD_eq (by omega), getD_eq (by omega)]
    omega
  refine ⟨b.len, fun i hi => ?_⟩
  have hi' : i < cs.length := by rw [← b.len]; exact hi
  have e : (List.zipWith mkSpan (times (soonC cs) (soonB cs) ts cs) (times (lateC cs) (lateB cs) ts cs))[i] = ⟨(times (soonC cs) (soonB cs) ts cs).getD i 0, (times (lateC cs) (lateB cs) ts cs).getD i 0⟩ := by
    rw [getD_eq (by omega), getD_eq (by omega)]; simp [mkSpan]
  rw [e]
  constructor
  · refine Sol.mono' (ca := ca) (bu := bu) (ca' := soonC cs) (bu' := soonB cs) (n := cs.length) (fun i hi => ?_) (fun i hi => ?_) (fun i hi => ?_) t0 t1 (fun i hi => ?_) hi'
    · have := hd.c i hi; have := (hm cs[i] (List.getElem_mem hi)).k; omega
    · rw [soonC, getD_map_of hi]; exact (hd.c i hi).1
    · rw [soonB, getD_map_of hi]; exact (hd.b i hi).2
    · have := g0.val i hi; have := bv i hi; omega
  · refine Sol.mono' (ca := lateC cs) (bu := lateB cs) (ca' := ca) (bu' := bu) (n := cs.length) (fun i hi => (hs2 i hi).1) (fun i hi => ?_) (fun i hi => ?_) t2 t0 (fun i hi => ?_) hi'
    · rw [lateC, getD_map_of hi]; exact (hd.c i hi).2
    · rw [lateB, getD_map_of hi]; exact (hd.b i hi).1
    · have := g0.val i hi; have := bv i hi; omega
end

theorem hot_sums (m : Int) : ∀ (cs : List Coal) (bs : List Span) (at_ bu he : List Int) (a : Int) (s : Span), bs.length = cs.length → at_.length = cs.length → bu.length = cs.length → he.length = cs.length →
    (∀ i (h : i < cs.length) (hb : i < bs.length), bs[i].lo ≤ at_.getD i 0 ∧ at_.getD i 0 ≤ bs[i].hi ∧ cs[i].burn.lo ≤ bu.getD i 0 ∧ bu.getD i 0 ≤ cs[i].burn.hi ∧ cs[i].heat.lo ≤ he.getD i 0 ∧ he.getD i 0 ≤ cs[i].heat.hi ∧ 0 ≤ cs[i].heat.lo ∧ bs[i].hi ≤ 1000000) →
    s.lo ≤ a → a ≤ s.hi → (sumsF s (List.zipWith (hp m) bs cs)).lo ≤ hotF m a at_ bu he ∧ hotF m a at_ bu he ≤ (sumsF s (List.zipWith (hp m) bs cs)).hi
  | [], [], [], [], [], a, s, _, _, _, _, _, h1, h2 => ⟨h1, h2⟩
  | c :: cs, b :: bs, t :: at_, u :: bu, h :: he, a, s, e1, e2, e3, e4, hh, h1, h2 => by
    have h0 := hh 0 (by simp) (by simp)
    simp at h0
    simp only [List.zipWith_cons_cons, sumsF, hotF]
    refine hot_sums m cs bs at_ bu he _ _ (by simpa using e1) (by simpa using e2) (by simpa using e3) (by simpa using e4) (fun i hi hb => ?_) ?_ ?_
    · have := hh (i + 1) (by simpa using hi) (by simpa using hb)
      simpa using this
    · simp only [hp, hlo_def, hot1_def]
      split <;> split <;> omega
    · simp only [hp, hhi_def, hot1_def]
      split <;> split <;> omega
end Go.Gh

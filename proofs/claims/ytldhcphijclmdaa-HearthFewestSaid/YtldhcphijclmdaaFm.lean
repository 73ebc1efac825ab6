/- Is there warmth enough: enough of the program, Enough of the reference. -/
import Derived.Test.YtldhcphijclmdaaFl
namespace Go.Gh
open Go.Proofs
set_option linter.unusedSimpArgs false
set_option linter.unusedVariables false
set_option maxRecDepth 100000
set_option maxHeartbeats 4000000

variable {keep : Nat → Bool} (hk : ∀ f, kept f = false → keep f = false) {c : Nat} {H : Heap}

/-- Do all from minute fro on sing truly? -/
noncomputable def enoughL (k : Kettle) (fro : Nat) : Nat → List Span → Bool
  | _, [] => true
  | m, s :: r => if fro ≤ m ∧ singsF k.sing k.boil s.lo s.hi ≠ 1 then false else enoughL k fro (m + 1) r

noncomputable def lb87 (S : Slots) (st : LoopState) (p : Option GX) : GLoop := { slots := S, nt := 33, params := [17, 18], assign := rgA Try.f87, body := rgB Try.f87, fn := 87, state := st, pending := p }
def fr87 (k : Kettle) (cs : List Coal) (ts : List Touch) (fro tt : Int) (cell : Bool) (l : List Pour) (b : GLoop) : Fr :=
  [(5, .box (k.row.map .pure)), (6, .box [.pure (.slice (cs.map Coal.row)), .pure (.slice (ts.map Touch.row))]), (8, .box [.pure (.int .i64 fro)]), (9, .box [.pure (.int .i64 tt)]), (10, .box [.pure (.bool cell)]),
    (69635, .box (k.row.map .pure)), (69636, .box [.pure (.slice (cs.map Coal.row)), .pure (.slice (ts.map Touch.row))]), (69637, .box [.pure (.slice (l.map Pour.row))]), (10000005, .loop b)]
noncomputable def next87 (k : Kettle) (fro last : Nat) (m : Nat) (s : Span) (_ : Option Bool) : Option Bool := if fro ≤ m ∧ singsF k.sing k.boil s.lo s.hi ≠ 1 then some false else if m = last then some true else none
noncomputable def cont87 (k : Kettle) (fro last : Nat) (m : Nat) (s : Span) (a : Option Bool) : Bool := (next87 k fro last m s a).isNone
noncomputable def C87 (k : Kettle) (cs : List Coal) (ts : List Touch) (fro last : Nat) (S : Slots) (H : Heap) (a : Option Bool) (l : List Pour) : Heap :=
  fr87 k cs ts fro last (a.getD false) l (lb87 S (if a.isSome = true then .done else .ready) (if a.isSome = true then some .ret else none)) :: H
include hk in
theorem ground87 (k : Kettle) (cs : List Coal) (ts : List Touch) (fro last m : Nat) (s : Span) (l : List Pour) (F : Fr) (S : Slots) (h5 : look S 5 = .bptr (H.length, 5) 0) (h8 : look S 8 = .bptr (H.length, 8) 0) (h9 : look S 9 = .bptr (H.length, 9) 0) (h10 : look S 10 = .bptr (H.length, 10) 0) :
    ground (geval (KC keep)) (H.length, 10000005) [.pure (.int .i64 m), .pure (.agg s.row)] ([] :: F :: C87 k cs ts fro last S H none l) =
      some (.pure (.bool (cont87 k fro last m s none)), [] :: F :: C87 k cs ts fro last S H (next87 k fro last m s none) l) := by
  have T := fun (H : Heap) (c : Nat) hH => sings_ok (keep := keep) (H := H) (c := c) (w := k.water) (wl := k.warm.lo) (wh := k.warm.hi) (ro := k.room) (ga := k.gain) (lo := k.lose) (si := k.sing) (bo := k.boil) (a := s.lo) (b := s.hi) hk hH
  refine WPv_eq (ground_wp (KC keep) needT (l := lb87 S .ready none) (s := (18, .pure (.agg s.row)) :: (17, .pure (.int .i64 m)) :: S) ?_ rfl ?_ ?_ ?_ ?_)
  · simp [C87, fr87]
  · simp [lb87, putParams]
  · kernel_rfl
  · kernel_rfl
  · show wp (KC keep) needT 87 (rgA Try.f87) _ _
    unfold cont87 next87
    conv => arg 4; whnf
    simp [roundMid, lb87, Span.row, C87, fr87, Kettle.row]
    conv => arg 4; whnf
    by_cases hf : fro ≤ m
    · have hf' : (fro : Int) ≤ m := by omega
      by_cases hv : singsF k.sing k.boil s.lo s.hi = 1
      · by_cases hm : m = last
        · subst hm
          simp [h5, h8, h9, h10, roundEnd, hf, hf', T, hv]
        · have hm' : ((m : Int) == (last : Int)) = false := by simp; omega
          simp [h5, h8, h9, h10, roundEnd, hf, hf', T, hv, hm, hm']
      · simp [h5, h8, h9, h10, roundEnd, hf, hf', T, hv]
    · have hf' : ¬ (fro : Int) ≤ m := by omega
      by_cases hm : m = last
      · subst hm
        simp [h5, h8, h9, h10, roundEnd, hf, hf']
      · have hm' : ((m : Int) == (last : Int)) = false := by simp; omega
        simp [h5, h8, h9, h10, roundEnd, hf, hf', hm, hm']

include hk in
theorem cons87 (k : Kettle) (cs : List Coal) (ts : List Touch) (fro : Nat) {last : Nat} (hlast : last ≤ 300) {S : Slots} (h5 : look S 5 = .bptr (H.length, 5) 0) (h8 : look S 8 = .bptr (H.length, 8) 0) (h9 : look S 9 = .bptr (H.length, 9) 0) (h10 : look S 10 = .bptr (H.length, 10) 0) :
    Cons keep (H.length, 10000005) (H.length, 69635) (H.length, 69636) (H.length, 69637) k cs ts (H.length + 1) (Option Bool) (C87 k cs ts fro last S H) (cont87 k fro last) (next87 k fro last) (fun m a => a = none ∧ m ≤ last) where
  pos := by omega
  lp := by simp
  l1 := by simp
  l2 := by simp
  l3 := by simp
  len := fun a l => by simp [C87]
  g1 := fun a l => by simp [C87, fr87]
  g2 := fun a l => by simp [C87, fr87]
  g3 := fun a l => by simp [C87, fr87]
  s3 := fun a l l' => by simp [C87, fr87]
  gr := fun m s a l F ho => by
    obtain ⟨rfl, h2⟩ := ho
    exact ground87 hk k cs ts fro last m s l F S h5 h8 h9 h10
  okn := fun m s a ho hc => by
    obtain ⟨rfl, h2⟩ := ho
    have hn : next87 k fro last m s none = none := by
      unfold cont87 at hc
      simpa using hc
    refine ⟨hn, ?_⟩
    unfold next87 at hn
    split at hn
    · cases hn
    · split at hn
      · cases hn
      · omega
theorem feed87 (k : Kettle) (hs : Int → Span) (fro last : Nat) : ∀ (n m : Nat) (w : Water) (l : List Pour), m + n = last + 1 → 0 < n → ∃ l', feed k hs (cont87 k fro last) (next87 k fro last) n m (stepW k hs m w) l none = some (some (enoughL k fro m (runL k hs n m w l)), l')
  | 0, m, w, l, h, h0 => by omega
  | n + 1, m, w, l, h, _ => by
    simp only [feed, runL, enoughL]
    by_cases hb : fro ≤ m ∧ singsF k.sing k.boil (poursAt m (stepW k hs m w) l).1.span.lo (poursAt m (stepW k hs m w) l).1.span.hi ≠ 1
    · have e1 : next87 k fro last m (poursAt m (stepW k hs m w) l).1.span none = some false := by unfold next87; rw [if_pos hb]
      rw [if_pos hb]
      unfold cont87
      rw [e1]
      exact ⟨_, rfl⟩
    · rw [if_neg hb]
      by_cases hm : m = last
      · have hn : n = 0 := by omega
        subst hm hn
        have e1 : next87 k fro m m (poursAt m (stepW k hs m w) l).1.span none = some true := by unfold next87; rw [if_neg hb, if_pos rfl]
        unfold cont87
        rw [e1]
        exact ⟨_, rfl⟩
      · have e1 : next87 k fro last m (poursAt m (stepW k hs m w) l).1.span none = none := by unfold next87; rw [if_neg hb, if_neg hm]
        obtain ⟨l', hl⟩ := feed87 k hs fro last n (m + 1) (poursAt m (stepW k hs m w) l).1 (poursAt m (stepW k hs m w) l).2 (by omega) (by omega)
        refine ⟨l', ?_⟩
        have e : stepW k hs (m + 1) (poursAt m (stepW k hs m w) l).1 = heatedW k (poursAt m (stepW k hs m w) l).1 (hs m) := by
          unfold stepW
          have : ((m + 1 : Nat) : Int) - 1 = m := by omega
          simp [this]
        rw [e] at hl
        have c1 : cont87 k fro last m (poursAt m (stepW k hs m w) l).1.span none = true := by unfold cont87; rw [e1]; rfl
        rw [if_pos c1, e1]
        exact hl
include hk in
theorem enough_range (h90 : keep 90 = true) {k : Kettle} (hko : KOk k) {cs : List Coal} {ts : List Touch} (hf : FireOk cs ts) {l : List Pour} (hp : PsOk k.water l) (fro : Nat) {last : Nat} (hlast : last ≤ 300) (st : GSt) (Q : GX → GSt → Prop)
    (hh : st.h = [(5, .box (k.row.map .pure)), (6, .box [.pure (.slice (cs.map Coal.row)), .pure (.slice (ts.map Touch.row))]), (8, .box [.pure (.int .i64 fro)]), (9, .box [.pure (.int .i64 last)]), (10, .box [.pure (.bool false)]), (69635, .box (k.row.map .pure)), (69636, .box [.pure (.slice (cs.map Coal.row)), .pure (.slice (ts.map Touch.row))]), (69637, .box [.pure (.slice (l.map Pour.row))])] :: H)
    (hnt : st.nt = 33) (h5 : look st.s 5 = .bptr (H.length, 5) 0) (h8 : look st.s 8 = .bptr (H.length, 8) 0) (h9 : look st.s 9 = .bptr (H.length, 9) 0) (h10 : look st.s 10 = .bptr (H.length, 10) 0) (h16 : look st.s 16 = .func 93 [] [.bptr (H.length, 69635) 0, .bptr (H.length, 69636) 0, .bptr (H.length, 69637) 0])
    (hq : ∀ l' b, Q .ret { st with h := fr87 k cs ts fro last (enoughL k fro 0 (runL k (fun m => heatL cs (beginsL cs ts) m) (last + 1) 0 ⟨k.water, k.warm.lo, k.warm.hi⟩ l)) l' b :: H }) :
    WP (KC keep) needT 87 (.rangeFunc (.tmp 16) #[17, 18] (rgA Try.f87) (rgB Try.f87)) st Q := by
  obtain ⟨l', hfd⟩ := feed87 k (fun m => heatL cs (beginsL cs ts) m) fro last (last + 1) 0 ⟨k.water, k.warm.lo, k.warm.hi⟩ l (by omega) (by omega)
  have e0 : stepW k (fun m => heatL cs (beginsL cs ts) m) 0 ⟨k.water, k.warm.lo, k.warm.hi⟩ = ⟨k.water, k.warm.lo, k.warm.hi⟩ := rfl
  rw [e0] at hfd
  have hC := cons87 (keep := keep) (H := H) hk k cs ts fro hlast h5 h8 h9 h10
  have h93 := fun c => mins1_ok (c := c) hk hC hko hf h90 (by omega) hp ⟨rfl, by omega⟩ hfd
  have hfr : firstRegion (rgB Try.f87) = 5 := by kernel_rfl
  generalize enoughL k fro 0 (runL k (fun m => heatL cs (beginsL cs ts) m) (last + 1) 0 ⟨k.water, k.warm.lo, k.warm.hi⟩ l) = res at *
  refine WP_range (KC keep) needT (nm := (H.length, 10000005)) (H1 := C87 k cs ts fro last st.s H none l) (H2 := C87 k cs ts fro last st.s H (some res) l') (v := .pure (.tuple [])) ?_ ?_ ?_
  · rw [hh, hfr, hnt]
    simp [gnew, gnewAt, C87, fr87, lb87]
  · simp only [ev, h16]
    exact h93 0
  · have := hq l' (lb87 st.s .exhausted (some .ret))
    simp [rangeEnd, C87, lb87, fr87] at this ⊢
    exact this
include hk in
theorem enough_ok (h79 : keep 79 = true) (h90 : keep 90 = true) {k : Kettle} (hko : KOk k) {cs : List Coal} {ts : List Touch} (hf : FireOk cs ts) {l : List Pour} (hp : PsOk k.water l) (fro : Nat) {last : Nat} (hlast : last ≤ 300) (hH : 0 < H.length) :
    gcall (KC keep) (geval (KC keep)) 87 [.pure (.agg k.row), .pure (.agg [.slice (cs.map Coal.row), .slice (ts.map Touch.row)]), .pure (.slice (l.map Pour.row)), .pure (.int .i64 fro), .pure (.int .i64 last)] c H =
      some (.pure (.bool (enoughL k fro 0 (runL k (fun m => heatL cs (beginsL cs ts) m) (last + 1) 0 ⟨k.water, k.warm.lo, k.warm.hi⟩ l))), H) := by
  refine WPv_eq (call_enter (KC keep) needT Try.func87 rfl rfl good87 rfl (by simp) hH ?_)
  have nk3 : newKey 16 3 = 69635 := rfl
  have nk4 : newKey 16 4 = 69636 := rfl
  have nk5 : newKey 16 5 = 69637 := rfl
  have M := minutes_ok (keep := keep) (c := 16) (H := [(5, .box (k.row.map .pure)), (6, .box [.pure (.slice (cs.map Coal.row)), .pure (.slice (ts.map Touch.row))]), (8, .box [.pure (.int .i64 fro)]), (9, .box [.pure (.int .i64 last)]), (10, .box [.pure (.bool false)])] :: H) h79 k cs ts l (by simp) (by simp [nk3]) (by simp [nk4]) (by simp [nk5])
  simp [nk3, nk4, nk5, Kettle.row] at M
  simp [Kettle.row, M]
  refine enough_range hk h90 hko hf hp fro hlast _ _ ?_ rfl rfl rfl rfl rfl rfl (fun l' b => ?_)
  · simp [Kettle.row]
  · generalize enoughL k fro 0 (runL k (fun m => heatL cs (beginsL cs ts) m) (last + 1) 0 ⟨k.water, k.warm.lo, k.warm.hi⟩ l) = res at *
    simp [fr87, gleave_free, hk, kept]
end Go.Gh


/- Enough of the reference; Has, less. -/
namespace Go.Gh
open Go.Proofs
set_option linter.unusedSimpArgs false
set_option linter.unusedVariables false
set_option maxRecDepth 100000
set_option maxHeartbeats 4000000

variable {keep : Nat → Bool} (hk : ∀ f, kept f = false → keep f = false) {c : Nat} {H : Heap}

theorem enoughL_skip (k : Kettle) (fro : Nat) : ∀ (d m : Nat) (R : List Span), m + d = fro → enoughL k fro m R = enoughL k fro fro (R.drop d)
  | 0, m, R, h => by
    obtain rfl : m = fro := by omega
    rfl
  | d + 1, m, [], h => by simp [enoughL]
  | d + 1, m, s :: R, h => by
    have : ¬ (fro ≤ m ∧ singsF k.sing k.boil s.lo s.hi ≠ 1) := by intro e; omega
    rw [enoughL, if_neg this, enoughL_skip k fro d (m + 1) R (by omega)]
    rfl
include hk in
theorem enoughR_loop (k : Kettle) (cs : List Coal) (ts : List Touch) (fro last : Nat) (R : List Span) (hR : R.length = last + 1) (hlast : last ≤ 300) (Q : GX → GSt → Prop) (hH : 0 < H.length) : ∀ (j i : Nat), i + j = last + 1 → fro ≤ i →
    (enoughL k fro i (R.drop i) = true → Q (.exit 0) ⟨[(10, gdead)], [(5, .box (k.row.map .pure)), (6, .box [.pure (.slice (cs.map Coal.row)), .pure (.slice (ts.map Touch.row))])] :: H, 31⟩) →
    (enoughL k fro i (R.drop i) = false → Q .ret ⟨[(10, .pure (.bool false))], [(5, .box (k.row.map .pure)), (6, .box [.pure (.slice (cs.map Coal.row)), .pure (.slice (ts.map Touch.row))])] :: H, 31⟩) →
    WPL (KC keep) needT 97 (lp Try.f97 0) [4, 5, 11, 12] [10] Q [(4, .pure (.int .i64 last)), (5, .bptr (H.length, 5) 0), (11, .pure (.slice (R.map Span.row))), (12, .pure (.int .i64 i))]
      ([(5, .box (k.row.map .pure)), (6, .box [.pure (.slice (cs.map Coal.row)), .pure (.slice (ts.map Touch.row))])] :: H) 31 := by
  have T := fun (H : Heap) (c : Nat) a b hH => singsR_ok (keep := keep) (H := H) (c := c) (w := k.water) (wl := k.warm.lo) (wh := k.warm.hi) (ro := k.room) (ga := k.gain) (lo := k.lose) (si := k.sing) (bo := k.boil) (a := a) (b := b) hk hH
  intro j
  induction j with
  | zero =>
    intro i hi hf h1 h2
    have e : i = last + 1 := by omega
    subst e
    rw [List.drop_of_length_le (by omega)] at h1
    have h1' := h1 rfl
    have : ¬ ((last : Int) + 1 ≤ last) := by omega
    apply WPL_step
    conv => arg 4; whnf
    simp [this, Kettle.row]
    simpa [Kettle.row] using h1'
  | succ j ih =>
    intro i hi hf h1 h2
    have hia : i < R.length := by omega
    have hil : (i : Int) ≤ last := by omega
    have hw := w64 (x := (i : Int) + 1) (by omega) (by omega)
    rw [List.drop_eq_getElem_cons hia, enoughL] at h1 h2
    by_cases hv : singsF k.sing k.boil R[i].lo R[i].hi = 1
    · have hn : ¬ (fro ≤ i ∧ singsF k.sing k.boil R[i].lo R[i].hi ≠ 1) := fun e => e.2 hv
      simp only [if_neg hn] at h1 h2
      have ih' := ih (i + 1) (by omega) (by omega) h1 h2
      apply WPL_step
      conv => arg 4; whnf
      simp [hil, hia, Span.row, Kettle.row, T, hv, hw]
      simpa [Kettle.row] using ih'
    · have hn : (fro ≤ i ∧ singsF k.sing k.boil R[i].lo R[i].hi ≠ 1) := ⟨hf, hv⟩
      simp only [if_pos hn] at h2
      have hv' : (singsF k.sing k.boil R[i].lo R[i].hi != 1) = true := by simpa using hv
      have h2' := h2 trivial
      apply WPL_step
      conv => arg 4; whnf
      simp [hil, hia, Span.row, Kettle.row, T, hv, hv']
      simpa [Kettle.row] using h2'
include hk in
theorem enoughR_ok {k : Kettle} (hko : KOk k) {cs : List Coal} {ts : List Touch} (hf : FireOk cs ts) {l : List Pour} (hll : l.length ≤ 1000) (hp : PsOk k.water l) (fro : Nat) {last : Nat} (hlast : last ≤ 300) (hfl : fro ≤ last) (hH : 0 < H.length) :
    gcall (KC keep) (geval (KC keep)) 97 [.pure (.agg k.row), .pure (.agg [.slice (cs.map Coal.row), .slice (ts.map Touch.row)]), .pure (.slice (l.map Pour.row)), .pure (.int .i64 fro), .pure (.int .i64 last)] c H =
      some (.pure (.bool (enoughL k fro 0 (runL k (fun m => heatL cs (beginsL cs ts) m) (last + 1) 0 ⟨k.water, k.warm.lo, k.warm.hi⟩ l))), H) := by
  refine WPv_eq (call_enter (KC keep) needT Try.func97 rfl rfl good97 rfl (by simp) hH ?_)
  have R := fun (H : Heap) (c : Nat) hH => runR_ok (keep := keep) (H := H) (c := c) hk hko hf l hll last hlast hp hH
  have hRl := runL_len k (fun m => heatL cs (beginsL cs ts) m) (last + 1) 0 ⟨k.water, k.warm.lo, k.warm.hi⟩ l
  generalize runL k (fun m => heatL cs (beginsL cs ts) m) (last + 1) 0 ⟨k.water, k.warm.lo, k.warm.hi⟩ l = rr at *
  rw [enoughL_skip k fro fro 0 rr (by omega)]
  have h0 := fun Q h1 h2 => enoughR_loop (keep := keep) (H := H) hk k cs ts fro last rr hRl hlast Q hH (last + 1 - fro) fro (by omega) (Nat.le_refl _) h1 h2
  simp [Kettle.row] at h0
  simp only [Kettle.row] at R
  simp [Kettle.row, R]
  refine h0 _ (fun e => ?_) (fun e => ?_)
  · rw [e]
    simp [gleave_free, hk, kept]
  · rw [e]
    simp [gleave_free, hk, kept]
end Go.Gh

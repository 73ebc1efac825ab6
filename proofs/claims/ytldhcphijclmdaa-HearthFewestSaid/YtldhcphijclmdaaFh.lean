/- Plain: nothing that changes; a coal more, warmer pours. -/
import Derived.Test.YtldhcphijclmdaaFg
namespace Go.Gh
set_option linter.unusedSimpArgs false
set_option linter.unusedVariables false

/-! ### calm -/
theorem heatV_room (k : Kettle) (L : Int) : heatV k k.room L 0 = k.room * (L * 1000000) := by unfold heatV; grind
theorem pourV_room (p : Pour) (L : Int) : pourV p p.warm L = p.warm * (L + p.ladles) := by unfold pourV; grind
theorem heatedW_calm {k : Kettle} (hk : KOk k) {w : Water} (hw : WOk w) (h1 : w.lo = k.room) (h2 : w.hi = k.room) : (heatedW k w ⟨0, 0⟩).lo = k.room ∧ (heatedW k w ⟨0, 0⟩).hi = k.room := by
  rw [heatedW_def, h1, h2]
  have hd : 0 < w.ladles * 1000000 := by have := hw.l; omega
  simp only [heatV_room, dn_mul hd, upn_mul hd]
  have := hk.room
  omega
theorem pouredW_calm {r : Int} {w : Water} (hw : WOk w) {p : Pour} (hp : p.warm = r) (hL : 1 ≤ w.ladles + p.ladles) (h1 : w.lo = r) (h2 : w.hi = r) : (pouredW w p).lo = r ∧ (pouredW w p).hi = r := by
  subst hp
  rw [pouredW_def, h1, h2]
  split
  · have hd : 0 < w.ladles + p.ladles := by omega
    simp only [pourV_room, dn_mul hd, upn_mul hd, and_self]
  · exact ⟨rfl, rfl⟩
theorem poursAt_calm {r : Int} (m : Int) : ∀ (l : List Pour) (w : Water), WOk w → PsOk w.ladles l → (∀ p ∈ l, p.warm = r) → w.lo = r → w.hi = r →
    (poursAt m w l).1.lo = r ∧ (poursAt m w l).1.hi = r ∧ ∀ p ∈ (poursAt m w l).2, p.warm = r
  | [], w, _, _, h, h1, h2 => ⟨h1, h2, h⟩
  | p :: s, w, hw, hp, h, h1, h2 => by
    obtain ⟨q1, q2, q3, q4⟩ := hp.cons
    simp only [poursAt]
    split
    · obtain ⟨a1, a2⟩ := pouredW_calm hw (h p (List.mem_cons_self ..)) q2 h1 h2
      exact poursAt_calm m s _ (pouredW_ok hw q1 ⟨q2, q3⟩) (by rw [pouredW_ladles]; exact q4) (fun y hy => h y (List.mem_cons_of_mem _ hy)) a1 a2
    · exact ⟨h1, h2, h⟩
theorem runL_calm {k : Kettle} (hk : KOk k) : ∀ (n m : Nat) (w : Water) (l : List Pour), WOk w → PsOk w.ladles l → (∀ p ∈ l, p.warm = k.room) → w.lo = k.room → w.hi = k.room → ∀ s ∈ runL k (fun _ => ⟨0, 0⟩) n m w l, s = ⟨k.room, k.room⟩
  | 0, m, w, l, _, _, _, _, _, s, h => by simp [runL] at h
  | n + 1, m, w, l, hw, hp, hl, h1, h2, s, h => by
    have hh : HsOk (fun _ => (⟨0, 0⟩ : Span)) := ⟨fun m => by simp, fun m => by simp⟩
    obtain ⟨s1, s2⟩ := stepW_ok m hk hh hw
    have q := poursAt_ok m l _ s1 (by rw [s2]; exact hp)
    have hs : (stepW k (fun _ => ⟨0, 0⟩) m w).lo = k.room ∧ (stepW k (fun _ => ⟨0, 0⟩) m w).hi = k.room := by
      unfold stepW
      split
      · exact ⟨h1, h2⟩
      · exact heatedW_calm hk hw h1 h2
    obtain ⟨a1, a2, a3⟩ := poursAt_calm m l _ s1 (by rw [s2]; exact hp) hl hs.1 hs.2
    simp only [runL] at h
    rcases List.mem_cons.1 h with rfl | h
    · simp [Water.span, a1, a2]
    · exact runL_calm hk n (m + 1) _ _ q.1 q.2 a3 a1 a2 s h
theorem heatV_lose {k : Kettle} (h0 : k.lose = 0) {t L h : Int} (hg : 0 ≤ k.gain) (hh : 0 ≤ h) : t * (L * 1000000) ≤ heatV k t L h := by
  have := Int.mul_nonneg hh hg
  unfold heatV
  rw [h0]
  have e : (t * L + h * k.gain) * 1000000 - (t - k.room) * 0 * L = t * (L * 1000000) + h * k.gain * 1000000 := by grind
  rw [e]
  omega
theorem heatedW_lose {k : Kettle} (hk : KOk k) (h0 : k.lose = 0) {w : Water} (hw : WOk w) {s : Span} (h1 : 0 ≤ s.lo) (h2 : 0 ≤ s.hi) : w.lo ≤ (heatedW k w s).lo ∧ w.hi ≤ (heatedW k w s).hi := by
  rw [heatedW_def]
  have hd : 0 < w.ladles * 1000000 := by have := hw.l; omega
  have a1 := dn_mono hd (heatV_lose h0 (t := w.lo) (L := w.ladles) hk.gain.1 h1)
  have a2 := upn_mono hd (heatV_lose h0 (t := w.hi) (L := w.ladles) hk.gain.1 h2)
  rw [dn_mul hd] at a1
  rw [upn_mul hd] at a2
  have := hw.lo; have := hw.hi
  simp only
  omega
theorem runL_lose {k : Kettle} (hk : KOk k) (h0 : k.lose = 0) {hs : Int → Span} (hh : HsOk hs) : ∀ (n m : Nat) (w : Water), WOk w → ∀ i (h1 : i + 1 < (runL k hs n m w []).length) (h2 : i < (runL k hs n m w []).length),
    (runL k hs n m w [])[i].lo ≤ (runL k hs n m w [])[i + 1].lo ∧ (runL k hs n m w [])[i].hi ≤ (runL k hs n m w [])[i + 1].hi
  | 0, m, w, _, i, h1, h2 => by simp [runL] at h2
  | 1, m, w, _, i, h1, h2 => by simp [runL] at h1
  | n + 2, m, w, hw, i, h1, h2 => by
    obtain ⟨s1, s2⟩ := stepW_ok m hk hh hw
    cases i with
    | zero =>
      have e : stepW k hs (m + 1) (stepW k hs m w) = heatedW k (stepW k hs m w) (hs m) := by
        have : ((m + 1 : Nat) : Int) - 1 = m := by omega
        show (if m + 1 = 0 then _ else heatedW k (stepW k hs m w) (hs (((m + 1 : Nat) : Int) - 1))) = _
        rw [if_neg (by omega), this]
      have a := heatedW_lose hk h0 s1 (s := hs m) (hh.lo m).1 (hh.hi m).1
      simp only [runL, poursAt, List.getElem_cons_zero, List.getElem_cons_succ, e]
      exact a
    | succ i =>
      have := runL_lose hk h0 hh (n + 1) (m + 1) (stepW k hs m w) s1 i (by simp [runL_len] at h1 ⊢; omega) (by simp [runL_len] at h2 ⊢; omega)
      simp only [runL, poursAt, List.getElem_cons_succ] at this ⊢
      exact this

/-! ### a coal more -/
theorem getD_app {t : List Int} {z : Int} {i : Nat} (h : i < t.length) : (t ++ [z]).getD i 0 = t.getD i 0 := by simp [List.getD_eq_getElem?_getD, List.getElem?_append_left h]
theorem getD_last {t : List Int} {z : Int} : (t ++ [z]).getD t.length 0 = z := by simp [List.getD_eq_getElem?_getD]
theorem lits_app : ∀ (cs : List Coal) (x : Coal), lits (cs ++ [x]) = lits cs ++ [if x.lit = true then 0 else 1000000]
  | [], x => rfl
  | c :: r, x => by simp [lits, lits_app r x]
theorem Sol.app {n : Nat} {ca bu : List Int} {ts : List Touch} {l0 t : List Int} (h1 : ca.length = n) (h2 : bu.length = n) (h3 : l0.length = n) (hts : ∀ x ∈ ts, 0 ≤ x.a ∧ x.a < n ∧ 0 ≤ x.b ∧ x.b < n) (h : Sol n ca bu ts l0 t) (c b z : Int) (hz : z = 0 ∨ z = 1000000) :
    Sol (n + 1) (ca ++ [c]) (bu ++ [b]) ts (l0 ++ [z]) (t ++ [z]) := by
  have hl := h.len
  have edge : ∀ i j, Edge (ca ++ [c]) (bu ++ [b]) ts i j → i < n ∧ j < n ∧ Edge ca bu ts i j := by
    intro i j he
    obtain ⟨⟨x, hx, ho⟩, hc⟩ := he
    have := hts x hx
    have hi : i < n := by omega
    have hj : j < n := by omega
    rw [getD_app (by omega), getD_app (by omega)] at hc
    exact ⟨hi, hj, ⟨x, hx, ho⟩, hc⟩
  have edge' : ∀ i j, i < n → j < n → Edge ca bu ts i j → Edge (ca ++ [c]) (bu ++ [b]) ts i j := by
    intro i j hi hj he
    exact ⟨he.1, by rw [getD_app (by omega), getD_app (by omega)]; exact he.2⟩
  have last : ∀ {u : List Int} {y : Int}, u.length = n → (u ++ [y]).getD n 0 = y := by intro u y e; subst e; exact getD_last
  refine ⟨by simp [hl], fun i hi h0 => ?_, fun i hi => ?_, fun i hi h0 hu => ?_, fun i j hi hj he hu => ?_⟩
  · by_cases e : i = n
    · subst e; rw [last h3] at h0; rw [last hl]; exact h0
    · rw [getD_app (by omega)] at h0 ⊢; exact h.lit i (by omega) h0
  · by_cases e : i = n
    · subst e; rw [last hl]; omega
    · rw [getD_app (by omega)]; exact h.non i (by omega)
  · by_cases e : i = n
    · subst e
      rw [last h3] at h0
      rw [last hl] at hu
      omega
    · rw [getD_app (by omega)] at h0 hu
      obtain ⟨a, ha, q1, q2, q3⟩ := h.sup i (by omega) h0 hu
      exact ⟨a, by omega, edge' a i ha (by omega) q1, by rw [getD_app (by omega)]; exact q2, by rw [getD_app (by omega), getD_app (by omega), getD_app (by omega)]; exact q3⟩
  · obtain ⟨hi', hj', he'⟩ := edge i j he
    rw [getD_app (by omega)] at hu
    have := h.rel i j hi' hj' he' hu
    rw [getD_app (by omega), getD_app (by omega), getD_app (by omega)]
    exact this
theorem times_app {ca bu : List Int} {ts : List Touch} {cs : List Coal} (x : Coal) {c b : Int} (hn : cs.length ≤ 100) (h1 : ca.length = cs.length) (h2 : bu.length = cs.length) (hca : ∀ i, i < cs.length → 1 ≤ ca.getD i 0 ∧ ca.getD i 0 ≤ 300) (hc : 1 ≤ c ∧ c ≤ 300)
    (hts : ∀ x ∈ ts, 0 ≤ x.a ∧ x.a < cs.length ∧ 0 ≤ x.b ∧ x.b < cs.length) : times (ca ++ [c]) (bu ++ [b]) ts (cs ++ [x]) = times ca bu ts cs ++ [if x.lit = true then 0 else 1000000] := by
  have s1 := times_sol (bu := bu) cs (by omega) hca hts
  have hca' : ∀ i, i < (cs ++ [x]).length → 1 ≤ (ca ++ [c]).getD i 0 ∧ (ca ++ [c]).getD i 0 ≤ 300 := by
    intro i hi
    simp at hi
    by_cases e : i = cs.length
    · have : (ca ++ [c]).getD i 0 = c := by rw [e, ← h1]; exact getD_last
      rw [this]; exact hc
    · rw [getD_app (by omega)]; exact hca i (by omega)
  have s2 := times_sol (bu := bu ++ [b]) (ts := ts) (cs ++ [x]) (by simp; omega) hca' (fun y hy => by have := hts y hy; simp; omega)
  rw [lits_app] at s2
  have s3 := Sol.app h1 h2 (lits_len cs) hts s1 c b (if x.lit = true then 0 else 1000000) (by split <;> simp)
  have e : (cs ++ [x]).length = cs.length + 1 := by simp
  rw [e] at s2 hca'
  exact Sol.uniq (fun i hi => (hca' i hi).1) s2 s3
theorem begins_app {cs : List Coal} {ts : List Touch} (hf : FireOk cs ts) {x : Coal} (hx : CMade x) : ∃ b : Span, beginsL (cs ++ [x]) ts = beginsL cs ts ++ [b] := by
  have hn := hf.n
  have a1 : ∀ i, i < cs.length → 1 ≤ (soonC cs).getD i 0 ∧ (soonC cs).getD i 0 ≤ 300 := fun i hi => by
    have := hf.coal cs[i] (List.getElem_mem hi)
    rw [soonC, getD_map_of hi]; omega
  have a2 : ∀ i, i < cs.length → 1 ≤ (lateC cs).getD i 0 ∧ (lateC cs).getD i 0 ≤ 300 := fun i hi => by
    have := hf.coal cs[i] (List.getElem_mem hi)
    rw [lateC, getD_map_of hi]; omega
  have hk := hx.k
  have e1 := times_app (ca := soonC cs) (bu := soonB cs) (ts := ts) (cs := cs) x (c := x.katch.lo) (b := x.burn.hi) (by omega) (by simp [soonC]) (by simp [soonB]) a1 (by omega) hf.touch
  have e2 := times_app (ca := lateC cs) (bu := lateB cs) (ts := ts) (cs := cs) x (c := x.katch.hi) (b := x.burn.lo) (by omega) (by simp [lateC]) (by simp [lateB]) a2 (by omega) hf.touch
  have c1 : soonC (cs ++ [x]) = soonC cs ++ [x.katch.lo] := by simp [soonC]
  have c2 : soonB (cs ++ [x]) = soonB cs ++ [x.burn.hi] := by simp [soonB]
  have c3 : lateC (cs ++ [x]) = lateC cs ++ [x.katch.hi] := by simp [lateC]
  have c4 : lateB (cs ++ [x]) = lateB cs ++ [x.burn.lo] := by simp [lateB]
  have l1 := (times_sol (bu := soonB cs) cs (by omega) a1 hf.touch).len
  have l2 := (times_sol (bu := lateB cs) cs (by omega) a2 hf.touch).len
  rw [beginsL_def, beginsL_def, c1, c2, c3, c4, e1, e2]
  exact ⟨_, by rw [List.zipWith_append (by rw [l1, l2])]; rfl⟩
theorem sumsF_app : ∀ (l : List Span) (a y : Span), sumsF a (l ++ [y]) = ⟨(sumsF a l).lo + y.lo, (sumsF a l).hi + y.hi⟩
  | [], a, y => rfl
  | x :: r, a, y => by simp only [List.cons_append, sumsF]; exact sumsF_app r _ y
theorem heat_app {cs : List Coal} {ts : List Touch} (hf : FireOk cs ts) {x : Coal} (hx : CMade x) (m : Int) : (heatL cs (beginsL cs ts) m).lo ≤ (heatL (cs ++ [x]) (beginsL (cs ++ [x]) ts) m).lo ∧ (heatL cs (beginsL cs ts) m).hi ≤ (heatL (cs ++ [x]) (beginsL (cs ++ [x]) ts) m).hi := by
  obtain ⟨b, e⟩ := begins_app hf hx
  have hl := (beginsL_bok hf).len
  rw [e]
  unfold heatL
  rw [List.zipWith_append hl]
  simp only [List.zipWith_cons_cons, List.zipWith_nil_left, sumsF_app, hp, hlo_def, hhi_def]
  have := hx.h
  constructor <;> split <;> omega
theorem FMade.app {m : Nat} {cs : List Coal} {ts : List Touch} (h : FMade m ⟨cs, ts⟩) {x : Coal} (hx : CMade x) : FMade (m + 1) ⟨cs ++ [x], ts⟩ := by
  obtain ⟨h1, h2, h3, h4⟩ := h
  simp only at h1 h2 h3 h4
  refine ⟨by simp; omega, by simp; omega, fun y hy => ?_, fun y hy => by have := h4 y hy; simp; omega⟩
  simp only [List.mem_append, List.mem_singleton] at hy
  rcases hy with hy | rfl
  · exact h3 y hy
  · exact hx
theorem psOk.le : ∀ {l l' : List Pour} {w m : Int}, PsLe l l' → (∀ p ∈ l', p.warm ≤ 1000) → psOk w m l → psOk w m l'
  | [], [], w, m, _, _, h => h
  | [], _ :: _, w, m, h, _, _ => h.elim
  | _ :: _, [], w, m, h, _, _ => h.elim
  | p :: r, p' :: r', w, m, h, hw, ⟨h1, h2, h3, h4, h5⟩ => by
    obtain ⟨e1, e2, e3⟩ := h.1
    have := hw p' (List.mem_cons_self ..)
    obtain ⟨a1, a2, a3⟩ := h1
    refine ⟨⟨by omega, by omega, by omega⟩, by omega, by omega, by omega, ?_⟩
    rw [← e1, ← e2]
    exact psOk.le h.2 (fun p hp => hw p (List.mem_cons_of_mem _ hp)) h5
end Go.Gh


/- Pours that keep their block; arguments that are told as pure ones. -/
namespace Go.Gh
open Go.Proofs
set_option linter.unusedSimpArgs false
set_option linter.unusedVariables false
set_option maxRecDepth 100000
set_option maxHeartbeats 4000000

/-- Arguments that read the same are the same to a call. -/
theorem gcall_canon {K : Ctx} {rec : Rec} {f : Nat} {args args' : List GV} {H H' : Heap} {c : Nat} (h1 : K.frz f = true) (h2 : (frzVals H args).1.map canon = args'.map canon) (h3 : (frzVals H args).2 = H') (h4 : frzVals H' args' = (args', H')) :
    gcall K rec f args c H = gcall K rec f args' c H' := by
  have hl : (frzVals H args).1.length = args'.length := by simpa using congrArg List.length h2
  unfold gcall
  rw [h1, h3, h4]
  simp only [if_true]
  unfold gcall0
  rw [h2, hl]
theorem frzVal_apS {H : Heap} {nm : Nm} {es vf : Nat} {ro : Bool} {rows : List (List PV)} (h : rows ≠ [] → H.get nm = some (.arr es rows vf ro)) (hv : vf ≤ rows.length) : frzVal H (apS nm es rows) = (if rows = [] then .nils else .pure (.slice rows), if rows = [] then H else H.set nm (.arr es rows vf true)) := by
  unfold apS
  by_cases hr : rows = []
  · subst hr; simp [frzVal, frzCell]
  · simp [hr, h hr, hv, frzVal, frzCell, pureCell]

variable {keep : Nat → Bool} (hk : ∀ f, kept f = false → keep f = false) {c : Nat} {H : Heap}
include hk in
theorem poursOfK_ok (h20 : keep 20 = true) {k : Kettle} {nm : Nm} {most mins : Int} (hm : 0 ≤ most ∧ most ≤ 100) (hmi : 0 ≤ mins ∧ mins ≤ 1000) (hkw : 1 ≤ k.water ∧ k.water ≤ 50) (hB : isBox H nm) (hfree : H.get (H.length - 1, newKey c 54) = none) :
    gcall (KC keep) (geval (KC keep)) 20 [.bptr nm 0, .pure (.agg k.row), .pure (.int .i64 most), .pure (.int .i64 mins)] c H =
      some (apS (H.length - 1, newKey c 54) 3 ((poursOfR k most mins (wordAt H nm)).1.map Pour.row),
        if (poursOfR k most mins (wordAt H nm)).1 = [] then H.set nm (wbox (poursOfR k most mins (wordAt H nm)).2) else (H.set nm (wbox (poursOfR k most mins (wordAt H nm)).2)).set (H.length - 1, newKey c 54) (.arr 3 ((poursOfR k most mins (wordAt H nm)).1.map Pour.row) 0 false)) := by
  have hl := isBox_lt hB
  have hs := isBox_set hB
  have hne : ¬ nm.1 = H.length := by omega
  refine WPv_eq (call_enter (KC keep) needT Try.func20 rfl rfl good20 rfl (by simp) (by omega) ?_)
  have hlt : H.length - 1 < H.length := by omega
  have hB' : ∀ fr, isBox (fr :: H) nm := fun fr => isBox_up hB
  have hw := w64 (x := most + 1) (by omega) (by omega)
  have hu : most + 1 ≤ 9223372036854775807 := by omega
  have hr := upR_rng (wordAt H nm) (most + 1) hu
  have hnn : nm ≠ (H.length - 1, newKey c 54) := by
    intro e
    rw [← e] at hfree
    obtain ⟨w, h1, _⟩ := hB
    rw [h1] at hfree; cases hfree
  unfold poursOfR
  generalize hw0 : wordAt H nm = w0 at *
  generalize hk0 : upR w0 (most + 1) = k0 at *
  obtain ⟨kk, hkk⟩ : ∃ kk : Nat, k0.1 = kk := ⟨k0.1.toNat, by omega⟩
  have e2 : mins.tdiv 2 = mins / 2 := tdiv_pos hmi.1
  have h0 := fun Q hq => poursOf_loop (k := k) hk hB mins (mins.tdiv 2 + 1) rfl (by rw [e2]; omega) Q kk k.water 0 k0.2 [] hkw (by omega) (by simp; omega) hq
  simp [apS_nil, apF_nil, Kettle.row] at h0
  simp [Kettle.row, hw, up_ok hk, hu, hB', hne, hl, wordAt_up, hw0, hk0, hkk]
  refine h0 _ ?_
  generalize poursG (mins.tdiv 2 + 1) kk k.water 0 k0.2 = z at *
  by_cases hz : z.1 = []
  · simp [hz, apS_nil, apF_nil, gleave_keep, h20, refs, refs2, refs1, dedup, moveOut, ren, ren2, ren1]
  · have hzr : z.1.map Pour.row ≠ [] := by simpa using hz
    simp [hz, apS, apF, gleave_keep, h20, refs, refs2, refs1, dedup, moveOut, cleanBlk, hfree, ren, ren2, ren1, Heap.get_set_other _ hnn.symm]
end Go.Gh

/- A rite that is made: all rounds. -/
import Derived.Test.YtkcmcjohoockcaaRd
namespace Go.Gh
open Go.Proofs
set_option linter.unusedSimpArgs false
set_option linter.unusedVariables false
set_option maxRecDepth 100000
set_option maxHeartbeats 8000000
variable {H : Heap}
theorem mightR_true {r : Rite} {s : Scene} {w : Nat} {all : List RAct} {wd wd' : Int} {a : RAct} (hl : all.length ≤ 1000000) (h : mightR r s w all wd = ((a, true), wd')) : a ∈ all ∧ posV r s w a = true := by
  rw [mightR_def] at h
  have hlen := mightL_len r s w all
  split at h
  · cases h
  · rename_i hne
    have h0 : 0 < (mightL r s w all).length := List.length_pos_iff.2 hne
    have hr := upR_rng wd (mightL r s w all).length (by omega)
    generalize upR wd (mightL r s w all).length = y at h hr
    have hi : y.1.toNat < (mightL r s w all).length := by omega
    have e := (Prod.mk.inj (Prod.mk.inj h).1).1
    rw [getD_lt hi] at e
    exact mightL_mem (e ▸ List.getElem_mem hi)
theorem made_loop {nm : Nm} (hlt : nm.1 < H.length) (r0 : Rite) (n : Nat) (hb : RB r0 n) (hn : r0.wide * r0.deep = n) (Q : GX → GSt → Prop) : ∀ (k : Nat) (m : Nat) (T : Int) (F : Fr) (acts : List RAct) (s : Scene) (q : Nat) (t : Int) (wd : Int), k ≤ 1000 → m + 2 * k ≤ 10000 → T + 2 * k ≤ 100000 → RSt H.length r0 m T F acts s q t →
    (∀ F' acts' s' q' t' wd', RSt H.length r0 (m + 2 * k) (T + 2 * k) F' acts' s' q' t' → Q (.exit 0) ⟨[(6, .bptr (H.length, 6) 0), (7, .bptr (H.length, 7) 0), (8, .bptr (H.length, 8) 0), (9, .pure (.int .i64 t'))], F' :: H.set nm (wbox wd'), 174⟩) →
    WPLc KC needT 12 (lp Try.f12 0) [0, 6, 7, 8, 9, 10] [6, 7, 8, 9] Q (mslots nm H.length t (k : Int)) (F :: H.set nm (wbox wd)) 174 := by
  have hl : ∀ w, (H.set nm (wbox w)).length = H.length := fun w => Heap.length_set _ _ _
  intro k
  induction k with
  | zero =>
    intro m T F acts s q t wd _ _ _ hR hq
    apply WPLc_step
    conv => arg 4; whnf
    simp [mslots, hl]
    exact hq F acts s q t wd (by simpa using hR)
  | succ k ih =>
    intro m T F acts s q t wd hk hm hT hR hq
    have pl := hb.pl
    have tl := hb.tl
    have n9 := hb.n9
    have p0 : 0 < r0.people.length := List.length_pos_iff.2 hb.p0
    obtain ⟨w, wd1, e1, hw⟩ := upR_get wd r0.people.length (by omega) (by omega)
    have hw' : w < r0.people.length := by omega
    have el := fun w : Nat => everyL_len n r0.things.length r0.people.length (w : Int)
    have el' : ∀ w : Nat, (everyL n r0.things.length r0.people.length (w : Int)).length ≤ 1000000 := fun w => by have := el w; omega
    have again : ∀ (m' : Nat) (T' : Int), m' ≤ m + 2 → T' ≤ T + 2 → ∀ F' acts' s' q' t' wd', RSt H.length r0 m' T' F' acts' s' q' t' → WPLc KC needT 12 (lp Try.f12 0) [0, 6, 7, 8, 9, 10] [6, 7, 8, 9] Q (mslots nm H.length t' k) (F' :: H.set nm (wbox wd')) 174 := fun m' T' hm' hT' F' acts' s' q' t' wd' hR' => by
      refine ih m' T' F' acts' s' q' t' wd' (by omega) (by omega) (by omega) hR' fun F2 acts2 s2 q2 t2 wd2 hR2 => hq F2 acts2 s2 q2 t2 wd2 ?_
      have a := hR2.ml
      have b := hR2.tT
      exact ⟨hR2.fi, hR2.q2, hR2.md, by omega, by omega⟩
    obtain ⟨y, e2⟩ : ∃ y, mightR (withA r0 acts) s w (everyL n r0.things.length r0.people.length w) wd1 = y := ⟨_, rfl⟩
    obtain ⟨⟨a, b⟩, wd2⟩ := y
    cases b with
    | false => exact round_none hlt r0 n hb k (by omega) m T F acts s q t wd hR Q w wd1 wd2 a e1 hw' e2 (fun F' wd' h => again m T (by omega) (by omega) F' acts s q t wd' h)
    | true =>
      obtain ⟨ha, pa⟩ := mightR_true (el' w) e2
      obtain ⟨hA, _, za⟩ := everyL_AB hn hw' ha
      rw [show withA r0 acts = { r0 with acts := acts } from rfl, posV_acts] at pa
      obtain ⟨o, wd3, e3, ho⟩ := upR_get wd2 r0.people.length (by omega) (by omega)
      have ho' : o < r0.people.length := by omega
      obtain ⟨y, e4⟩ : ∃ y, mightR (withA r0 (acts ++ [setAt a t])) s o (everyL n r0.things.length r0.people.length o) wd3 = y := ⟨_, rfl⟩
      obtain ⟨⟨x, bx⟩, wd4⟩ := y
      refine round_some hlt r0 n hb hn k (by omega) m (by omega) T (by omega) F acts s q t wd hR Q w wd1 wd2 a e1 hw' e2 hA pa za o wd3 wd4 x bx e3 ho' e4 (fun hbx => ?_) (again (m + 2) (T + 2) (by omega) (by omega))
      subst hbx
      obtain ⟨hx, px⟩ := mightR_true (el' o) e4
      obtain ⟨hX, _, zx⟩ := everyL_AB hn ho' hx
      rw [show withA r0 (acts ++ [setAt a t]) = { r0 with acts := acts ++ [setAt a t] } from rfl, posV_acts] at px
      exact ⟨hX, px, zx⟩
end Go.Gh


/- A rite that is made: what is held is laid down. -/
namespace Go.Gh
open Go.Proofs
set_option linter.unusedSimpArgs false
set_option linter.unusedVariables false
set_option maxRecDepth 100000
set_option maxHeartbeats 8000000
variable {H : Heap}
section
variable {F f0 f1 : Fr} {r0 : Rite} {acts : List RAct} {s : Scene} {q L : Nat}
theorem FI.doS (hq : q ≤ 2) (h : FI L F r0 acts s q) {t' : Scene} {v1 v2 v3 : Nat} (h1 : v1 ≤ t'.people.length) (h2 : v2 ≤ t'.hands.length) (h3 : v3 ≤ t'.things.length) (hl : t'.people.length = s.people.length ∧ t'.hands.length = s.hands.length ∧ t'.things.length = s.things.length) : FI L (ins3 F q v1 v2 v3 t') r0 acts t' q := by
  have e : sceneB L q t' = sceneB L q s := by simp only [sceneB, hl]
  have b := ins3_FB h.toFB q hq v1 v2 v3 t'
  rw [← e] at b
  exact { b with
    sc := ins3_SF F q hq t' h1 h2 h3
    fam := fun k hk hg => by
      by_cases h1 : k = key1 q
      · exact .inl h1
      by_cases h2 : k = key2 q
      · exact .inr (.inl h2)
      by_cases h3 : k = key3 q
      · exact .inr (.inr h3)
      rw [ins3_get _ _ _ _ _ _ h1 h2 h3] at hg
      exact h.fam k hk hg }
theorem FI.app (hq : q ≤ 2) (h : FI L F r0 acts s q) {acts' : List RAct} (hne : acts' ≠ []) : FI L (insA L F r0 acts') r0 acts' s q := by
  obtain ⟨a, b, c⟩ := keys_fix q hq
  have one : ∀ k, (∀ j ∈ fixed, j ≠ k) → (insA L F r0 acts').get k = F.get k := fun k hk => insA_get _ _ _ _ (hk 62 (by decide)).symm (hk 7 (by decide)).symm
  exact { insA_FB h.toFB hne with
    sc := h.sc.other (one _ a) (one _ b) (one _ c)
    fam := fun k hk hg => by
      have h1 : k ≠ 62 := fun e => by subst e; cases hk
      have h2 : k ≠ 7 := fun e => by subst e; cases hk
      rw [insA_get _ _ _ _ h1 h2] at hg
      exact h.fam k hk hg }
theorem do_at2 (hq : q ≤ 2) (h : FI H.length F r0 acts s q) {w : Nat} {a : RAct} (hb : DoB s w a) (hhl : s.hands.length ≤ 1000000) (f0 f1 : Fr) (c : Nat) :
    ∃ F2, FI H.length F2 r0 acts (doV s w a) q ∧ gcall KC (geval KC) 37 [scN H.length q s, .pure (.agg a.row)] c (f0 :: f1 :: F :: H) = some (.pure (.tuple []), f0 :: f1 :: F2 :: H) := by
  obtain ⟨n12, n13, n23, _⟩ := keys_ne q hq
  have ne : ¬ H.length = H.length + 1 := by omega
  have ne2 : ¬ H.length = H.length + 1 + 1 := by omega
  have g : ∀ k, Heap.get (f0 :: f1 :: F :: H) (H.length, k) = F.get k := fun k => by simp [ne]
  have st : ∀ k b, F.get k = some b → Heap.set (f0 :: f1 :: F :: H) (H.length, k) b = f0 :: f1 :: F :: H := fun k b hb => by simp [ne, Fr.ins_same h.srt hb]
  have nn : ∀ a b : Nat, a ≠ b → ((H.length, a) : Nm) ≠ (H.length, b) := fun a b h e => h (Prod.mk.inj e).2
  obtain ⟨⟨u1, a1, b1⟩, ⟨u2, a2, b2⟩, ⟨u3, a3, b3⟩⟩ := h.sc
  have S : ScSelf (f0 :: f1 :: F :: H) (H.length, key1 q) (H.length, key2 q) (H.length, key3 q) u1 u2 u3 s := { n12 := nn _ _ n12, n13 := nn _ _ n13, n23 := nn _ _ n23, g1 := (g _).trans b1, g2 := (g _).trans b2, g3 := (g _).trans b3, e1 := a1, e2 := a2, e3 := a3, s1 := st _ _ b1, s2 := st _ _ b2, s3 := st _ _ b3 }
  obtain ⟨v1, v2, v3, c1, c2, c3, e⟩ := do_ok (c := c) S hb hhl (by simp)
  have LD := doV_len (s := s) (w := w) hb.kind
  refine ⟨ins3 F q v1 v2 v3 (doV s w a), h.doS hq (by omega) (by omega) (by omega) LD, e.trans ?_⟩
  simp [scSet, ins3, ne]
theorem app_ex2 (hq : q ≤ 2) (h : FI H.length F r0 acts s q) (a : RAct) (hn : acts.length ≤ 1000000) (h0 : acts ≠ []) (f0 f1 : Fr) (ka : Nat) :
    ∃ F2 F3, FI H.length F3 r0 (acts ++ [a]) s q ∧ apK H.length ka (apS (H.length, 62) 9 (acts.map RAct.row)) 9 72 [a.row] (f0 :: f1 :: F :: H) = some (apS (H.length, 62) 9 ((acts ++ [a]).map RAct.row), f0 :: f1 :: F2 :: H) ∧
      F2.get 7 = some (riteB H.length r0 acts) ∧ F2.ins 7 (riteB H.length r0 (acts ++ [a])) = F3 := by
  have ne : ¬ H.length = H.length + 1 := by omega
  refine ⟨F.ins 62 (.arr 9 ((acts ++ [a]).map RAct.row) 0 false), _, h.app hq (acts' := acts ++ [a]) (by simp), ?_, ?_, rfl⟩
  · have ek : apK H.length ka (apS (H.length, 62) 9 (acts.map RAct.row)) 9 72 [a.row] (f0 :: f1 :: F :: H) = apK H.length 62 (apS (H.length, 62) 9 (acts.map RAct.row)) 9 72 [a.row] (f0 :: f1 :: F :: H) := by
      unfold apS
      rw [if_neg (by simpa using h0)]
      rfl
    rw [ek, apK_apS (fun hr => absurd (by simpa using hr) h0) (fun hr => by simp [ne, h.ga h0]) (by simp; omega) (by simp; omega)]
    simp [ne]
  · rw [Fr.get_ins_other _ (by decide)]; exact h.g7
end
def layA (t : Int) (w : Nat) (hd : Int) : RAct := ⟨t, w, 3, hd, 0, 0, 0, 0, 0⟩
theorem layA_AB {r : Rite} {t hd : Int} {w : Nat} (hw : w < r.people.length) (hh : hd = 0 ∨ hd = 1) : AB r w (layA t w hd) :=
  ⟨rfl, hw, hh, ⟨by simp [layA], by simp [layA]⟩, fun h => by simp [layA] at h, fun h => by simp [layA] at h, fun h => by simp [layA] at h, by simp [formB, layA]⟩
theorem lay_made {r0 : Rite} {acts : List RAct} {s : Scene} {t hd : Int} {w : Nat} (h : Made r0 acts s t) (hw : w < r0.people.length) (hh : hd = 0 ∨ hd = 1) (h0 : 0 ≤ handAt s.hands w hd) :
    posV r0 s w (layA t w hd) = true ∧ Made r0 (acts ++ [layA t w hd]) (doV s w (layA t w hd)) (t + 1) ∧ handAt (doV s w (layA t w hd)).hands w hd = -1 ∧
    (∀ w' hd', (hd' = 0 ∨ hd' = 1) → ¬ (w' = w ∧ hd' = hd) → handAt (doV s w (layA t w hd)).hands w' hd' = handAt s.hands w' hd') := by
  have pa : posV r0 s w (layA t w hd) = true := by rw [posV_3 rfl]; exact decide_eq_true h0
  have hA := layA_AB (r := r0) (t := t) hw hh
  have ew : (layA t w hd).who.toNat = w := by simp [layA]
  have hwh : w < s.hands.length := by rw [h.snd.hl]; exact hw
  refine ⟨pa, ?_, ?_, fun w' hd' h1 h2 => ?_⟩
  · have := h.grp (g := [layA t w hd]) (t' := t + 1) ⟨fun b hb => by simp only [List.mem_singleton] at hb; subst hb; rw [ew]; exact ⟨hA, pa⟩, List.pairwise_singleton ..⟩ (by simp) (fun b hb => by simp only [List.mem_singleton] at hb; subst hb; exact ⟨rfl, rfl, rfl⟩) (by omega)
    rwa [doG_cons, ew, doG_nil] at this
  · rw [doV_3 rfl]
    show handAt (putHand s.hands w hd (-1)) w hd = -1
    rw [put_at w hd hwh hh hh, if_pos ⟨rfl, rfl⟩]
  · rw [doV_3 rfl]
    show handAt (putHand s.hands w hd (-1)) w' hd' = _
    rw [put_at w' hd' hwh hh h1, if_neg h2]
theorem made_nil {r0 : Rite} {s : Scene} {t hd : Int} {w : Nat} (h : Made r0 [] s t) (hw : w < r0.people.length) : handAt s.hands w hd = -1 := by
  have e : s = firstV r0 := by rw [h.sc]; rfl
  subst e
  unfold handAt
  have : (firstV r0).hands.getD w hands0 = empty := by
    rw [getD_lt (by simp [firstV]; exact hw)]; simp [firstV]
  rw [this]
  split <;> rfl
def lslots (L : Nat) (t : Int) (w : Nat) (hd : Int) : Slots := [(6, .bptr (L, 6) 0), (7, .bptr (L, 7) 0), (8, .bptr (L, 8) 0), (9, .pure (.int .i64 t)), (18, .pure (.int .i64 w)), (19, .pure (.int .i64 hd))]
theorem lay_step (r0 : Rite) (n : Nat) (hb : RB r0 n) (m : Nat) (hm : m ≤ 100000) (T : Int) (hT : T ≤ 1000000) (F : Fr) (acts : List RAct) (s : Scene) (q : Nat) (t : Int) (hR : RSt H.length r0 m T F acts s q t) (Q : GX → GSt → Prop) (w : Nat) (hw : w < r0.people.length) (hd : Int) (hh : hd = 0 ∨ hd = 1)
    (ih : ∀ F' acts' s' t', RSt H.length r0 (m + 1) (T + 1) F' acts' s' q t' → handAt s'.hands w hd = -1 → (∀ w' hd', (hd' = 0 ∨ hd' = 1) → ¬ (w' = w ∧ hd' = hd) → handAt s'.hands w' hd' = handAt s.hands w' hd') →
      WPL KC needT 12 (lp Try.f12 2) [6, 7, 8, 9, 18, 19] [6, 7, 8, 9, 18] Q (lslots H.length t' w (hd + 1)) ([] :: F' :: H) 174) :
    WPL KC needT 12 (lp Try.f12 2) [6, 7, 8, 9, 18, 19] [6, 7, 8, 9, 18] Q (lslots H.length t w hd) ([] :: F :: H) 174 := by
  have g7 := hR.fi.g7
  have g8 := hR.fi.g8
  obtain ⟨v2, hv2, gh⟩ := hR.fi.sc.h2
  have hS := hR.md.snd
  have hwh : w < s.hands.length := by rw [hS.hl]; exact hw
  have eh := hS.hl
  have pl := hb.pl
  have ml := hR.ml
  have t0 := hR.md.t0
  have tT := hR.tT
  have R := handAt_rng hS.toScB (w := w) (hand := hd) hw
  have hw1 := w64 (x := hd + 1) (by omega) (by omega)
  have hw2 := w64 (x := t + 1) (by omega) (by omega)
  have hlt : hd < 2 := by omega
  have ne : ¬ H.length = H.length + 1 := by omega
  obtain ⟨x, hx⟩ : ∃ x, handAt s.hands w hd = x := ⟨_, rfl⟩
  have hx' : handAt s.hands w hd = (if hd = 0 then s.hands[w].l else s.hands[w].r) := by
    unfold handAt; rw [getD_lt hwh]
  by_cases h0 : 0 ≤ x
  · have a0 : acts ≠ [] := fun e => by
      subst e
      have := made_nil (hd := hd) hR.md hw
      omega
    obtain ⟨pa, M, z1, z2⟩ := lay_made hR.md hw hh (by rw [hx]; exact h0)
    have hA := layA_AB (r := r0) (t := t) hw hh
    obtain ⟨F2, fi2, dd⟩ := do_at2 hR.q2 hR.fi (DoB_of hS hA pa) (by omega) [(20, abox (layA t w hd))] [] 135
    obtain ⟨F3, F4, fi4, ap, f37, f34⟩ := app_ex2 hR.q2 fi2 (layA t w hd) (by omega) a0 [(20, abox (layA t w hd))] [] 140
    have g72 := fi2.g7
    have g82 := fi2.g8
    have I := ih F4 _ _ (t + 1) ⟨fi4, hR.q2, M, by simp; omega, by omega⟩ z1 z2
    simp only [riteB, sceneB] at g7 g8 g72 g82 f37 f34
    simp only [scN, scH, RAct.row, layA, abox, List.map_append, List.map_cons, List.map_nil] at dd ap f37 f34
    apply WPL_step
    conv => arg 4; whnf
    rcases hh with rfl | rfl
    · rw [if_pos rfl] at hx'
      have hx2 : s.hands[w].l = x := hx'.symm.trans hx
      simp [lslots] at I
      simp [lslots, g7, g8, gh, hv2, ne, hwh, Hands.row, hx2, h0, dd, g72, g82, ap, f37, f34, hw2]
      exact I
    · rw [if_neg (by decide)] at hx'
      have hx2 : s.hands[w].r = x := hx'.symm.trans hx
      have w11 : IntKind.i64.wrap (1 + 1) = 2 := rfl
      simp [lslots] at I
      simp [lslots, g7, g8, gh, hv2, ne, hwh, Hands.row, hx2, h0, dd, g72, g82, ap, f37, f34, hw2, w11]
      exact I
  · have z1 : handAt s.hands w hd = -1 := by omega
    have I := ih F acts s t ⟨hR.fi, hR.q2, hR.md, by omega, by omega⟩ z1 (fun w' hd' _ _ => rfl)
    simp only [riteB, sceneB] at g7 g8
    apply WPL_step
    conv => arg 4; whnf
    rcases hh with rfl | rfl
    · rw [if_pos rfl] at hx'
      have hx2 : s.hands[w].l = x := hx'.symm.trans hx
      simp [lslots] at I
      simp [lslots, g7, g8, gh, hv2, ne, hwh, Hands.row, hx2, h0]
      exact I
    · rw [if_neg (by decide)] at hx'
      have hx2 : s.hands[w].r = x := hx'.symm.trans hx
      have w11 : IntKind.i64.wrap (1 + 1) = 2 := rfl
      simp [lslots] at I
      simp [lslots, g7, g8, gh, hv2, ne, hwh, Hands.row, hx2, h0, w11]
      exact I
end Go.Gh


/- A rite that is made: everybody's hands; what the end has to be. -/
namespace Go.Gh
open Go.Proofs
set_option linter.unusedSimpArgs false
set_option linter.unusedVariables false
set_option maxRecDepth 100000
set_option maxHeartbeats 8000000
variable {H : Heap}
theorem lays_loop (r0 : Rite) (n : Nat) (hb : RB r0 n) (q : Nat) (Q : GX → GSt → Prop) : ∀ (k w m : Nat) (T : Int) (F : Fr) (acts : List RAct) (s : Scene) (t : Int), w + k = r0.people.length → m + 2 * k ≤ 100000 → T + 2 * k ≤ 1000000 → RSt H.length r0 m T F acts s q t →
    (∀ w' hd', w' < w → (hd' = 0 ∨ hd' = 1) → handAt s.hands w' hd' = -1) →
    (∀ F' acts' s' t', RSt H.length r0 (m + 2 * k) (T + 2 * k) F' acts' s' q t' → (∀ w' hd', w' < r0.people.length → (hd' = 0 ∨ hd' = 1) → handAt s'.hands w' hd' = -1) → Q (.exit 2) ⟨[(6, .bptr (H.length, 6) 0), (7, .bptr (H.length, 7) 0), (8, .bptr (H.length, 8) 0)], F' :: H, 174⟩) →
    WPL KC needT 12 (lp Try.f12 1) [6, 7, 8, 9, 18] [6, 7, 8] Q [(6, .bptr (H.length, 6) 0), (7, .bptr (H.length, 7) 0), (8, .bptr (H.length, 8) 0), (9, .pure (.int .i64 t)), (18, .pure (.int .i64 w))] (F :: H) 174 := by
  have pl := hb.pl
  intro k
  induction k with
  | zero =>
    intro w m T F acts s t hw hm hT hR hz hq
    have g7 := hR.fi.g7
    simp only [riteB] at g7
    have hwl : ¬ w < r0.people.length := by omega
    apply WPL_step
    conv => arg 4; whnf
    simp [g7, hwl]
    exact hq F acts s t (by simpa using hR) (fun w' hd' h1 h2 => hz w' hd' (by omega) h2)
  | succ k ih =>
    intro w m T F acts s t hw hm hT hR hz hq
    have g7 := hR.fi.g7
    simp only [riteB] at g7
    have hwl : w < r0.people.length := by omega
    have hw1 := w64 (x := (w : Int) + 1) (by omega) (by omega)
    apply WPL_step
    conv => arg 4; whnf
    simp [g7, hwl]
    refine lay_step r0 n hb m (by omega) T (by omega) F acts s q t hR _ w hwl 0 (.inl rfl) (fun F1 acts1 s1 t1 hR1 z1 y1 => ?_)
    refine lay_step r0 n hb (m + 1) (by omega) (T + 1) (by omega) F1 acts1 s1 q t1 hR1 _ w hwl (0 + 1) (.inr rfl) (fun F2 acts2 s2 t2 hR2 z2 y2 => ?_)
    apply WPL_step
    conv => arg 4; whnf
    simp [lslots, hw1]
    have hR2' : RSt H.length r0 (m + 2) (T + 2) F2 acts2 s2 q t2 := ⟨hR2.fi, hR2.q2, hR2.md, hR2.ml, by have := hR2.tT; omega⟩
    refine ih (w + 1) (m + 2) (T + 2) F2 acts2 s2 t2 (by omega) (by omega) (by omega) hR2' (fun w' hd' h1 h2 => ?_) (fun F' acts' s' t' hR' h' => hq F' acts' s' t' ?_ h')
    · by_cases e : w' = w
      · subst e
        rcases h2 with rfl | rfl
        · rw [y2 w' 0 (.inl rfl) (by simp)]; exact z1
        · simpa using z2
      · rw [y2 w' hd' h2 (fun h => e h.1), y1 w' hd' h2 (fun h => e h.1)]
        exact hz w' hd' (by omega) h2
    · have a := hR'.ml
      have b := hR'.tT
      exact ⟨hR'.fi, hR'.q2, hR'.md, by omega, by omega⟩
/-- A thing whose end is told. -/
def finT (t : Thing) (sp : Spot) : Thing := { t with home := sp.cell, want := sp.state }
def finL (ts : List Thing) (sps : List Spot) (i : Nat) : List Thing := ts.mapIdx fun j t => if j < i then finT t (sps.getD j spot0) else t
theorem finL_len (ts : List Thing) (sps : List Spot) (i : Nat) : (finL ts sps i).length = ts.length := by simp [finL]
theorem finL_get (ts : List Thing) (sps : List Spot) (i j : Nat) (h : j < ts.length) : (finL ts sps i)[j]'(by simpa [finL] using h) = if j < i then finT ts[j] (sps.getD j spot0) else ts[j] := by simp [finL]
theorem finL_succ (ts : List Thing) (sps : List Spot) (i : Nat) (h : i < ts.length) : finL ts sps (i + 1) = (finL ts sps i).set i (finT ts[i] (sps.getD i spot0)) := by
  refine List.ext_getElem (by simp [finL]) fun j h1 h2 => ?_
  have hj : j < ts.length := by simpa [finL] using h1
  rw [List.getElem_set, finL_get _ _ _ _ hj, finL_get _ _ _ _ hj]
  by_cases e : i = j
  · subst e
    simp
  · rw [if_neg e]
    by_cases h3 : j < i
    · rw [if_pos h3, if_pos (by omega)]
    · rw [if_neg h3, if_neg (by omega)]
structure FT (L : Nat) (F : Fr) (r0 : Rite) (acts : List RAct) (s : Scene) (q : Nat) (ts : List Thing) : Prop where
  g6 : F.get 6 = some zbox
  g7 : F.get 7 = some (riteB L r0 acts)
  g8 : F.get 8 = some (sceneB L q s)
  gp : F.get 188441 = some (.arr 2 (r0.people.map Person.row) 0 false)
  gl : r0.lapses ≠ [] → F.get 393241 = some (.arr 1 (r0.lapses.map irow) 0 false)
  ga : acts ≠ [] → F.get 62 = some (.arr 9 (acts.map RAct.row) 0 false)
  h3 : ∃ v, v ≤ s.things.length ∧ F.get (key3 q) = some (.arr 2 (s.things.map Spot.row) v false)
  gt : ∃ v, v ≤ ts.length ∧ F.get 339993 = some (.arr 5 (ts.map Thing.row) v false)
  tl : ts.length = r0.things.length
theorem FT.ins {L : Nat} {F : Fr} {r0 : Rite} {acts : List RAct} {s : Scene} {q : Nat} {ts ts' : List Thing} (hq : q ≤ 2) (h : FT L F r0 acts s q ts) {v : Nat} (hv : v ≤ ts'.length) (hl : ts'.length = ts.length) : FT L (F.ins 339993 (.arr 5 (ts'.map Thing.row) v false)) r0 acts s q ts' where
  g6 := (Fr.get_ins_other _ (by decide) _).trans h.g6
  g7 := (Fr.get_ins_other _ (by decide) _).trans h.g7
  g8 := (Fr.get_ins_other _ (by decide) _).trans h.g8
  gp := (Fr.get_ins_other _ (by decide) _).trans h.gp
  gl := fun hl => (Fr.get_ins_other _ (by decide) _).trans (h.gl hl)
  ga := fun hl => (Fr.get_ins_other _ (by decide) _).trans (h.ga hl)
  h3 := by
    obtain ⟨v, a, b⟩ := h.h3
    exact ⟨v, a, (Fr.get_ins_other _ ((keys_fix q hq).2.2 339993 (by decide)).symm _).trans b⟩
  gt := ⟨v, hv, Fr.get_ins ..⟩
  tl := hl.trans h.tl
theorem ends_loop (r0 : Rite) (n : Nat) (hb : RB r0 n) (acts : List RAct) (s : Scene) (q : Nat) (hq : q ≤ 2) (hsl : s.things.length = r0.things.length) (Q : GX → GSt → Prop) : ∀ (k i : Nat) (F : Fr) (ts : List Thing), i + k = r0.things.length → FT H.length F r0 acts s q ts → ts = finL r0.things s.things i →
    (∀ F', FT H.length F' r0 acts s q (finL r0.things s.things r0.things.length) → Q (.exit 6) ⟨[(6, .bptr (H.length, 6) 0), (7, .bptr (H.length, 7) 0)], F' :: H, 174⟩) →
    WPL KC needT 12 (lp Try.f12 3) [6, 7, 8, 21] [6, 7] Q [(6, .bptr (H.length, 6) 0), (7, .bptr (H.length, 7) 0), (8, .bptr (H.length, 8) 0), (21, .pure (.int .i64 i))] (F :: H) 174 := by
  have tl := hb.tl
  intro k
  induction k with
  | zero =>
    intro i F ts hi h hts hq'
    have g7 := h.g7
    simp only [riteB] at g7
    have hwl : ¬ i < r0.things.length := by omega
    apply WPL_step
    conv => arg 4; whnf
    simp [g7, hwl]
    have e : i = r0.things.length := by omega
    subst e
    rw [hts] at h
    exact hq' F h
  | succ k ih =>
    intro i F ts hi h hts hq'
    have g7 := h.g7
    have g8 := h.g8
    simp only [riteB, sceneB] at g7 g8
    obtain ⟨v3, a3, b3⟩ := h.h3
    obtain ⟨vt, at', bt⟩ := h.gt
    have tl' := h.tl
    have hwl : i < r0.things.length := by omega
    have hil : i < ts.length := by omega
    have his : i < s.things.length := by omega
    have hw1 := w64 (x := (i : Int) + 1) (by omega) (by omega)
    have ne : ¬ H.length = H.length + 1 := by omega
    have nk : key3 q ≠ 339993 := ((keys_fix q hq).2.2 339993 (by decide)).symm
    have I := fun ts' h1 h2 => ih (i + 1) (F.ins 339993 (.arr 5 (ts'.map Thing.row) ts'.length false)) ts' (by omega) (h.ins hq (Nat.le_refl _) h1) h2 hq'
    have a3' : v3 ≤ r0.things.length := by omega
    have at2 : vt ≤ r0.things.length := by omega
    apply WPL_step
    conv => arg 4; whnf
    simp [g7, g8, hwl, b3, bt, a3', at2, ne, hil, his, tl', hsl, hw1, Spot.row, Thing.row, Fr.get_ins, Fr.get_ins_other, Fr.ins_ins, nk]
    have ei : ts[i] = r0.things[i] := by
      subst hts
      rw [finL_get _ _ _ _ hwl, if_neg (by omega)]
    have I2 := I (ts.set i (finT r0.things[i] (s.things.getD i spot0))) (by simp) (by rw [hts, finL_succ _ _ _ hwl])
    rw [getD_lt his] at I2
    simp [Thing.row, finT, tl', ei] at I2 ⊢
    exact I2
end Go.Gh


/- A rite that is made: the whole. -/
namespace Go.Gh
open Go.Proofs
set_option linter.unusedSimpArgs false
set_option linter.unusedVariables false
set_option maxRecDepth 100000
set_option maxHeartbeats 8000000
variable {c : Nat} {H : Heap}
/-- The frame at the beginning. -/
def G2 (L : Nat) (r0 : Rite) : Fr := apF 393241 1 (r0.lapses.map irow) [(6, zbox), (7, riteB L r0 []), (188441, .arr 2 (r0.people.map Person.row) 0 false), (339993, .arr 5 (r0.things.map Thing.row) 0 false)]
def G4 (L : Nat) (r0 : Rite) : Fr := apF 393241 1 (r0.lapses.map irow) [(6, zbox), (7, riteB L r0 []), (8, sceneB L 0 (firstV r0)), (90139, .arr 1 ((firstV r0).people.map irow) 0 false), (110619, .arr 2 ((firstV r0).hands.map Hands.row) 0 false), (188441, .arr 2 (r0.people.map Person.row) 0 false), (217115, .arr 2 ((firstV r0).things.map Spot.row) 0 false), (339993, .arr 5 (r0.things.map Thing.row) 0 false)]
theorem apF_srt {key es : Nat} {rows : List (List PV)} {fr : Fr} (h : fr.srt) : (apF key es rows fr).srt := by
  unfold apF
  split
  · exact h
  · exact Fr.ins_srt h
theorem apF_mem {key es : Nat} {rows : List (List PV)} {fr : Fr} {x : Nat × Blk} (hs : fr.srt) (h : x ∈ apF key es rows fr) : x = (key, .arr es rows 0 false) ∨ x ∈ fr := by
  unfold apF at h
  split at h
  · exact .inr h
  · rcases Fr.ins_mem hs h with e | e
    · exact .inl e
    · exact .inr e.1
theorem G4_srt (L : Nat) (r0 : Rite) : Fr.srt [(6, zbox), (7, riteB L r0 []), (8, sceneB L 0 (firstV r0)), (90139, .arr 1 ((firstV r0).people.map irow) 0 false), (110619, .arr 2 ((firstV r0).hands.map Hands.row) 0 false), (188441, .arr 2 (r0.people.map Person.row) 0 false), (217115, .arr 2 ((firstV r0).things.map Spot.row) 0 false), (339993, .arr 5 (r0.things.map Thing.row) 0 false)] := by
  simp [Fr.srt]
theorem G4_FI (L : Nat) (r0 : Rite) : FI L (G4 L r0) r0 [] (firstV r0) 0 where
  srt := apF_srt (G4_srt L r0)
  g6 := by unfold G4; rw [apF_get (by decide)]; simp
  g7 := by unfold G4; rw [apF_get (by decide)]; simp
  g8 := by unfold G4; rw [apF_get (by decide)]; simp
  gp := by unfold G4; rw [apF_get (by decide)]; simp
  gt := by unfold G4; rw [apF_get (by decide)]; simp
  gl := fun h => by unfold G4; rw [apF_self (by simpa using h)]
  ga0 := fun _ => by unfold G4; rw [apF_get (by decide)]; simp
  ga := fun h => absurd rfl h
  ref := fun x hx hne k hk => by
    rcases apF_mem (G4_srt L r0) hx with e | e
    · subst e; rfl
    · simp only [List.mem_cons, List.not_mem_nil, or_false] at e
      rcases e with rfl | rfl | rfl | rfl | rfl | rfl | rfl | rfl
      · rfl
      · exact riteB_ref hk
      · exact absurd rfl hne
      · rfl
      · rfl
      · rfl
      · rfl
      · rfl
  sc := ⟨⟨0, Nat.zero_le _, by unfold G4 key1; rw [apF_get (by decide)]; simp⟩, ⟨0, Nat.zero_le _, by unfold G4 key2; rw [apF_get (by decide)]; simp⟩, ⟨0, Nat.zero_le _, by unfold G4 key3; rw [apF_get (by decide)]; simp⟩⟩
  fam := fun k hk hg => by
    have n0 : k ≠ 393241 := fun e => by subst e; cases hk
    have ne : ∀ j, famKey j = false → k ≠ j := fun j hj e => by subst e; rw [hj] at hk; cases hk
    unfold G4 at hg
    rw [apF_get n0] at hg
    simp only [Fr.get_cons, Fr.get_nil] at hg
    rw [if_neg (ne 6 (by decide)), if_neg (ne 7 (by decide)), if_neg (ne 8 (by decide)), if_neg (ne 90139 (by decide)), if_neg (ne 110619 (by decide)), if_neg (ne 188441 (by decide)), if_neg (ne 217115 (by decide)), if_neg (ne 339993 (by decide))] at hg
    exact absurd rfl hg
theorem RB_of {r0 : Rite} (h : RoomB r0) : ∃ n : Nat, RB r0 n ∧ r0.wide * r0.deep = n := by
  obtain ⟨w, hw⟩ := Int.eq_ofNat_of_zero_le (show 0 ≤ r0.wide by have := h.w1; omega)
  obtain ⟨d, hd⟩ := Int.eq_ofNat_of_zero_le (show 0 ≤ r0.deep by have := h.d1; omega)
  have w1 := h.w1
  have w3 := h.w3
  have d1 := h.d1
  have d3 := h.d3
  have e : r0.wide * r0.deep = ((w * d : Nat) : Int) := by rw [hw, hd]; simp
  have l9 : w * d ≤ 3 * 3 := Nat.mul_le_mul (by omega) (by omega)
  have l1 : 0 < w * d := Nat.mul_pos (by omega) (by omega)
  exact ⟨w * d, ⟨by rw [e]; exact w64 (by omega) (by omega), l1, by omega, by omega, h.p3, h.t4, h.p0, h.t0, h.seen⟩, e⟩
theorem G2_rd {L : Nat} (hL : L = H.length) {r0 : Rite} (hs : r0.seen = []) : rdG (G2 L r0 :: H) (riteG L r0 []) (.agg (withA r0 []).row) := by
  subst hL
  have g : ∀ k, Heap.get (G2 H.length r0 :: H) (H.length, k) = (G2 H.length r0).get k := fun k => by simp
  rw [rowR]
  unfold riteG
  rw [rdG_agg]
  simp only [withA, rdL_cons, rdL_nil, rdC_pure, and_true, true_and]
  refine ⟨⟨_, 0, false, (g _).trans (by unfold G2; rw [apF_get (by decide)]; simp), Nat.zero_le _, by simp, rfl, rfl, rfl⟩, ⟨_, 0, false, (g _).trans (by unfold G2; rw [apF_get (by decide)]; simp), Nat.zero_le _, by simp, rfl, rfl, rfl⟩, ?_, rdC_apS fun hr => (g _).trans (by unfold G2; rw [apF_self hr]), rdC_apS fun hr => absurd rfl hr⟩
  rw [hs]; rfl
/-- A rite that was made: its value, its blocks. -/
def finR (r0 : Rite) (acts : List RAct) (s : Scene) : Rite := { r0 with acts := acts, things := finL r0.things s.things r0.things.length }
def riteV (n2 n3 n5 n7 : Nm) (r : Rite) : GV := .agg [.pure (.int .i64 r.wide), .pure (.int .i64 r.deep), .hdr n2 2 r.people.length 0 r.people.length, .hdr n3 5 r.things.length 0 r.things.length, .nils, apS n5 1 (r.lapses.map irow), apS n7 9 (r.acts.map RAct.row)]
def riteH (H : Heap) (n2 n3 n5 n7 : Nm) (v : Nat) (r : Rite) : Heap := apSet (apSet ((H.set n2 (.arr 2 (r.people.map Person.row) 0 false)).set n3 (.arr 5 (r.things.map Thing.row) v false)) n5 1 (r.lapses.map irow)) n7 9 (r.acts.map RAct.row)
/-- What is known of a rite that was made. -/
structure RiteB (r0 : Rite) (acts : List RAct) (s : Scene) (m : Nat) : Prop where
  room : RoomB r0
  made : ∃ t : Int, Made r0 acts s t ∧ t ≤ 2 + m
  len : acts.length ≤ m
  hands : ∀ w' hd', w' < r0.people.length → (hd' = 0 ∨ hd' = 1) → handAt s.hands w' hd' = -1
def kp (c : Nat) : Nat := newKey c 188441
def kt (c : Nat) : Nat := newKey c 339993
def kl (c : Nat) : Nat := newKey c 393241
def ka (c : Nat) : Nat := newKey c 62
theorem RiteOf_ok {nm : Nm} (hB0 : isBox H nm) {N : Nat} (hN : N ≤ 15) (hN1 : 1 ≤ N)
    (hf1 : H.get (H.length - 1, kp c) = none) (hf2 : H.get (H.length - 1, kt c) = none) (hf3 : H.get (H.length - 1, kl c) = none) (hf4 : H.get (H.length - 1, ka c) = none) (hnk : ∀ k, nm ≠ (H.length - 1, newKey c k)) :
    ∃ r0 acts s v wd, RiteB r0 acts s (2 * N + 6) ∧ v ≤ r0.things.length ∧ gcall KC (geval KC) 12 [.bptr nm 0, .pure (.int .i64 3), .pure (.int .i64 N)] c H =
      some (riteV (H.length - 1, kp c) (H.length - 1, kt c) (H.length - 1, kl c) (H.length - 1, ka c) (finR r0 acts s), riteH (H.set nm (wbox wd)) (H.length - 1, kp c) (H.length - 1, kt c) (H.length - 1, kl c) (H.length - 1, ka c) v (finR r0 acts s)) := by
  have hlt := isBox_lt hB0
  have hset := isBox_set hB0
  have hne : ¬ nm.1 = H.length := by omega
  have hne2 : ¬ nm.1 = H.length + 1 := by omega
  have hle : nm.1 ≤ H.length := by omega
  suffices hs : WPv (gcall KC (geval KC) 12 [.bptr nm 0, .pure (.int .i64 3), .pure (.int .i64 N)] c H) (fun x => ∃ r0 acts s v wd, RiteB r0 acts s (2 * N + 6) ∧ v ≤ r0.things.length ∧ x = (riteV (H.length - 1, kp c) (H.length - 1, kt c) (H.length - 1, kl c) (H.length - 1, ka c) (finR r0 acts s), riteH (H.set nm (wbox wd)) (H.length - 1, kp c) (H.length - 1, kt c) (H.length - 1, kl c) (H.length - 1, ka c) v (finR r0 acts s))) by
    obtain ⟨x, hx, r0, acts, s, v, wd, h1, h2, h3⟩ := hs
    exact ⟨r0, acts, s, v, wd, h1, h2, by rw [hx, h3]⟩
  refine call_enter KC needT Try.func12 rfl rfl good12 rfl rfl rfl (by simp) (by omega) ?_
  have hl : ∀ w, (H.set nm (wbox w)).length = H.length := fun w => Heap.length_set _ _ _
  -- the room
  obtain ⟨r0, wd1, hRB, eroom⟩ := roomOf_ok (c := 24) (H := [(6, zbox)] :: H) (nm := nm) (isBox_up hB0) (by simp [newKey]) (by simp [newKey]) (by simp [newKey]) (fun k e => hne (by rw [e]; simp))
  obtain ⟨n, hb, hn⟩ := RB_of hRB
  have k1 : newKey 24 46 = 188441 := by decide
  have k2 : newKey 24 83 = 339993 := by decide
  have k3 : newKey 24 96 = 393241 := by decide
  have f1 : newKey 26 22 = 90139 := by decide
  have f2 : newKey 26 27 = 110619 := by decide
  have f3 : newKey 26 53 = 217115 := by decide
  have hroom : apSet (Heap.set (Heap.set ([(6, zbox)] :: H.set nm (wbox wd1)) (H.length, 188441) (.arr 2 (r0.people.map Person.row) 0 false)) (H.length, 339993) (.arr 5 (r0.things.map Thing.row) 0 false)) (H.length, 393241) 1 (r0.lapses.map irow) = apF 393241 1 (r0.lapses.map irow) [(6, zbox), (188441, .arr 2 (r0.people.map Person.row) 0 false), (339993, .arr 5 (r0.things.map Thing.row) 0 false)] :: H.set nm (wbox wd1) := by
    unfold apSet apF
    by_cases hls : r0.lapses.map irow = []
    · rw [if_pos hls, if_pos hls]; simp [hl]
    · rw [if_neg hls, if_neg hls]; simp [hl]
  simp only [List.length_cons, Nat.add_sub_cancel, k1, k2, k3, Heap.set_up hlt, hroom] at eroom
  -- the first scene
  have efirst := firstB_ok (c := 26) (H := G2 H.length r0 :: H.set nm (wbox wd1)) (withA r0 []) (G2_rd (H := H.set nm (wbox wd1)) (hl _).symm hRB.seen) hRB.p0 hRB.t0 (by show r0.people.length ≤ _; have := hb.pl; omega) (by show r0.things.length ≤ _; have := hb.tl; omega) (by simp) (by simp [hl, f1, G2]) (by simp [hl, f2, G2]) (by simp [hl, f3, G2])
  have hfirst : scSet (G2 H.length r0 :: H.set nm (wbox wd1)) (H.length, 90139) (H.length, 110619) (H.length, 217115) 0 0 0 (firstV (withA r0 [])) = apF 393241 1 (r0.lapses.map irow) [(6, zbox), (7, riteB H.length r0 []), (90139, .arr 1 ((firstV r0).people.map irow) 0 false), (110619, .arr 2 ((firstV r0).hands.map Hands.row) 0 false), (188441, .arr 2 (r0.people.map Person.row) 0 false), (217115, .arr 2 ((firstV r0).things.map Spot.row) 0 false), (339993, .arr 5 (r0.things.map Thing.row) 0 false)] :: H.set nm (wbox wd1) := by
    show scSet _ _ _ _ 0 0 0 (firstV r0) = _
    simp [scSet, hl, G2]
  simp only [List.length_cons, Nat.add_sub_cancel, hl, f1, f2, f3, hfirst] at efirst
  obtain ⟨t, wd2, e2, ht⟩ := upR_get wd1 3 (by omega) (by omega)
  obtain ⟨i, wd3, e3, hi1, hi2⟩ := anyR_get wd2 N (by omega) (by omega)
  have hB := fun w f0 => box1 hlt w f0
  have hW := fun w f0 => word1 hlt w f0
  have e4 : riteG H.length r0 [] = roomG (H.length, 188441) (H.length, 339993) (H.length, 393241) r0 := rfl
  rw [e4] at efirst
  simp [zbox, roomG, scH, riteB, G2, apS_nil] at eroom efirst
  have RS : RSt H.length r0 0 2 (G4 H.length r0) [] (firstV r0) 0 t := ⟨G4_FI _ _, by omega, Made.first hRB (by omega), by simp, by omega⟩
  have L1 := fun Q => made_loop (H := H) hlt r0 n hb hn Q i 0 2 (G4 H.length r0) [] (firstV r0) 0 t wd3 (by omega) (by omega) (by omega) RS
  simp [mslots, G4, riteB, sceneB, key1, key2, key3, zbox, apS_nil] at L1
  simp [zbox, eroom, hl, efirst, up_ok, any_ok, hB, hW, hne, hlt, hle, Heap.set_up, e2, e3]
  refine L1 _ fun F1 acts1 s1 q1 t1 wd4 hR1 => ?_
  clear L1
  simp
  have L2 := fun Q => lays_loop (H := H.set nm (wbox wd4)) r0 n hb q1 Q r0.people.length 0 (2 * i) (2 + 2 * i) F1 acts1 s1 t1 (by omega) (by have := hb.pl; omega) (by have := hb.pl; omega) (by rw [hl]; exact hR1) (fun w' hd' h => absurd h (by omega))
  simp only [hl] at L2
  refine L2 _ fun F2 acts2 s2 t2 hR2 hz => ?_
  clear L2
  simp
  have L3 := fun Q => ends_loop (H := H.set nm (wbox wd4)) r0 n hb acts2 s2 q1 hR2.q2 hR2.md.snd.tl Q r0.things.length 0 F2 r0.things (by omega) (by
    rw [hl]
    exact ⟨hR2.fi.g6, hR2.fi.g7, hR2.fi.g8, hR2.fi.gp, hR2.fi.gl, hR2.fi.ga, hR2.fi.sc.h3, ⟨0, Nat.zero_le _, hR2.fi.gt⟩, rfl⟩) (by
    refine List.ext_getElem (by simp [finL]) fun j h1 h2 => ?_
    rw [finL_get _ _ _ _ h1, if_neg (by omega)])
  simp only [hl] at L3
  refine L3 _ fun F3 hF => ?_
  clear L3
  have g6 := hF.g6
  have g7 := hF.g7
  obtain ⟨v, hv, gt⟩ := hF.gt
  simp only [zbox, riteB] at g6 g7
  have p3 := hRB.p3
  have ml := hR2.ml
  have tT := hR2.tT
  have hRes : RiteB r0 acts2 s2 (2 * N + 6) := ⟨hRB, ⟨t2, hR2.md, by omega⟩, by omega, hz⟩
  simp [g6, g7, hl, Fr.get_ins]
  have gp' := hF.gp
  have gl' := hF.gl
  have ga' := hF.ga
  have q12 : kp c ≠ kt c := by unfold kp kt newKey; omega
  have q13 : kp c ≠ kl c := by unfold kp kl newKey; omega
  have q14 : kp c ≠ ka c := by unfold kp ka newKey; omega
  have q23 : kt c ≠ kl c := by unfold kt kl newKey; omega
  have q24 : kt c ≠ ka c := by unfold kt ka newKey; omega
  have q34 : kl c ≠ ka c := by unfold kl ka newKey; omega
  have nn : ∀ a b : Nat, a ≠ b → ((H.length - 1, b) : Nm) ≠ (H.length - 1, a) := fun a b h e => h (Prod.mk.inj e).2.symm
  have gg : ∀ (H' : Heap) (a b : Nat) (x : Blk), a ≠ b → (H'.set (H.length - 1, a) x).get (H.length - 1, b) = H'.get (H.length - 1, b) := fun H' a b x h => Heap.get_set_other x (nn a b h)
  have b0 : ∀ k, (H.set nm (wbox wd4)).get (H.length - 1, newKey c k) = H.get (H.length - 1, newKey c k) := fun k => Heap.get_set_other _ (fun e => hnk k e.symm)
  have c1 := (b0 188441).trans hf1
  have c2 := (b0 339993).trans hf2
  have c3 := (b0 393241).trans hf3
  have c4 := (b0 62).trans hf4
  have tl : (finL r0.things s2.things r0.things.length).length = r0.things.length := finL_len _ _ _
  suffices hs : ∀ x, gleave KC 12 c (.agg [.pure (.int .i64 r0.wide), .pure (.int .i64 r0.deep), .hdr (H.length, 188441) 2 r0.people.length 0 r0.people.length, .hdr (H.length, 339993) 5 r0.things.length 0 r0.things.length, .nils, apS (H.length, 393241) 1 (r0.lapses.map irow), apS (H.length, 62) 9 (acts2.map RAct.row)]) (F3.ins 6 x :: H.set nm (wbox wd4)) =
      some (riteV (H.length - 1, kp c) (H.length - 1, kt c) (H.length - 1, kl c) (H.length - 1, ka c) (finR r0 acts2 s2), riteH (H.set nm (wbox wd4)) (H.length - 1, kp c) (H.length - 1, kt c) (H.length - 1, kl c) (H.length - 1, ka c) v (finR r0 acts2 s2)) by
    rw [hs, WPv_some]
    exact ⟨r0, acts2, s2, hRes, v, by omega, wd4, rfl⟩
  intro x
  have e6 : ∀ k, k ≠ 6 → (F3.ins 6 x).get k = F3.get k := fun k h => Fr.get_ins_other _ h _
  have e1 := (e6 188441 (by decide)).trans gp'
  have e2 := (e6 339993 (by decide)).trans gt
  have e3 := fun h => (e6 393241 (by decide)).trans (gl' h)
  have e4 := fun h => (e6 62 (by decide)).trans (ga' h)
  simp only [finR, riteV, riteH, tl]
  generalize F3.ins 6 x = F5 at e1 e2 e3 e4
  have r1 : newKey c 188441 = kp c := rfl
  have r2 : newKey c 339993 = kt c := rfl
  have r3 : newKey c 393241 = kl c := rfl
  have r4 : newKey c 62 = ka c := rfl
  rw [r1] at c1
  rw [r2] at c2
  rw [r3] at c3
  rw [r4] at c4
  have d2 := fun x => (gg (H.set nm (wbox wd4)) _ _ x q12).trans c2
  have d3 := fun x y => (gg ((H.set nm (wbox wd4)).set (H.length - 1, kp c) x) _ _ y q23).trans ((gg (H.set nm (wbox wd4)) _ _ x q13).trans c3)
  have d4 := fun x y => (gg ((H.set nm (wbox wd4)).set (H.length - 1, kp c) x) _ _ y q24).trans ((gg (H.set nm (wbox wd4)) _ _ x q14).trans c4)
  have d5 := fun x y z => (gg (((H.set nm (wbox wd4)).set (H.length - 1, kp c) x).set (H.length - 1, kt c) y) _ _ z q34).trans (d4 x y)
  by_cases hls : r0.lapses = []
  · by_cases hac : acts2 = []
    · simp [hls, hac, apS_nil, gleave_keep, refs, refs2, refs1, dedup, moveOut, cleanBlk, hl, e1, e2, ren, ren2, ren1, apSet, r1, r2, r3, r4, c1, d2]
    · have e4' := e4 hac
      simp [hls, hac, apS, gleave_keep, refs, refs2, refs1, dedup, moveOut, cleanBlk, hl, e1, e2, e4', ren, ren2, ren1, apSet, r1, r2, r3, r4, c1, d2, d4]
  · have e3' := e3 hls
    by_cases hac : acts2 = []
    · simp [hls, hac, apS, gleave_keep, refs, refs2, refs1, dedup, moveOut, cleanBlk, hl, e1, e2, e3', ren, ren2, ren1, apSet, r1, r2, r3, r4, c1, d2, d3]
    · have e4' := e4 hac
      simp [hls, hac, apS, gleave_keep, refs, refs2, refs1, dedup, moveOut, cleanBlk, hl, e1, e2, e3', e4', ren, ren2, ren1, apSet, r1, r2, r3, r4, c1, d2, d3, d5]
end Go.Gh

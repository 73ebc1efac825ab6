/- The program's runs. -/
import Derived.Test.YtkcmcjohoockcaaRh
namespace Go.Gh
open Go.Proofs
set_option linter.unusedSimpArgs false
set_option linter.unusedVariables false
set_option linter.unnecessarySimpa false
set_option maxRecDepth 100000
set_option maxHeartbeats 4000000

variable {c : Nat} {H : Heap}

/-! ### what a run makes -/
def sameAt' (a : RAct) : RAct → Bool := fun b => b.at' == a.at'
/-- The scenes after each minute, the last one, the act that fails, the error. -/
noncomputable def runR (r : Rite) : Nat → Scene → List RAct → Nat → List Scene × Scene × Int × Int
  | 0, s, _, _ => ([], s, -1, 0)
  | _ + 1, s, [], _ => ([], s, -1, 0)
  | k + 1, s, a :: rest, i =>
    let g := (a :: rest).takeWhile (sameAt' a)
    let m := minR r s g [] s 0
    if m.2.2 ≠ 0 then ([], s, i + m.2.1, m.2.2)
    else let q := runR r k m.1 ((a :: rest).drop g.length) (i + g.length); (m.1 :: q.1, q.2)

def rnF (r : Rite) (s : Scene) : Fr := [(3, stbox r s), (6, zst)]

theorem to_loop {r : Rite} {s : Scene} (g : GV) (acts : List RAct) (hal : acts.length ≤ 1000000) (i : Nat) (hi : i < acts.length) (V : Heap) (hcl : ∀ f2, clean (f2 :: [] :: rnF r s :: V) (V.length + 1) g = g) (Q : GX → GSt → Prop) : ∀ k j : Nat, j + k = acts.length →
    Q (.exit 2) ⟨[(1, .pure (.slice (acts.map RAct.row))), (2, g), (3, .bptr (V.length, 3) 0), (6, .bptr (V.length, 6) 0), (9, .pure (.int .i64 i)), (10, .pure (.int .i64 ((j + ((acts.drop j).takeWhile (sameAt' acts[i])).length : Nat) : Int)))], [] :: rnF r s :: V, 64⟩ →
    WPL KC needT 73 (lp Try.f73 1) [1, 2, 3, 6, 9, 10] [1, 2, 3, 6, 9, 10] Q
      [(1, .pure (.slice (acts.map RAct.row))), (2, g), (3, .bptr (V.length, 3) 0), (6, .bptr (V.length, 6) 0), (9, .pure (.int .i64 i)), (10, .pure (.int .i64 j))] ([] :: rnF r s :: V) 64 := by
  intro k
  induction k with
  | zero =>
    intro j hj h1
    have e : acts.drop j = [] := List.drop_of_length_le (by omega)
    rw [e] at h1
    have hnl : ¬ j < acts.length := by omega
    apply WPL_step
    conv => arg 4; whnf
    simp [rnF] at hcl
    simp [hnl, rnF, hcl]
    simpa [rnF] using h1
  | succ k ih =>
    intro j hj h1
    have hja : j < acts.length := by omega
    have hw := w64 (x := (j : Int) + 1) (by omega) (by omega)
    have ed : acts.drop j = acts[j] :: acts.drop (j + 1) := List.drop_eq_getElem_cons hja
    rw [ed, List.takeWhile_cons] at h1
    simp [rnF] at hcl
    apply WPL_step
    conv => arg 4; whnf
    cases he : (acts[j].at' == acts[i].at') with
    | true =>
      rw [show sameAt' acts[i] acts[j] = true from he] at h1
      simp only [if_true, List.length_cons] at h1
      have ih' := ih (j + 1) (by omega) (by rw [show j + 1 + ((acts.drop (j + 1)).takeWhile (sameAt' acts[i])).length = j + (((acts.drop (j + 1)).takeWhile (sameAt' acts[i])).length + 1) by omega]; exact h1)
      simp [hja, hi, actRow, he, hw, rnF, hcl]
      simpa [rnF] using ih'
    | false =>
      rw [show sameAt' acts[i] acts[j] = false from he] at h1
      simp [hja, hi, actRow, he, rnF, hcl]
      simpa [rnF] using h1

theorem minR_good {r : Rite} {s : Scene} : ∀ {g p : List RAct} {tk : List (Int × Int)} {nx : Scene} {i : Nat}, TkOf s p tk → GOk r s p → nx = doG s p → (∀ a ∈ g, AB r a.who.toNat a) → (minR r s g tk nx i).2.2 = 0 → GOk r s (p ++ g) ∧ (minR r s g tk nx i).1 = doG s (p ++ g)
  | [], p, tk, nx, i, _, hG, hn, _, _ => by rw [List.append_nil]; exact ⟨hG, hn⟩
  | a :: g, p, tk, nx, i, hT, hG, hn, hA, h => by
    unfold minR at h ⊢
    split at h
    · simp at h
    · rename_i h1
      split at h
      · rename_i h2
        have h1' : posV r s a.who.toNat a = true := by simpa using h1
        have := minR_good (hT.snoc (a := a)) (hG.snoc hT (hA a (List.mem_cons_self ..)) h1' h2) (by rw [hn, doG_append]; rfl) (fun b hb => hA b (List.mem_cons_of_mem _ hb)) h
        rw [if_neg h1, if_pos h2]
        rwa [List.append_assoc, List.singleton_append] at this
      · simp at h
theorem minR_bad {r : Rite} {s : Scene} : ∀ {g : List RAct} {tk : List (Int × Int)} {nx : Scene} {i : Nat}, (minR r s g tk nx i).2.2 ≠ 0 → (minR r s g tk nx i).1 = s
  | [], _, _, _, h => absurd rfl h
  | a :: g, tk, nx, i, h => by
    unfold minR at h ⊢
    split
    · rfl
    · rename_i h1
      rw [if_neg h1] at h
      split
      · rename_i h2
        rw [if_pos h2] at h
        exact minR_bad h
      · rfl
theorem minR_rng {r : Rite} {s : Scene} : ∀ {g : List RAct} {tk : List (Int × Int)} {nx : Scene} {i : Nat}, 0 ≤ (minR r s g tk nx i).2.1 ∧ (minR r s g tk nx i).2.1 ≤ i + g.length
  | [], _, _, i => by simp [minR]
  | a :: g, tk, nx, i => by
    unfold minR
    split
    · simp only [List.length_cons]; omega
    · split
      · have := minR_rng (r := r) (s := s) (g := g) (tk := insTs tk (touchP s a.who.toNat a)) (nx := doV nx a.who.toNat a) (i := i + 1)
        simp only [List.length_cons]; omega
      · simp only [List.length_cons]; omega

theorem full_of {r : Rite} {s s' : Scene} (h : Snd r s) (h' : Snd r s') (hF : Full s) : Full s' := by
  have e1 := h'.pl.trans h.pl.symm
  have e2 := h'.hl.trans h.hl.symm
  have e3 := h'.tl.trans h.tl.symm
  have a1 := List.length_pos_iff.2 hF.p0
  have a2 := List.length_pos_iff.2 hF.h0
  have a3 := List.length_pos_iff.2 hF.t0
  have := hF.pl
  have := hF.hl
  have := hF.tl
  exact ⟨List.length_pos_iff.1 (by omega), List.length_pos_iff.1 (by omega), List.length_pos_iff.1 (by omega), by omega, by omega, by omega⟩

theorem run_loop {r : Rite} (hW : WB r) (g : GV) (acts : List RAct) (hal : acts.length ≤ 1000000) (hA : ∀ a ∈ acts, AB r a.who.toNat a) (V : List Scene → Heap) (LV : Nat) (hV : ∀ l, (V l).length = LV) (hV0 : 0 < LV)
    (hcl0 : ∀ f1 f0 l, clean (f1 :: f0 :: V l) LV g = g) (hcl1 : ∀ f2 f1 f0 l, clean (f2 :: f1 :: f0 :: V l) (LV + 1) g = g)
    (hsee : ∀ l s' c f1 f0, l.length ≤ 1000001 → Snd r s' → Full s' → gcallee KC (geval KC) g [.pure (.agg (stRow r s'))] c (f1 :: f0 :: V l) = some (.pure (.tuple []), f1 :: f0 :: V (l ++ [s'])))
    (Q : GX → GSt → Prop) : ∀ (k i : Nat) (s : Scene) (l : List Scene), acts.length - i ≤ k → i ≤ acts.length → l.length ≤ i + 1 → Snd r s → Full s →
    ((runR r k s (acts.drop i) i).2.2.2 = 0 → Q (.exit 0) ⟨[(3, .bptr (LV, 3) 0), (6, .bptr (LV, 6) 0), (7, gdead), (8, gdead)], rnF r (runR r k s (acts.drop i) i).2.1 :: V (l ++ (runR r k s (acts.drop i) i).1), 64⟩) →
    ((runR r k s (acts.drop i) i).2.2.2 ≠ 0 → ∀ s', Q .ret ⟨[(3, .bptr (LV, 3) 0), (6, .bptr (LV, 6) 0), (7, .pure (.int .i64 (runR r k s (acts.drop i) i).2.2.1)), (8, .pure (.int .i64 (runR r k s (acts.drop i) i).2.2.2))], [(3, stbox r s'), (6, stbox r (runR r k s (acts.drop i) i).2.1)] :: V (l ++ (runR r k s (acts.drop i) i).1), 64⟩) →
    WPL KC needT 73 (lp Try.f73 0) [1, 2, 3, 6, 9] [3, 6, 7, 8] Q
      [(1, .pure (.slice (acts.map RAct.row))), (2, g), (3, .bptr (LV, 3) 0), (6, .bptr (LV, 6) 0), (9, .pure (.int .i64 i))] (rnF r s :: V l) 64 := by
  intro k
  induction k with
  | zero =>
    intro i s l hk hi hll hS hF h1 h2
    have hnl : ¬ i < acts.length := by omega
    have e : i = acts.length := by omega
    apply WPL_step
    conv => arg 4; whnf
    simp [runR] at h1
    simp [hnl, hV, rnF]
    simpa [rnF] using h1
  | succ k ih =>
    intro i s l hk hi hll hS hF h1 h2
    by_cases hia : i < acts.length
    · have ed : acts.drop i = acts[i] :: acts.drop (i + 1) := List.drop_eq_getElem_cons hia
      obtain ⟨a, ha⟩ : ∃ a, acts[i] = a := ⟨_, rfl⟩
      rw [ha] at ed
      obtain ⟨gr, hgr⟩ : ∃ gr, (a :: acts.drop (i + 1)).takeWhile (sameAt' a) = gr := ⟨_, rfl⟩
      have hg1 : 1 ≤ gr.length := by
        rw [← hgr, List.takeWhile_cons, show sameAt' a a = true from by simp [sameAt']]
        simp
      have hgp : gr <+: acts.drop i := by rw [ed, ← hgr]; exact List.takeWhile_prefix _
      have hgl : i + gr.length ≤ acts.length := by have := hgp.length_le; simp at this; omega
      have hgt : gr = (acts.drop i).take gr.length := List.prefix_iff_eq_take.1 hgp
      have hsl : List.drop i (List.take (i + gr.length) (acts.map RAct.row)) = gr.map RAct.row := by
        rw [← List.map_take, ← List.map_drop]
        congr 1
        rw [List.drop_take, Nat.add_sub_cancel_left]
        exact hgt.symm
      have hgA : ∀ b ∈ gr, AB r b.who.toNat b := fun b hb => hA b (List.mem_of_mem_drop (hgp.subset hb))
      have hgal : gr.length ≤ 1000000 := by omega
      have M := fun c (H : Heap) (hH : 0 < H.length) => minute_ok (c := c) (H := H) hS hW hF gr hgal hgA hH
      obtain ⟨m, hm⟩ : ∃ m, minR r s gr [] s 0 = m := ⟨_, rfl⟩
      have hbad := minR_bad (r := r) (s := s) (g := gr) (tk := []) (nx := s) (i := 0)
      have hgood := minR_good (r := r) (s := s) (g := gr) (p := []) (tk := []) (nx := s) (i := 0) (fun x => by simp) ⟨fun a ha => by simp at ha, by simp⟩ rfl hgA
      have hrng := minR_rng (r := r) (s := s) (g := gr) (tk := []) (nx := s) (i := 0)
      rw [hm] at M hbad hgood hrng
      rw [ed] at h1 h2
      unfold runR at h1 h2
      simp only [hgr, hm] at h1 h2
      have L1 := fun Q => to_loop (r := r) (s := s) g acts hal i hia (V l) (fun f2 => by rw [hV]; exact hcl1 _ _ _ _) Q (acts.length - i) i (by omega)
      rw [ed, ha, hgr] at L1
      simp only [hV, rnF] at L1
      have hc0 := hcl0
      obtain ⟨e, hee⟩ : ∃ e, i + gr.length = e := ⟨_, rfl⟩
      rw [hee] at L1 hsl hgl
      have hle : ¬ (e : Int) < (i : Int) := by omega
      have hle2 : i ≤ e := by omega
      have hmin : min e acts.length = e := by omega
      have hrl : ∀ x : RAct, x.row.length = 9 := fun _ => rfl
      obtain ⟨x1, x2, x3⟩ := m
      simp only at hbad hgood hrng h1 h2 M
      have hw := w64 (x := (i : Int) + x2) (by omega) (by omega)
      apply WPL_step
      conv => arg 4; whnf
      simp [hia, hV, rnF]
      refine L1 _ ?_
      clear L1
      simp only [stbox, zst]
      simp only [stRow] at M
      by_cases he : x3 = 0
      · subst he
        obtain ⟨hG, hx1⟩ := hgood rfl
        have hS1 : Snd r x1 := by rw [hx1]; exact hG.snd hS
        have hF1 := full_of hS hS1 hF
        simp only [ne_eq, not_true_eq_false, if_false] at h1 h2
        have edr : (a :: acts.drop (i + 1)).drop gr.length = acts.drop (i + gr.length) := by rw [← ed, List.drop_drop]
        rw [edr, hee] at h1 h2
        have ih' := ih e x1 (l ++ [x1]) (by omega) hgl (by simp; omega) hS1 hF1 (fun h => by rw [List.append_assoc]; exact h1 h) (fun h s' => by rw [List.append_assoc]; exact h2 h s')
        have SE := fun c f1 f0 => hsee l x1 c f1 f0 (by omega) hS1 hF1
        simp only [stRow] at SE
        simp only [rnF, stbox, zst] at ih'
        simp [hV, hle, hle2, hgl, hmin, hsl, hrl, M, SE, splice, hcl0]
        exact ih'
      · have hx1 := hbad he
        have he' : (x3 != 0) = true := by simpa using he
        simp only [ne_eq, he, not_false_eq_true, if_true] at h2
        have h2' := h2 trivial s
        simp only [stbox, List.append_nil] at h2'
        simp only [hx1] at M
        simp [hV, hle, hle2, hgl, hmin, hsl, hrl, M, he', splice, hw]
        exact h2'
    · have e : acts.drop i = [] := List.drop_of_length_le (by omega)
      rw [e] at h1
      apply WPL_step
      conv => arg 4; whnf
      simp [runR] at h1
      simp [hia, hV, rnF]
      simpa [rnF] using h1
end Go.Gh


/- The program's runs, the whole; its scenes. -/
namespace Go.Gh
open Go.Proofs
set_option linter.unusedSimpArgs false
set_option linter.unusedVariables false
set_option linter.unnecessarySimpa false
set_option maxRecDepth 100000
set_option maxHeartbeats 4000000

variable {c : Nat} {H : Heap}

/-- What sees stages: its value, the heap below with what was seen. -/
structure See (r : Rite) (g : GV) (V : List Scene → Heap) (LV : Nat) : Prop where
  len : ∀ l, (V l).length = LV
  pos : 0 < LV
  can : canon g = g
  frz : ∀ H, frzVal H g = (g, H)
  cl : ∀ (fs : List Fr) l n, LV - 1 ≤ n → clean (fs ++ V l) n g = g
  see : ∀ (fs : List Fr) l s' c, fs ≠ [] → l.length ≤ 1000001 → Snd r s' → Full s' → gcallee KC (geval KC) g [.pure (.agg (stRow r s'))] c (fs ++ V l) = some (.pure (.tuple []), fs ++ V (l ++ [s']))

theorem run_ok0 {r : Rite} (hW : WB r) {g : GV} {V : List Scene → Heap} {LV : Nat} (hg : See r g V LV) (acts : List RAct) (hal : acts.length ≤ 1000000) (hA : ∀ a ∈ acts, AB r a.who.toNat a) {s : Scene} (hS : Snd r s) (hF : Full s) :
    gcall0 KC (geval KC) 73 [.pure (.agg (stRow r s)), .pure (.slice (acts.map RAct.row)), g] c (V []) =
      some (.pure (.tuple [.agg (stRow r (runR r acts.length s acts 0).2.1), .int .i64 (runR r acts.length s acts 0).2.2.1, .int .i64 (runR r acts.length s acts 0).2.2.2]), V (s :: (runR r acts.length s acts 0).1)) := by
  have hV := hg.len
  refine WPv_eq (call_enter0 KC needT Try.func73 rfl rfl good73 (by simp) (by rw [hV]; exact hg.pos) ?_)
  have hc := hg.can
  have S1 := fun (f0 : Fr) c => hg.see [f0] [] s c (by simp) (by simp) hS hF
  simp only [List.cons_append, List.nil_append] at S1
  have L1 := fun Q => run_loop hW g acts hal hA V LV hV hg.pos (fun f1 f0 l => hg.cl [f1, f0] l LV (by omega)) (fun f2 f1 f0 l => hg.cl [f2, f1, f0] l (LV + 1) (by omega)) (fun l s' c f1 f0 hl h1 h2 => hg.see [f1, f0] l s' c (by simp) hl h1 h2) Q acts.length 0 s [s] (by omega) (by omega) (by simp) hS hF
  simp only [List.drop_zero] at L1
  simp only [rnF, stbox, zst, stRow] at L1 S1 ⊢
  simp [hV, hc, S1]
  simp at L1
  refine L1 _ (fun h => ?_) (fun h s' => ?_)
  · have hat : ∀ k i s acts, (runR r k s acts i).2.2.2 = 0 → (runR r k s acts i).2.2.1 = -1 := by
      intro k
      induction k with
      | zero => intro i s acts h; rfl
      | succ k ih =>
        intro i s acts h
        cases acts with
        | nil => rfl
        | cons a rest =>
          unfold runR at h ⊢
          simp only at h ⊢
          split at h
          · rename_i h1; exact absurd h h1
          · rename_i h1
            rw [if_neg h1]
            exact ih _ _ _ h
    have e1 := hat _ _ _ _ h
    simp [hV, splice]
    rw [gleave_free (by simp)]
    simp [h, e1]
  · simp [hV, splice]
    rw [gleave_free (by simp)]
    simp

/-- What the run of a rite makes that was checked. -/
noncomputable def accR (r : Rite) : List Scene × Scene × Int × Int :=
  let q := runR r r.acts.length (firstV r) r.acts 0
  (firstV r :: q.1, q.2.1, if q.2.2.2 = 0 ∧ ordV r q.2.1 = false then ((r.acts.length : Int), 11) else q.2.2)

theorem runR_snd {r : Rite} : ∀ (k : Nat) (s : Scene) (acts : List RAct) (i : Nat), Snd r s → (∀ a ∈ acts, AB r a.who.toNat a) → Snd r (runR r k s acts i).2.1 ∧ ∀ s' ∈ (runR r k s acts i).1, Snd r s'
  | 0, s, _, _, hS, _ => ⟨hS, fun _ h => by simp [runR] at h⟩
  | _ + 1, s, [], _, hS, _ => ⟨hS, fun _ h => by simp [runR] at h⟩
  | k + 1, s, a :: rest, i, hS, hA => by
    unfold runR
    simp only
    split
    · exact ⟨hS, fun _ h => by simp at h⟩
    · rename_i h
      have h' : (minR r s ((a :: rest).takeWhile (sameAt' a)) [] s 0).2.2 = 0 := by simpa using h
      have hgA : ∀ b ∈ (a :: rest).takeWhile (sameAt' a), AB r b.who.toNat b := fun b hb => hA b ((List.takeWhile_prefix _).subset hb)
      obtain ⟨hG, e⟩ := minR_good (r := r) (s := s) (p := []) (tk := []) (nx := s) (i := 0) (fun x => by simp) ⟨fun a ha => by simp at ha, by simp⟩ rfl hgA h'
      have hS1 : Snd r (minR r s ((a :: rest).takeWhile (sameAt' a)) [] s 0).1 := by rw [e]; exact hG.snd hS
      have := runR_snd k _ ((a :: rest).drop ((a :: rest).takeWhile (sameAt' a)).length) (i + ((a :: rest).takeWhile (sameAt' a)).length) hS1 (fun b hb => hA b (List.mem_of_mem_drop hb))
      refine ⟨this.1, fun s' hs' => ?_⟩
      rcases List.mem_cons.1 hs' with rfl | hs'
      · exact hS1
      · exact this.2 s' hs'
theorem See.up {r : Rite} {g : GV} {V : List Scene → Heap} {LV : Nat} (h : See r g V LV) (F : Fr) : See r g (fun l => F :: V l) (LV + 1) where
  len := fun l => by simp [h.len]
  pos := by omega
  can := h.can
  frz := h.frz
  cl := fun fs l n hn => by
    have := h.cl (fs ++ [F]) l n (by omega)
    simpa using this
  see := fun fs l s' c hf hl h1 h2 => by
    have := h.see (fs ++ [F]) l s' c (by simp) hl h1 h2
    simpa using this

theorem gcall_frz {K : Ctx} {rec : Rec} {f : FuncId} {args : List GV} (h1 : K.cln f = false) (h2 : K.bor f = false) (h3 : K.frz f = true) : gcall K rec f args c H = gcall0 K rec f (frzVals H args).1 c (frzVals H args).2 := by
  unfold gcall
  simp [h1, h2, h3]

def acF (r : Rite) (s : Scene) (ro : Bool) : Fr := [(2, rbox r), (4, zst), (94221, .arr 1 (s.people.map irow) 0 ro), (126989, .arr 2 (s.hands.map Hands.row) 0 ro), (208909, .arr 2 (s.things.map Spot.row) 0 ro)]
theorem acF_frz {r : Rite} {s : Scene} {G : Heap} {args : List GV} (hargs : ∀ H, frzVals H args = (args, H)) : frzVals (acF r s false :: G) (stG r (G.length, 94221) (G.length, 126989) (G.length, 208909) s :: args) = (.pure (.agg (stRow r s)) :: args, acF r s true :: G) := by
  have p : frzVal (acF r s false :: G) (stG r (G.length, 94221) (G.length, 126989) (G.length, 208909) s) = (.pure (.agg (stRow r s)), acF r s true :: G) := by
    unfold stG frzVal
    simp [frzCells, frzCell, acF, stRow]
    refine ⟨List.take_of_length_le (by simp), List.take_of_length_le (by simp), List.take_of_length_le (by simp)⟩
  unfold frzVals
  rw [p]
  simp only [hargs]

theorem accepted_ok0 {r : Rite} (hW : WB r) (hS : Snd r (firstV r)) (hp0 : r.people ≠ []) (ht0 : r.things ≠ []) (hal : r.acts.length ≤ 1000000) (hA : ∀ a ∈ r.acts, AB r a.who.toNat a) {g : GV} {V : List Scene → Heap} {LV : Nat} (hg : See r g V LV) :
    gcall0 KC (geval KC) 50 [.pure (.agg r.row), g] c (V []) =
      some (.pure (.tuple [.agg (stRow r (accR r).2.1), .int .i64 (accR r).2.2.1, .int .i64 (accR r).2.2.2]), V (accR r).1) := by
  have hV := hg.len
  have hF : Full (firstV r) := ⟨by simpa [firstV] using hp0, by simpa [firstV] using hp0, by simpa [firstV] using ht0, by simp [firstV]; exact hW.pl, by simp [firstV]; exact hW.pl, by simp [firstV]; exact hW.tl⟩
  refine WPv_eq (call_enter0 KC needT Try.func50 rfl rfl good50 (by simp) (by rw [hV]; exact hg.pos) ?_)
  have k1 : newKey 12 23 = 94221 := by decide
  have k2 : newKey 12 31 = 126989 := by decide
  have k3 : newKey 12 51 = 208909 := by decide
  have C := firstP_ok (c := 12) (H := [(2, rbox r), (4, zst)] :: V []) r hp0 ht0 hW.pl hW.tl (by simp) (by simp [k1]) (by simp [k2]) (by simp [k3])
  simp only [List.length_cons, Nat.add_sub_cancel, k1, k2, k3, hV] at C
  have hC : scSet ([(2, rbox r), (4, zst)] :: V []) (LV, 94221) (LV, 126989) (LV, 208909) 0 0 0 (firstV r) = acF r (firstV r) false :: V [] := by
    simp [scSet, acF, hV]
  rw [hC] at C
  have R := run_ok0 (c := 16) hW (hg.up (acF r (firstV r) true)) r.acts hal hA hS hF
  have fz : ∀ H, frzVals H [.pure (.slice (r.acts.map RAct.row)), g] = ([.pure (.slice (r.acts.map RAct.row)), g], H) := fun H => by simp [frzVals, hg.frz]
  have R2 : gcall KC (geval KC) 73 [stG r (LV, 94221) (LV, 126989) (LV, 208909) (firstV r), .pure (.slice (r.acts.map RAct.row)), g] 16 (acF r (firstV r) false :: V []) =
      some (.pure (.tuple [.agg (stRow r (runR r r.acts.length (firstV r) r.acts 0).2.1), .int .i64 (runR r r.acts.length (firstV r) r.acts 0).2.2.1, .int .i64 (runR r r.acts.length (firstV r) r.acts 0).2.2.2]), acF r (firstV r) true :: V (firstV r :: (runR r r.acts.length (firstV r) r.acts 0).1)) := by
    rw [gcall_frz rfl rfl rfl]
    have e := acF_frz (r := r) (s := firstV r) (G := V []) (args := [.pure (.slice (r.acts.map RAct.row)), g]) fz
    rw [hV] at e
    rw [e]
    exact R
  have hc := hg.can
  obtain ⟨q, hq⟩ : ∃ q, runR r r.acts.length (firstV r) r.acts 0 = q := ⟨_, rfl⟩
  have ha : accR r = (firstV r :: q.1, q.2.1, if q.2.2.2 = 0 ∧ ordV r q.2.1 = false then ((r.acts.length : Int), 11) else q.2.2) := by unfold accR; simp only [hq]
  rw [hq] at R2
  rw [ha]
  have hSq := runR_snd r.acts.length (firstV r) r.acts 0 hS hA
  rw [hq] at hSq
  obtain ⟨l, s, at', e⟩ := q
  simp only at hSq R2 ⊢
  have OR := fun c (H : Heap) (hH : 0 < H.length) => ordered_ok (c := c) (H := H) r s hW.tl (by rw [hSq.1.hl]; exact hW.pl) hSq.1.tl hH
  rw [rowR] at C ⊢
  simp only [stG, stRow, rbox, zst, acF] at C R2 OR ⊢
  by_cases he : e = 0
  · subst he
    cases ho : ordV r s with
    | true =>
      rw [ho] at OR
      simp [C, R2, OR, hV, hc, splice]
      rw [gleave_free (by simp)]
      simp
    | false =>
      rw [ho] at OR
      simp [C, R2, OR, hV, hc, splice]
      rw [gleave_free (by simp)]
      simp
  · have he' : (e == 0) = false := by simpa using he
    simp [C, R2, hV, hc, he, he', splice]
    rw [gleave_free (by simp)]
    simp
end Go.Gh


/- The program's Run and Scenes. -/
namespace Go.Gh
open Go.Proofs
set_option linter.unusedSimpArgs false
set_option linter.unusedVariables false
set_option linter.unnecessarySimpa false
set_option maxRecDepth 100000
set_option maxHeartbeats 4000000

variable {c : Nat} {H : Heap}

theorem get_app {nm : Nm} : ∀ (fs : List Fr) (G : Heap), nm.1 < G.length → Heap.get (fs ++ G) nm = Heap.get G nm
  | [], G, _ => rfl
  | f :: fs, G, h => by
    have ne : ¬ nm.1 = (fs ++ G).length := by simp; omega
    rw [List.cons_append, Heap.get_cons', if_neg ne]
    exact get_app fs G h
theorem set_app {nm : Nm} {b : Blk} : ∀ (fs : List Fr) (G : Heap), nm.1 < G.length → Heap.set (fs ++ G) nm b = fs ++ Heap.set G nm b
  | [], G, _ => rfl
  | f :: fs, G, h => by
    have ne : ¬ nm.1 = (fs ++ G).length := by simp; omega
    rw [List.cons_append, Heap.set_cons', if_neg ne, List.cons_append]
    rw [set_app fs G h]

/-! ### who sees nothing -/
theorem blind_see (r : Rite) (G : Heap) (hG : 0 < G.length) : See r (.pure (.fn 54)) (fun _ => G) G.length where
  len := fun _ => rfl
  pos := hG
  can := rfl
  frz := fun _ => rfl
  cl := fun fs l n _ => by simp
  see := fun fs l s' c hf _ _ _ => by
    rw [gcallee_fn]
    refine WPv_eq (call_enter KC needT Try.func54 rfl rfl good54 rfl rfl rfl (by simp) (by simp; omega) ?_)
    unfold stRow
    simp
    rw [gleave_free (by simp)]
    simp

/-! ### who keeps what was seen -/
def seenF (r : Rite) (L : Nat) (l : List Scene) : Fr := apF 8 3 (l.map Scene.row) [(1, rbox r), (5, .box [apS (L, 8) 3 (l.map Scene.row)])]
theorem list_see (r : Rite) (H : Heap) : See r (.func 51 [] [.bptr (H.length, 5) 0]) (fun l => seenF r H.length l :: H) (H.length + 1) where
  len := fun _ => by simp
  pos := by omega
  can := rfl
  frz := fun _ => rfl
  cl := fun fs l n hn => by
    have : H.length ≤ n := by omega
    simp [this]
  see := fun fs l s' c hf hl hS hF => by
    rw [gcallee_func]
    refine WPv_eq (call_enter KC needT Try.func51 rfl rfl good51 rfl rfl rfl (by simp) (by simp; omega) ?_)
    obtain ⟨G, hG⟩ : ∃ G, fs ++ seenF r H.length l :: H = G := ⟨_, rfl⟩
    have hGl : H.length < G.length := by rw [← hG]; simp; omega
    have g5 : Heap.get G (H.length, 5) = some (.box [apS (H.length, 8) 3 (l.map Scene.row)]) := by
      rw [← hG, get_app _ _ (by simp)]
      simp [seenF]
    have g8 : l.map Scene.row ≠ [] → Heap.get G (H.length, 8) = some (.arr 3 (l.map Scene.row) 0 false) := fun h => by
      rw [← hG, get_app _ _ (by simp)]
      simp only [Heap.get_cons', if_true, seenF]
      exact apF_self h
    have g80 : l.map Scene.row = [] → Heap.get G (H.length, 8) = none := fun h => by
      rw [← hG, get_app _ _ (by simp)]
      simp only [Heap.get_cons', if_true, seenF, h, apF_nil]
      simp
    have hset : Heap.set (Heap.set G (H.length, 8) (.arr 3 ((l ++ [s']).map Scene.row) 0 false)) (H.length, 5) (.box [apS (H.length, 8) 3 ((l ++ [s']).map Scene.row)]) = fs ++ seenF r H.length (l ++ [s']) :: H := by
      rw [← hG, set_app _ _ (by simp), set_app _ _ (by simp [Heap.length_set])]
      congr 1
      have hne : (l ++ [s']).map Scene.row ≠ [] := by simp
      simp only [Heap.set_cons', if_true, seenF]
      congr 1
      rw [apF_ins_self]
      unfold apF
      rw [if_neg hne]
      simp
    have k1 : newKey 5 28679 = 117469190 := by decide
    have k2 : newKey 5 28683 = 117485574 := by decide
    have k3 : newKey 5 28687 = 117501958 := by decide
    have C := copied_ok (c := 5) (H := [(2, stbox r s')] :: G) r hF (by simp) (by simp [k1]) (by simp [k2]) (by simp [k3])
    simp only [List.length_cons, Nat.add_sub_cancel, k1, k2, k3] at C
    rw [← hset]
    have ne : ¬ H.length = G.length := by omega
    have b1 : (l.length + 1) * 72 ≤ 1099511627776 := by omega
    have AP := fun (F : Fr) => apK_apS (H' := F :: G) (l := H.length) (key := 8) (es := 3) (bytes := 72) (rows := l.map Scene.row) (r := s'.row) (fun h => by simp [ne, g80 h]) (fun h => by simp [ne, g8 h]) (by simp; omega) (by simpa using b1)
    simp only [stbox, stRow, stG, scSet] at C ⊢
    simp [ne] at AP C
    simp [Scene.row] at AP
    have t1 : List.take s'.people.length (s'.people.map irow) = s'.people.map irow := List.take_of_length_le (by simp)
    have t2 : List.take s'.hands.length (s'.hands.map Hands.row) = s'.hands.map Hands.row := List.take_of_length_le (by simp)
    have t3 : List.take s'.things.length (s'.things.map Spot.row) = s'.things.map Spot.row := List.take_of_length_le (by simp)
    have g5' : ∀ b, (Heap.set G (H.length, 8) b).get (H.length, 5) = some (.box [apS (H.length, 8) 3 (l.map Scene.row)]) := fun b => (Heap.get_set_other b (fun e => by have := (Prod.mk.inj e).2; omega)).trans g5
    have hGl' : (Heap.set G (H.length, 8) (.arr 3 (l.map Scene.row ++ [s'.row]) 0 false)).length = G.length := Heap.length_set _ _ _
    have rs : s'.row = [PV.slice (s'.people.map irow), PV.slice (s'.hands.map Hands.row), PV.slice (s'.things.map Spot.row)] := rfl
    simp [hG, ne, g5, C, t1, t2, t3, AP, g5', splice]
    rw [gleave_free (by simp)]
    simp [rs]
end Go.Gh


/- The program's Run and Scenes, the whole. -/
namespace Go.Gh
open Go.Proofs
set_option linter.unusedSimpArgs false
set_option linter.unusedVariables false
set_option linter.unnecessarySimpa false
set_option maxRecDepth 100000
set_option maxHeartbeats 4000000

variable {c : Nat} {H : Heap}

/-- A rite that may be run. -/
structure Runs (r : Rite) : Prop where
  w : WB r
  snd : Snd r (firstV r)
  p0 : r.people ≠ []
  t0 : r.things ≠ []
  al : r.acts.length ≤ 1000000
  ab : ∀ a ∈ r.acts, AB r a.who.toNat a
  sh : Short r
  ck : checkF r = 0

theorem Run_ok0 {r : Rite} (h : Runs r) (hH : 0 < H.length) :
    gcall0 KC (geval KC) 20 [.pure (.agg r.row)] c H =
      some (.pure (.tuple (if (accR r).2.2.2 = 0 then [.agg (accR r).2.1.row, .int .i64 (-1), .int .i64 0] else [.agg [.slice [], .slice [], .slice []], .int .i64 (accR r).2.2.1, .int .i64 (accR r).2.2.2])), H) := by
  refine WPv_eq (call_enter0 KC needT Try.func20 rfl rfl good20 (by simp) hH ?_)
  have C := fun c (H : Heap) (hH : 0 < H.length) => check_ok (c := c) (H := H) r h.sh.s h.sh.l h.sh.p h.sh.t h.sh.a hH
  rw [h.ck] at C
  have A := fun (F : Fr) => accepted_ok0 (c := 15) h.w h.snd h.p0 h.t0 h.al h.ab (blind_see r (F :: H) (by simp))
  have A2 : ∀ F : Fr, gcall KC (geval KC) 50 [.pure (.agg r.row), .pure (.fn 54)] 15 (F :: H) = some (.pure (.tuple [.agg (stRow r (accR r).2.1), .int .i64 (accR r).2.2.1, .int .i64 (accR r).2.2.2]), F :: H) := fun F => by
    rw [gcall_frz rfl rfl rfl]
    have : frzVals (F :: H) [.pure (.agg r.row), .pure (.fn 54)] = ([.pure (.agg r.row), .pure (.fn 54)], F :: H) := rfl
    rw [this]
    exact A F
  generalize accR r = q at A2 ⊢
  obtain ⟨l, s, at', e⟩ := q
  simp only [stRow] at A2
  rw [rowR] at C A2 ⊢
  unfold Scene.row
  by_cases he : e = 0
  · subst he
    simp [C, A2, splice]
    rw [gleave_free (by simp)]
    simp
  · have he' : (e != 0) = true := by simpa using he
    simp [C, A2, he, he', splice]
    rw [gleave_free (by simp)]
    simp

theorem Scenes_ok0 {r : Rite} (h : Runs r) (hH : 0 < H.length) :
    gcall0 KC (geval KC) 18 [.pure (.agg r.row)] c H =
      some (.pure (.tuple (if (accR r).2.2.2 = 0 then [.slice ((accR r).1.map Scene.row), .int .i64 0] else [.slice [], .int .i64 (accR r).2.2.2])), H) := by
  refine WPv_eq (call_enter0 KC needT Try.func18 rfl rfl good18 (by simp) hH ?_)
  have C := fun c (H : Heap) (hH : 0 < H.length) => check_ok (c := c) (H := H) r h.sh.s h.sh.l h.sh.p h.sh.t h.sh.a hH
  rw [h.ck] at C
  have A := accepted_ok0 (c := 17) h.w h.snd h.p0 h.t0 h.al h.ab (list_see r H)
  have A2 : gcall KC (geval KC) 50 [.pure (.agg r.row), .func 51 [] [.bptr (H.length, 5) 0]] 17 (seenF r H.length [] :: H) = some (.pure (.tuple [.agg (stRow r (accR r).2.1), .int .i64 (accR r).2.2.1, .int .i64 (accR r).2.2.2]), seenF r H.length (accR r).1 :: H) := by
    rw [gcall_frz rfl rfl rfl]
    have : frzVals (seenF r H.length [] :: H) [.pure (.agg r.row), .func 51 [] [.bptr (H.length, 5) 0]] = ([.pure (.agg r.row), .func 51 [] [.bptr (H.length, 5) 0]], seenF r H.length [] :: H) := rfl
    rw [this]
    exact A
  have hne : (accR r).1 ≠ [] := by unfold accR; simp
  generalize accR r = q at A2 hne ⊢
  obtain ⟨l, s, at', e⟩ := q
  simp only at hne
  have hl : l.map Scene.row ≠ [] := by simpa using hne
  obtain ⟨F, hF⟩ : ∃ F, seenF r H.length l = F := ⟨_, rfl⟩
  have f6 : F.get 6 = none := by rw [← hF]; unfold seenF; rw [apF_get (by decide)]; simp
  have f5 : F.get 5 = some (.box [.hdr (H.length, 8) 3 l.length 0 l.length]) := by rw [← hF]; unfold seenF; rw [apF_get (by decide), apS, if_neg hl]; simp
  have f8 : F.get 8 = some (.arr 3 (l.map Scene.row) 0 false) := by rw [← hF]; unfold seenF; rw [apF_self hl]
  simp only [stRow] at A2
  rw [hF] at A2
  simp only [seenF, List.map_nil, apS_nil, apF_nil, rbox] at A2
  rw [rowR] at C A2 ⊢
  have F5 : ∀ x : Blk, (F.ins 6 x).get 5 = some (.box [.hdr (H.length, 8) 3 l.length 0 l.length]) := fun x => (Fr.get_ins_other _ (by decide) _).trans f5
  have F8 : ∀ x : Blk, (F.ins 6 x).get 8 = some (.arr 3 (l.map Scene.row) 0 false) := fun x => (Fr.get_ins_other _ (by decide) _).trans f8
  have hnl : ¬ H.length ≤ H.length - 1 := by omega
  have tk : List.take l.length (l.map Scene.row) = l.map Scene.row := List.take_of_length_le (by simp)
  by_cases he : e = 0
  · subst he
    simp [C, A2, f6, F5, splice, Fr.get_ins, Fr.ins_ins]
    rw [gleave_free (by simp)]
    simp [hnl, F8, tk]
  · have he' : (e != 0) = true := by simpa using he
    simp [C, A2, f6, F5, he, he', splice, Fr.get_ins, Fr.ins_ins]
    rw [gleave_free (by simp)]
    simp
end Go.Gh

/- Texts joined: the evaluator over ghost values, its soundness, the walks. -/
import Derived.Test.YtkcmcjohoockcaaGreatGc3i
import Derived.Test.YtkcmcjohoockcaaGreatGc3h
import Derived.Test.YtkcmcjohoockcaaGreatGc3d
import Derived.ProofKit
import Derived.OpenShut
import Derived.ChangeOld
import Derived.Below
import Derived.Carry
namespace Go.Gh
open Go.Proofs
set_option linter.unusedVariables false
set_option linter.unusedSimpArgs false
set_option linter.unnecessarySimpa false
set_option maxRecDepth 100000
set_option maxHeartbeats 8000000
section
variable {c : Nat} {H : Heap}
structure See (r : Rite) (g : GV) (V : List Scene → Heap) (LV : Nat) : Prop where
 len : ∀ l, (V l).length = LV
 pos : 0 < LV
 can : canon g = g
 frz : ∀ H, frzVal H g = (g, H)
 cl : ∀ (fs : List Fr) l n, LV - 1 ≤ n → clean (fs ++ V l) n g = g
 see : ∀ (fs : List Fr) l s' c, fs ≠ [] → l.length ≤ 1000001 → Snd r s' → Full s' → gcallee KC (geval KC) g [.pure (.agg (stRow r s'))] c (fs ++ V l) = some (.pure (.tuple []), fs ++ V (l ++ [s']))
theorem run_ok0 {r : Rite} (hW : WB r) {g : GV} {V : List Scene → Heap} {LV : Nat} (hg : See r g V LV) (acts : List RAct) (hal : acts.length ≤ 1000000) (hA : ∀ a ∈ acts, AB r a.who.toNat a) {s : Scene} (hS : Snd r s) (hF : Full s) :
    gcall0 KC (geval KC) 93 [.pure (.agg (stRow r s)), .pure (.slice (acts.map RAct.row)), g] c (V []) =
      some (.pure (.tuple [.agg (stRow r (runR r acts.length s acts 0).2.1), .int .i64 (runR r acts.length s acts 0).2.2.1, .int .i64 (runR r acts.length s acts 0).2.2.2]), V (s :: (runR r acts.length s acts 0).1)) := by
  have hV := hg.len
  refine WPv_eq (call_enter0 KC needT Tryz.func93 rfl rfl good93 (by simp) (by rw [hV]; exact hg.pos) ?_)
  have hc := hg.can
  have S1 := fun (f0 : Fr) c => hg.see [f0] [] s c (by simp) (by simp) hS hF
  simp only [List.cons_append, List.nil_append] at S1
  have L1 := fun Q => run_loop hW g acts hal hA V LV hV hg.pos (fun f1 f0 l => hg.cl [f1, f0] l LV (by omega)) (fun f2 f1 f0 l => hg.cl [f2, f1, f0] l (LV + 1) (by omega)) (fun l s' c f1 f0 hl h1 h2 => hg.see [f1, f0] l s' c (by simp) hl h1 h2) Q acts.length 0 s [s] (by omega) (by omega) (by simp) hS hF
  simp only [List.drop_zero] at L1
  simp only [rnF, stbox, zst, stRow] at L1 S1 ⊢
  simp [hV, hc, S1]
  simp at L1
  refine L1 _ (fun h => ?_) (fun h s' => ?_)
  · have hat : ∀ k i s acts, (runR r k s acts i).2.2.2 = 0 → (runR r k s acts i).2.2.1 = -1 := by
      intro k
      induction k with
      | zero => intro i s acts h; rfl
      | succ k ih =>
        intro i s acts h
        cases acts with
        | nil => rfl
        | cons a rest =>
          unfold runR at h ⊢
          simp only at h ⊢
          split at h
          · rename_i h1; exact absurd h h1
          · rename_i h1
            rw [if_neg h1]
            exact ih _ _ _ h
    have e1 := hat _ _ _ _ h
    simp [hV, splice]
    rw [gleave_free (by simp)]
    simp [h, e1]
  · simp [hV, splice]
    rw [gleave_free (by simp)]
    simp
noncomputable def accR (r : Rite) : List Scene × Scene × Int × Int :=
 let q := runR r r.acts.length (firstV r) r.acts 0
 (firstV r :: q.1, q.2.1, if q.2.2.2 = 0 ∧ ordV r q.2.1 = false then ((r.acts.length : Int), 11) else q.2.2)
theorem runR_snd {r : Rite} : ∀ (k : Nat) (s : Scene) (acts : List RAct) (i : Nat), Snd r s → (∀ a ∈ acts, AB r a.who.toNat a) → Snd r (runR r k s acts i).2.1 ∧ ∀ s' ∈ (runR r k s acts i).1, Snd r s'
  | 0, s, _, _, hS, _ => ⟨hS, fun _ h => by simp [runR] at h⟩
  | _ + 1, s, [], _, hS, _ => ⟨hS, fun _ h => by simp [runR] at h⟩
  | k + 1, s, a :: rest, i, hS, hA => by
    unfold runR
    simp only
    split
    · exact ⟨hS, fun _ h => by simp at h⟩
    · rename_i h
      have h' : (minR r s ((a :: rest).takeWhile (sameAt' a)) [] s 0).2.2 = 0 := by simpa using h
      have hgA : ∀ b ∈ (a :: rest).takeWhile (sameAt' a), AB r b.who.toNat b := fun b hb => hA b ((List.takeWhile_prefix _).subset hb)
      obtain ⟨hG, e⟩ := minR_good (r := r) (s := s) (p := []) (tk := []) (nx := s) (i := 0) (fun x => by simp) ⟨fun a ha => by simp at ha, by simp⟩ rfl hgA h'
      have hS1 : Snd r (minR r s ((a :: rest).takeWhile (sameAt' a)) [] s 0).1 := by rw [e]; exact hG.snd hS
      have := runR_snd k _ ((a :: rest).drop ((a :: rest).takeWhile (sameAt' a)).length) (i + ((a :: rest).takeWhile (sameAt' a)).length) hS1 (fun b hb => hA b (List.mem_of_mem_drop hb))
      refine ⟨this.1, fun s' hs' => ?_⟩
      rcases List.mem_cons.1 hs' with rfl | hs'
      · exact hS1
      · exact this.2 s' hs'
theorem See.up {r : Rite} {g : GV} {V : List Scene → Heap} {LV : Nat} (h : See r g V LV) (F : Fr) : See r g (fun l => F :: V l) (LV + 1) where
 len := fun l => by simp [h.len]
 pos := by omega
 can := h.can
 frz := h.frz
 cl := fun fs l n hn => by
  have := h.cl (fs ++ [F]) l n (by omega)
  simpa using this
 see := fun fs l s' c hf hl h1 h2 => by
  have := h.see (fs ++ [F]) l s' c (by simp) hl h1 h2
  simpa using this
theorem gcall_frz {K : Ctx} {rec : Rec} {f : FuncId} {args : List GV} (h1 : K.cln f = false) (h2 : K.bor f = false) (h3 : K.frz f = true) : gcall K rec f args c H = gcall0 K rec f (frzVals H args).1 c (frzVals H args).2 := by
 unfold gcall
 simp [h1, h2, h3]
def acF (r : Rite) (s : Scene) (ro : Bool) : Fr := [(2, rbox r), (4, zst), (94221, .arr 1 (s.people.map irow) 0 ro), (126989, .arr 2 (s.hands.map Hands.row) 0 ro), (208909, .arr 2 (s.things.map Spot.row) 0 ro)]
theorem acF_frz {r : Rite} {s : Scene} {G : Heap} {args : List GV} (hargs : ∀ H, frzVals H args = (args, H)) : frzVals (acF r s false :: G) (stG r (G.length, 94221) (G.length, 126989) (G.length, 208909) s :: args) = (.pure (.agg (stRow r s)) :: args, acF r s true :: G) := by
 have p : frzVal (acF r s false :: G) (stG r (G.length, 94221) (G.length, 126989) (G.length, 208909) s) = (.pure (.agg (stRow r s)), acF r s true :: G) := by
  unfold stG frzVal
  simp [frzCells, frzCell, acF, stRow]
  refine ⟨List.take_of_length_le (by simp), List.take_of_length_le (by simp), List.take_of_length_le (by simp)⟩
 unfold frzVals
 rw [p]
 simp only [hargs]
def acE (r : Rite) (s : Scene) (ro : Bool) : Fr := [(2, rbox r), (4, zst), (94221, .arr 1 (s.people.map irow) 0 ro), (126989, .arr 2 (s.hands.map Hands.row) 0 ro)]
theorem gcall0_canonQ {K : Ctx} {rec : Rec} {f : FuncId} {a b : List GV} (h : a.map canon = b.map canon) : gcall0 K rec f a c H = gcall0 K rec f b c H := by
 have hl : a.length = b.length := by have := congrArg List.length h; simpa using this
 unfold gcall0
 rw [h, hl]
theorem acE_frz {r : Rite} {s : Scene} (hst : s.things = []) {G : Heap} {args : List GV} (hargs : ∀ H, frzVals H args = (args, H)) : (frzVals (acE r s false :: G) (stE r (G.length, 94221) (G.length, 126989) s :: args)).1.map canon = (.pure (.agg (stRow r s)) :: args).map canon ∧ (frzVals (acE r s false :: G) (stE r (G.length, 94221) (G.length, 126989) s :: args)).2 = acE r s true :: G := by
 have t1 : List.take s.people.length (s.people.map irow) = s.people.map irow := List.take_of_length_le (by simp)
 have t2 : List.take s.hands.length (s.hands.map Hands.row) = s.hands.map Hands.row := List.take_of_length_le (by simp)
 have p : frzVal (acE r s false :: G) (stE r (G.length, 94221) (G.length, 126989) s) = (mkAgg [.pure (.int .i64 r.wide), .pure (.int .i64 r.deep), .pure (.slice (r.people.map Person.row)), .pure (.slice (r.things.map Thing.row)), .pure (.slice (r.seen.map irow)), .pure (.slice (r.lapses.map irow)), .pure (.slice (r.acts.map RAct.row)), .pure (.slice (s.people.map irow)), .pure (.slice (s.hands.map Hands.row)), .nils], acE r s true :: G) := by
  unfold stE frzVal
  simp [frzCells, frzCell, acE, t1, t2]
 have q : canon (mkAgg [.pure (.int .i64 r.wide), .pure (.int .i64 r.deep), .pure (.slice (r.people.map Person.row)), .pure (.slice (r.things.map Thing.row)), .pure (.slice (r.seen.map irow)), .pure (.slice (r.lapses.map irow)), .pure (.slice (r.acts.map RAct.row)), .pure (.slice (s.people.map irow)), .pure (.slice (s.hands.map Hands.row)), .nils]) = .pure (.agg (stRow r s)) := canon_mk (by simp [stRow, hst, canon1])
 unfold frzVals
 rw [p]
 simp only [hargs, List.map_cons, q]
 exact ⟨rfl, trivial⟩
theorem accepted_okT {r : Rite} (hW : WB r) (hS : Snd r (firstV r)) (hp0 : r.people ≠ []) (ht0 : r.things ≠ []) (hal : r.acts.length ≤ 1000000) (hA : ∀ a ∈ r.acts, AB r a.who.toNat a) {g : GV} {V : List Scene → Heap} {LV : Nat} (hg : See r g V LV) :
    gcall0 KC (geval KC) 58 [.pure (.agg r.row), g] c (V []) =
      some (.pure (.tuple [.agg (stRow r (accR r).2.1), .int .i64 (accR r).2.2.1, .int .i64 (accR r).2.2.2]), V (accR r).1) := by
  have hV := hg.len
  have hF : Full (firstV r) := ⟨by simpa [firstV] using hp0, by simpa [firstV] using hp0, by simp [firstV]; exact hW.pl, by simp [firstV]; exact hW.pl, by simp [firstV]; exact hW.tl⟩
  refine WPv_eq (call_enter0 KC needT Tryz.func58 rfl rfl good58 (by simp) (by rw [hV]; exact hg.pos) ?_)
  have k1 : newKey 12 23 = 94221 := by decide
  have k2 : newKey 12 31 = 126989 := by decide
  have k3 : newKey 12 51 = 208909 := by decide
  have C := firstP_ok (c := 12) (H := [(2, rbox r), (4, zst)] :: V []) r hp0 ht0 hW.pl hW.tl (by simp) (by simp [k1]) (by simp [k2]) (by simp [k3])
  simp only [List.length_cons, Nat.add_sub_cancel, k1, k2, k3, hV] at C
  have hC : scSet ([(2, rbox r), (4, zst)] :: V []) (LV, 94221) (LV, 126989) (LV, 208909) 0 0 0 (firstV r) = acF r (firstV r) false :: V [] := by
    simp [scSet, acF, hV]
  rw [hC] at C
  have R := run_ok0 (c := 16) hW (hg.up (acF r (firstV r) true)) r.acts hal hA hS hF
  have fz : ∀ H, frzVals H [.pure (.slice (r.acts.map RAct.row)), g] = ([.pure (.slice (r.acts.map RAct.row)), g], H) := fun H => by simp [frzVals, hg.frz]
  have R2 : gcall KC (geval KC) 93 [stG r (LV, 94221) (LV, 126989) (LV, 208909) (firstV r), .pure (.slice (r.acts.map RAct.row)), g] 16 (acF r (firstV r) false :: V []) =
      some (.pure (.tuple [.agg (stRow r (runR r r.acts.length (firstV r) r.acts 0).2.1), .int .i64 (runR r r.acts.length (firstV r) r.acts 0).2.2.1, .int .i64 (runR r r.acts.length (firstV r) r.acts 0).2.2.2]), acF r (firstV r) true :: V (firstV r :: (runR r r.acts.length (firstV r) r.acts 0).1)) := by
    rw [gcall_frz rfl rfl rfl]
    have e := acF_frz (r := r) (s := firstV r) (G := V []) (args := [.pure (.slice (r.acts.map RAct.row)), g]) fz
    rw [hV] at e
    rw [e]
    exact R
  have hc := hg.can
  obtain ⟨q, hq⟩ : ∃ q, runR r r.acts.length (firstV r) r.acts 0 = q := ⟨_, rfl⟩
  have ha : accR r = (firstV r :: q.1, q.2.1, if q.2.2.2 = 0 ∧ ordV r q.2.1 = false then ((r.acts.length : Int), 11) else q.2.2) := by unfold accR; simp only [hq]
  rw [hq] at R2
  rw [ha]
  have hSq := runR_snd r.acts.length (firstV r) r.acts 0 hS hA
  rw [hq] at hSq
  obtain ⟨l, s, at', e⟩ := q
  simp only at hSq R2 ⊢
  have OR := fun c (H : Heap) (hH : 0 < H.length) => ordered_ok (c := c) (H := H) r s hW.tl (by rw [hSq.1.hl]; exact hW.pl) hSq.1.tl hH
  rw [rowR] at C ⊢
  simp only [stG, stRow, rbox, zst, acF] at C R2 OR ⊢
  by_cases he : e = 0
  · subst he
    cases ho : ordV r s with
    | true =>
      rw [ho] at OR
      simp [C, R2, OR, hV, hc, splice]
      rw [gleave_free (by simp)]
      simp
    | false =>
      rw [ho] at OR
      simp [C, R2, OR, hV, hc, splice]
      rw [gleave_free (by simp)]
      simp
  · have he' : (e == 0) = false := by simpa using he
    simp [C, R2, hV, hc, he, he', splice]
    rw [gleave_free (by simp)]
    simp
theorem accepted_okE {r : Rite} (hW : WB r) (hS : Snd r (firstV r)) (hp0 : r.people ≠ []) (ht0 : r.things = []) (hal : r.acts.length ≤ 1000000) (hA : ∀ a ∈ r.acts, AB r a.who.toNat a) {g : GV} {V : List Scene → Heap} {LV : Nat} (hg : See r g V LV) :
    gcall0 KC (geval KC) 58 [.pure (.agg r.row), g] c (V []) =
      some (.pure (.tuple [.agg (stRow r (accR r).2.1), .int .i64 (accR r).2.2.1, .int .i64 (accR r).2.2.2]), V (accR r).1) := by
  have hV := hg.len
  have hF : Full (firstV r) := ⟨by simpa [firstV] using hp0, by simpa [firstV] using hp0, by simp [firstV]; exact hW.pl, by simp [firstV]; exact hW.pl, by simp [firstV]; exact hW.tl⟩
  refine WPv_eq (call_enter0 KC needT Tryz.func58 rfl rfl good58 (by simp) (by rw [hV]; exact hg.pos) ?_)
  have k1 : newKey 12 23 = 94221 := by decide
  have k2 : newKey 12 31 = 126989 := by decide
  have C := firstP_okE (c := 12) (H := [(2, rbox r), (4, zst)] :: V []) r hp0 ht0 hW.pl hW.tl (by simp) (by simp [k1]) (by simp [k2])
  simp only [List.length_cons, Nat.add_sub_cancel, k1, k2, hV] at C
  have hC : Heap.set (Heap.set ([(2, rbox r), (4, zst)] :: V []) (LV, 94221) (.arr 1 ((firstV r).people.map irow) 0 false)) (LV, 126989) (.arr 2 ((firstV r).hands.map Hands.row) 0 false) = acE r (firstV r) false :: V [] := by
    simp [acE, hV]
  rw [hC] at C
  have R := run_ok0 (c := 16) hW (hg.up (acE r (firstV r) true)) r.acts hal hA hS hF
  have fz : ∀ H, frzVals H [.pure (.slice (r.acts.map RAct.row)), g] = ([.pure (.slice (r.acts.map RAct.row)), g], H) := fun H => by simp [frzVals, hg.frz]
  have R2 : gcall KC (geval KC) 93 [stE r (LV, 94221) (LV, 126989) (firstV r), .pure (.slice (r.acts.map RAct.row)), g] 16 (acE r (firstV r) false :: V []) =
      some (.pure (.tuple [.agg (stRow r (runR r r.acts.length (firstV r) r.acts 0).2.1), .int .i64 (runR r r.acts.length (firstV r) r.acts 0).2.2.1, .int .i64 (runR r r.acts.length (firstV r) r.acts 0).2.2.2]), acE r (firstV r) true :: V (firstV r :: (runR r r.acts.length (firstV r) r.acts 0).1)) := by
    rw [gcall_frz rfl rfl rfl]
    have e := acE_frz (r := r) (s := firstV r) (by simp [firstV, ht0]) (G := V []) (args := [.pure (.slice (r.acts.map RAct.row)), g]) fz
    rw [hV] at e
    rw [e.2, gcall0_canonQ (b := [.pure (.agg (stRow r (firstV r))), .pure (.slice (r.acts.map RAct.row)), g]) e.1]
    exact R
  have hc := hg.can
  obtain ⟨q, hq⟩ : ∃ q, runR r r.acts.length (firstV r) r.acts 0 = q := ⟨_, rfl⟩
  have ha : accR r = (firstV r :: q.1, q.2.1, if q.2.2.2 = 0 ∧ ordV r q.2.1 = false then ((r.acts.length : Int), 11) else q.2.2) := by unfold accR; simp only [hq]
  rw [hq] at R2
  rw [ha]
  have hSq := runR_snd r.acts.length (firstV r) r.acts 0 hS hA
  rw [hq] at hSq
  obtain ⟨l, s, at', e⟩ := q
  simp only at hSq R2 ⊢
  have OR := fun c (H : Heap) (hH : 0 < H.length) => ordered_ok (c := c) (H := H) r s hW.tl (by rw [hSq.1.hl]; exact hW.pl) hSq.1.tl hH
  rw [rowR] at C ⊢
  simp only [stE, stRow, rbox, zst, acE] at C R2 OR ⊢
  by_cases he : e = 0
  · subst he
    cases ho : ordV r s with
    | true =>
      rw [ho] at OR
      simp [C, R2, OR, hV, hc, splice]
      rw [gleave_free (by simp)]
      simp
    | false =>
      rw [ho] at OR
      simp [C, R2, OR, hV, hc, splice]
      rw [gleave_free (by simp)]
      simp
  · have he' : (e == 0) = false := by simpa using he
    simp [C, R2, hV, hc, he, he', splice]
    rw [gleave_free (by simp)]
    simp
theorem accepted_ok0 {r : Rite} (hW : WB r) (hS : Snd r (firstV r)) (hp0 : r.people ≠ []) (hal : r.acts.length ≤ 1000000) (hA : ∀ a ∈ r.acts, AB r a.who.toNat a) {g : GV} {V : List Scene → Heap} {LV : Nat} (hg : See r g V LV) :
  gcall0 KC (geval KC) 58 [.pure (.agg r.row), g] c (V []) =
   some (.pure (.tuple [.agg (stRow r (accR r).2.1), .int .i64 (accR r).2.2.1, .int .i64 (accR r).2.2.2]), V (accR r).1) := by
 by_cases h : r.things = []
 ·exact accepted_okE hW hS hp0 h hal hA hg
 ·exact accepted_okT hW hS hp0 h hal hA hg
end
section
variable {c : Nat} {H : Heap}
theorem get_app {nm : Nm} : ∀ (fs : List Fr) (G : Heap), nm.1 < G.length → Heap.get (fs ++ G) nm = Heap.get G nm
  | [], G, _ => rfl
  | f :: fs, G, h => by
    have ne : ¬ nm.1 = (fs ++ G).length := by simp; omega
    rw [List.cons_append, Heap.get_cons', if_neg ne]
    exact get_app fs G h
theorem set_app {nm : Nm} {b : Blk} : ∀ (fs : List Fr) (G : Heap), nm.1 < G.length → Heap.set (fs ++ G) nm b = fs ++ Heap.set G nm b
  | [], G, _ => rfl
  | f :: fs, G, h => by
    have ne : ¬ nm.1 = (fs ++ G).length := by simp; omega
    rw [List.cons_append, Heap.set_cons', if_neg ne, List.cons_append]
    rw [set_app fs G h]
theorem blind_see (r : Rite) (G : Heap) (hG : 0 < G.length) : See r (.pure (.fn 59)) (fun _ => G) G.length where
 len := fun _ => rfl
 pos := hG
 can := rfl
 frz := fun _ => rfl
 cl := fun fs l n _ => by simp
 see := fun fs l s' c hf _ _ _ => by
  rw [gcallee_fn]
  refine WPv_eq (call_enter KC needT Tryz.func59 rfl rfl good59 rfl rfl rfl (by simp) (by simp; omega) ?_)
  unfold stRow
  simp
  rw [gleave_free (by simp)]
  simp
def seenF (r : Rite) (L : Nat) (l : List Scene) : Fr := apF 8 3 (l.map Scene.row) [(1, rbox r), (5, .box [apS (L, 8) 3 (l.map Scene.row)])]
theorem list_see (r : Rite) (H : Heap) : See r (.func 62 [] [.bptr (H.length, 5) 0]) (fun l => seenF r H.length l :: H) (H.length + 1) where
 len := fun _ => by simp
 pos := by omega
 can := rfl
 frz := fun _ => rfl
 cl := fun fs l n hn => by
  have : H.length ≤ n := by omega
  simp [this]
 see := fun fs l s' c hf hl hS hF => by
  rw [gcallee_func]
  refine WPv_eq (call_enter KC needT Tryz.func62 rfl rfl good62 rfl rfl rfl (by simp) (by simp; omega) ?_)
  obtain ⟨G, hG⟩ : ∃ G, fs ++ seenF r H.length l :: H = G := ⟨_, rfl⟩
  have hGl : H.length < G.length := by rw [← hG]; simp; omega
  have g5 : Heap.get G (H.length, 5) = some (.box [apS (H.length, 8) 3 (l.map Scene.row)]) := by
   rw [← hG, get_app _ _ (by simp)]
   simp [seenF]
  have g8 : l.map Scene.row ≠ [] → Heap.get G (H.length, 8) = some (.arr 3 (l.map Scene.row) 0 false) := fun h => by
   rw [← hG, get_app _ _ (by simp)]
   simp only [Heap.get_cons', if_true, seenF]
   exact apF_self h
  have g80 : l.map Scene.row = [] → Heap.get G (H.length, 8) = none := fun h => by
   rw [← hG, get_app _ _ (by simp)]
   simp only [Heap.get_cons', if_true, seenF, h, apF_nil]
   simp
  have hset : Heap.set (Heap.set G (H.length, 8) (.arr 3 ((l ++ [s']).map Scene.row) 0 false)) (H.length, 5) (.box [apS (H.length, 8) 3 ((l ++ [s']).map Scene.row)]) = fs ++ seenF r H.length (l ++ [s']) :: H := by
   rw [← hG, set_app _ _ (by simp), set_app _ _ (by simp [Heap.length_set])]
   congr 1
   have hne : (l ++ [s']).map Scene.row ≠ [] := by simp
   simp only [Heap.set_cons', if_true, seenF]
   congr 1
   rw [apF_ins_self]
   unfold apF
   rw [if_neg hne]
   simp
  have k1 : newKey 5 28679 = 117469190 := by decide
  have k2 : newKey 5 28683 = 117485574 := by decide
  have k3 : newKey 5 28687 = 117501958 := by decide
  have ne : ¬ H.length = G.length := by omega
  have b1 : (l.length + 1) * 72 ≤ 1099511627776 := by omega
  have AP := fun (F : Fr) => apK_apS (H' := F :: G) (l := H.length) (key := 8) (es := 3) (bytes := 72) (rows := l.map Scene.row) (r := s'.row) (fun h => by simp [ne, g80 h]) (fun h => by simp [ne, g8 h]) (by simp; omega) (by simpa using b1)
  have t1 : List.take s'.people.length (s'.people.map irow) = s'.people.map irow := List.take_of_length_le (by simp)
  have t2 : List.take s'.hands.length (s'.hands.map Hands.row) = s'.hands.map Hands.row := List.take_of_length_le (by simp)
  have t3 : List.take s'.things.length (s'.things.map Spot.row) = s'.things.map Spot.row := List.take_of_length_le (by simp)
  have g5' : ∀ b, (Heap.set G (H.length, 8) b).get (H.length, 5) = some (.box [apS (H.length, 8) 3 (l.map Scene.row)]) := fun b => (Heap.get_set_other b (fun e => by have := (Prod.mk.inj e).2; omega)).trans g5
  have hGl' : (Heap.set G (H.length, 8) (.arr 3 (l.map Scene.row ++ [s'.row]) 0 false)).length = G.length := Heap.length_set _ _ _
  have rs : s'.row = [PV.slice (s'.people.map irow), PV.slice (s'.hands.map Hands.row), PV.slice (s'.things.map Spot.row)] := rfl
  rw [← hset]
  by_cases ht0 : s'.things = []
  ·have C := copied_okE (c := 5) (H := [(2, stbox r s')] :: G) r hF ht0 (by simp) (by simp [k1]) (by simp [k2])
   simp only [List.length_cons, Nat.add_sub_cancel, k1, k2] at C
   simp only [stbox, stRow, stE] at C ⊢
   simp [ne, ht0] at AP C
   simp [Scene.row, ht0] at AP
   simp [hG, ne, g5, ht0, C, t1, t2, AP, g5', splice]
   rw [gleave_free (by simp)]
   simp [rs, ht0]
  ·have C := copied_ok (c := 5) (H := [(2, stbox r s')] :: G) r hF ht0 (by simp) (by simp [k1]) (by simp [k2]) (by simp [k3])
   simp only [List.length_cons, Nat.add_sub_cancel, k1, k2, k3] at C
   simp only [stbox, stRow, stG, scSet] at C ⊢
   simp [ne] at AP C
   simp [Scene.row] at AP
   simp [hG, ne, g5, C, t1, t2, t3, AP, g5', splice]
   rw [gleave_free (by simp)]
   simp [rs]
end
section
variable {c : Nat} {H : Heap}
structure Runs (r : Rite) : Prop where
 w : WB r
 snd : Snd r (firstV r)
 p0 : r.people ≠ []
 al : r.acts.length ≤ 1000000
 ab : ∀ a ∈ r.acts, AB r a.who.toNat a
 sh : Short r
 ck : checkF r = 0
theorem Run_ok0 {r : Rite} (h : Runs r) (hH : 0 < H.length) :
  gcall0 KC (geval KC) 15 [.pure (.agg r.row)] c H =
   some (.pure (.tuple (if (accR r).2.2.2 = 0 then [.agg (accR r).2.1.row, .int .i64 (-1), .int .i64 0] else [.agg [.slice [], .slice [], .slice []], .int .i64 (accR r).2.2.1, .int .i64 (accR r).2.2.2])), H) := by
 refine WPv_eq (call_enter0 KC needT Tryz.func15 rfl rfl good15 (by simp) hH ?_)
 have C := fun c (H : Heap) (hH : 0 < H.length) => check_ok (c := c) (H := H) r h.sh.s h.sh.l h.sh.p h.sh.t h.sh.a hH
 rw [h.ck] at C
 have A := fun (F : Fr) => accepted_ok0 (c := 15) h.w h.snd h.p0 h.al h.ab (blind_see r (F :: H) (by simp))
 have A2 : ∀ F : Fr, gcall KC (geval KC) 58 [.pure (.agg r.row), .pure (.fn 59)] 15 (F :: H) = some (.pure (.tuple [.agg (stRow r (accR r).2.1), .int .i64 (accR r).2.2.1, .int .i64 (accR r).2.2.2]), F :: H) := fun F => by
  rw [gcall_frz rfl rfl rfl]
  have : frzVals (F :: H) [.pure (.agg r.row), .pure (.fn 59)] = ([.pure (.agg r.row), .pure (.fn 59)], F :: H) := rfl
  rw [this]
  exact A F
 generalize accR r = q at A2 ⊢
 obtain ⟨l, s, at', e⟩ := q
 simp only [stRow] at A2
 rw [rowR] at C A2 ⊢
 unfold Scene.row
 by_cases he : e = 0
 ·subst he
  simp [C, A2, splice]
  rw [gleave_free (by simp)]
  simp
 ·have he' : (e != 0) = true := by simpa using he
  simp [C, A2, he, he', splice]
  rw [gleave_free (by simp)]
  simp
theorem Scenes_ok0 {r : Rite} (h : Runs r) (hH : 0 < H.length) :
  gcall0 KC (geval KC) 17 [.pure (.agg r.row)] c H =
   some (.pure (.tuple (if (accR r).2.2.2 = 0 then [.slice ((accR r).1.map Scene.row), .int .i64 0] else [.slice [], .int .i64 (accR r).2.2.2])), H) := by
 refine WPv_eq (call_enter0 KC needT Tryz.func17 rfl rfl good17 (by simp) hH ?_)
 have C := fun c (H : Heap) (hH : 0 < H.length) => check_ok (c := c) (H := H) r h.sh.s h.sh.l h.sh.p h.sh.t h.sh.a hH
 rw [h.ck] at C
 have A := accepted_ok0 (c := 17) h.w h.snd h.p0 h.al h.ab (list_see r H)
 have A2 : gcall KC (geval KC) 58 [.pure (.agg r.row), .func 62 [] [.bptr (H.length, 5) 0]] 17 (seenF r H.length [] :: H) = some (.pure (.tuple [.agg (stRow r (accR r).2.1), .int .i64 (accR r).2.2.1, .int .i64 (accR r).2.2.2]), seenF r H.length (accR r).1 :: H) := by
  rw [gcall_frz rfl rfl rfl]
  have : frzVals (seenF r H.length [] :: H) [.pure (.agg r.row), .func 62 [] [.bptr (H.length, 5) 0]] = ([.pure (.agg r.row), .func 62 [] [.bptr (H.length, 5) 0]], seenF r H.length [] :: H) := rfl
  rw [this]
  exact A
 have hne : (accR r).1 ≠ [] := by unfold accR; simp
 generalize accR r = q at A2 hne ⊢
 obtain ⟨l, s, at', e⟩ := q
 simp only at hne
 have hl : l.map Scene.row ≠ [] := by simpa using hne
 obtain ⟨F, hF⟩ : ∃ F, seenF r H.length l = F := ⟨_, rfl⟩
 have f6 : F.get 6 = none := by rw [← hF]; unfold seenF; rw [apF_get (by decide)]; simp
 have f5 : F.get 5 = some (.box [.hdr (H.length, 8) 3 l.length 0 l.length]) := by rw [← hF]; unfold seenF; rw [apF_get (by decide), apS, if_neg hl]; simp
 have f8 : F.get 8 = some (.arr 3 (l.map Scene.row) 0 false) := by rw [← hF]; unfold seenF; rw [apF_self hl]
 simp only [stRow] at A2
 rw [hF] at A2
 simp only [seenF, List.map_nil, apS_nil, apF_nil, rbox] at A2
 rw [rowR] at C A2 ⊢
 have F5 : ∀ x : Blk, (F.ins 6 x).get 5 = some (.box [.hdr (H.length, 8) 3 l.length 0 l.length]) := fun x => (Fr.get_ins_other _ (by decide) _).trans f5
 have F8 : ∀ x : Blk, (F.ins 6 x).get 8 = some (.arr 3 (l.map Scene.row) 0 false) := fun x => (Fr.get_ins_other _ (by decide) _).trans f8
 have hnl : ¬ H.length ≤ H.length - 1 := by omega
 have tk : List.take l.length (l.map Scene.row) = l.map Scene.row := List.take_of_length_le (by simp)
 by_cases he : e = 0
 ·subst he
  simp [C, A2, f6, F5, splice, Fr.get_ins, Fr.ins_ins]
  rw [gleave_free (by simp)]
  simp [hnl, F8, tk]
 ·have he' : (e != 0) = true := by simpa using he
  simp [C, A2, f6, F5, he, he', splice, Fr.get_ins, Fr.ins_ins]
  rw [gleave_free (by simp)]
  simp
end
section
section
variable {r0 : Rite} {acts : List RAct} {s : Scene}
end
end
section
theorem topC_eq {w d : Int} (h1 : 1 ≤ w * d) (h2 : w * d ≤ 1000000) : topC w d = w * d - 1 := by
 rw [topC_def, w64 (x := w * d) (by omega) (by omega), w64 (x := w * d - 1) (by omega) (by omega)]
section
variable {r0 : Rite} {acts : List RAct} {s : Scene} {m : Nat}
end
end
theorem firstI_zeroQ {g : Nat → Int} : ∀ {k i : Nat}, firstI g k i = 0 → ∀ j, i ≤ j → j < i + k → g j = 0
  | 0, _, _ => fun j a b => by omega
  | k + 1, i, h => fun j a b => by
    unfold firstI at h
    by_cases h0 : g i = 0
    · by_cases e : j = i
      · rw [e]; exact h0
      · refine firstI_zeroQ (k := k) (i := i + 1) ?_ j (by omega) (by omega)
        simpa [h0] using h
    · simp [h0] at h
theorem inB_rng {x lo hi : Int} (h : inB x lo hi ≠ false) : lo ≤ x ∧ x ≤ hi := by
 cases e : inB x lo hi with
 | false => exact absurd e h
 | true => exact inB_iff.1 e
theorem ite_zero {p : Prop} [Decidable p] {a b : Int} (ha : a ≠ 0) (h : (if p then a else b) = 0) : ¬ p ∧ b = 0 := by
 by_cases hp : p
 ·rw [if_pos hp] at h; exact absurd h ha
 ·rw [if_neg hp] at h; exact ⟨hp, h⟩
theorem ite_self {a b : Int} (h : (if a ≠ 0 then a else b) = 0) : a = 0 ∧ b = 0 := by
 by_cases hp : a ≠ 0
 ·rw [if_pos hp] at h; exact absurd h hp
 ·rw [if_neg hp] at h; exact ⟨by simpa using hp, h⟩
structure RoomC (r : Rite) : Prop where
 w : 1 ≤ r.wide ∧ r.wide ≤ 6
 d : 1 ≤ r.deep ∧ r.deep ≤ 6
 p0 : r.people ≠ []
 p4 : r.people.length ≤ 4
 t8 : r.things.length ≤ 8
 pc : ∀ p ∈ r.people, 0 ≤ p.cell ∧ p.cell < r.wide * r.deep
 pn : (r.people.map (·.cell)).Nodup
 tc : ∀ t ∈ r.things, (0 ≤ t.cell ∧ t.cell < r.wide * r.deep) ∧ 0 ≤ t.state ∧ t.state < 16
 ls : ∀ x ∈ r.lapses, 1 ≤ x ∧ x ≤ 3
theorem RoomC.area {r : Rite} (h : RoomC r) : 1 ≤ r.wide * r.deep ∧ r.wide * r.deep ≤ 36 := by
 have h1 := h.w
 have h2 := h.d
 constructor
 ·have := Int.mul_le_mul h1.1 h2.1 (by omega) (by omega)
  omega
 ·have := Int.mul_le_mul h1.2 h2.2 (by omega) (by omega)
  omega
theorem room_of {r : Rite} (h : roomF r = 0) : RoomC r := by
 rw [roomF_def] at h
 obtain ⟨h1, h⟩ := ite_zero (by decide) h
 obtain ⟨h2, h⟩ := ite_zero (by decide) h
 obtain ⟨h3, h⟩ := ite_zero (by decide) h
 obtain ⟨h4, h⟩ := ite_self h
 obtain ⟨h5, h⟩ := ite_zero (by decide) h
 obtain ⟨h6, h⟩ := ite_self h
 obtain ⟨h7, h8⟩ := ite_self h
 have w := inB_rng (fun e => h1 (.inl e))
 have d := inB_rng (fun e => h1 (.inr e))
 have ar : 1 ≤ r.wide * r.deep ∧ r.wide * r.deep ≤ 36 := by
  constructor
  ·have := Int.mul_le_mul w.1 d.1 (by omega) (by omega)
   omega
  ·have := Int.mul_le_mul w.2 d.2 (by omega) (by omega)
   omega
 have top : topC r.wide r.deep = r.wide * r.deep - 1 := topC_eq ar.1 (by omega)
 rw [top] at h4 h6
 have P : ∀ j (hj : j < r.people.length), (0 ≤ r.people[j].cell ∧ r.people[j].cell < r.wide * r.deep) ∧ sameCell r.people j r.people[j].cell = false := fun j hj => by
  have e := firstI_zeroQ h4 j (Nat.zero_le _) (by omega)
  rw [personF_def, getD_lt hj] at e
  obtain ⟨_, e⟩ := ite_zero (by decide) e
  obtain ⟨e2, e⟩ := ite_zero (by decide) e
  obtain ⟨e3, _⟩ := ite_zero (by decide) e
  have := inB_rng e2
  exact ⟨⟨this.1, by omega⟩, by simpa using e3⟩
 refine ⟨w, d, fun e => h2 (by rw [e]; rfl), by omega, by omega, fun p hp => ?_, ?_, fun t ht => ?_, fun x hx => ?_⟩
 ·obtain ⟨j, hj, rfl⟩ := List.getElem_of_mem hp
  exact (P j hj).1
 ·rw [List.Nodup, List.pairwise_iff_getElem]
  intro i j hi hj hij
  simp only [List.length_map] at hi hj
  simp only [List.getElem_map]
  intro e
  have := (P j hj).2
  unfold sameCell at this
  rw [List.any_eq_false] at this
  exact this r.people[i] (List.mem_take_iff_getElem.2 ⟨i, by omega, rfl⟩) (by simpa using e)
 ·obtain ⟨j, hj, rfl⟩ := List.getElem_of_mem ht
  have e := firstI_zeroQ h6 j (Nat.zero_le _) (by omega)
  rw [thingF_def, getD_lt hj] at e
  obtain ⟨e1, e⟩ := ite_zero (by decide) e
  obtain ⟨e2, _⟩ := ite_zero (by decide) e
  have a := inB_rng (fun x => e1 (.inl x))
  have b := inB_rng (fun x => e2 (.inl x))
  exact ⟨⟨a.1, by omega⟩, b.1, by omega⟩
 ·obtain ⟨j, hj, rfl⟩ := List.getElem_of_mem hx
  have e := firstI_zeroQ h8 j (Nat.zero_le _) (by omega)
  rw [ascF_def, getD_lt hj] at e
  obtain ⟨e1, _⟩ := ite_zero (by decide) e
  exact inB_rng e1
theorem form_AB {r : Rite} (h : RoomC r) {a : RAct} (hw : 0 ≤ a.who ∧ a.who < r.people.length) (hf : fieldsF (topC r.wide r.deep) r.things.length r.people.length a = 0) : AB r a.who.toNat a := by
 have ar := h.area
 rw [topC_eq ar.1 (by omega), fieldsF_def] at hf
 obtain ⟨h1, hf⟩ := ite_zero (by decide) hf
 obtain ⟨h2, hf⟩ := ite_zero (by decide) hf
 obtain ⟨h3, hf⟩ := ite_zero (by decide) hf
 obtain ⟨h4, hf⟩ := ite_zero (by decide) hf
 obtain ⟨h5, hf⟩ := ite_zero (by decide) hf
 obtain ⟨h6, hf⟩ := ite_zero (by decide) hf
 obtain ⟨h7, _⟩ := ite_zero (by decide) hf
 have k := inB_rng h1
 have hd := inB_rng h4
 refine ⟨by omega, by omega, by omega, k, fun e => ?_, fun e => ?_, fun e => ?_, by simpa using h2⟩
 ·have := inB_rng (fun x => h5 ⟨e, x⟩)
  exact ⟨a.thing.toNat, by omega, by omega⟩
 ·have := inB_rng (fun x => h6 ⟨e, x⟩)
  have h7' : ¬ a.other = a.who := fun x => h7 ⟨e, x⟩
  exact ⟨a.other.toNat, by omega, by omega, by omega⟩
 ·have := inB_rng (fun x => h3 ⟨e, x⟩)
  exact ⟨this.1, by omega⟩
structure ActsC (r : Rite) : Prop where
 n : r.acts.length ≤ 40
 ab : ∀ a ∈ r.acts, AB r a.who.toNat a
 tm : ∀ a ∈ r.acts, 0 ≤ a.at' ∧ a.at' ≤ 1000
 pw : r.acts.Pairwise fun a b => a.at' ≤ b.at' ∧ (a.at' = b.at' → a.who ≠ b.who)
theorem acts_of {r : Rite} (h : checkF r = 0) : RoomC r ∧ ActsC r := by
  rw [checkF_def] at h
  obtain ⟨h1, h⟩ := ite_self h
  obtain ⟨h2, h⟩ := ite_zero (by decide) h
  have R := room_of h1
  have A : ∀ j (hj : j < r.acts.length), AB r r.acts[j].who.toNat r.acts[j] ∧ (0 ≤ r.acts[j].at' ∧ r.acts[j].at' ≤ 1000) ∧ (0 < j → (r.acts.getD (j - 1) act0).at' ≤ r.acts[j].at') ∧ (r.acts.take j).any (samePM r.acts[j]) = false := fun j hj => by
    have e := firstI_zeroQ h j (Nat.zero_le _) (by omega)
    rw [actF_def, getD_lt hj] at e
    obtain ⟨e1, e⟩ := ite_zero (by decide) e
    obtain ⟨e2, e⟩ := ite_zero (by decide) e
    obtain ⟨e3, e⟩ := ite_zero (by decide) e
    obtain ⟨e4, e⟩ := ite_zero (by decide) e
    obtain ⟨e5, e⟩ := ite_self e
    have w := inB_rng e3
    refine ⟨form_AB R ⟨w.1, by omega⟩ e5, inB_rng e1, fun h0 => ?_, by simpa using e4⟩
    have : ¬ r.acts[j].at' < (r.acts.getD (j - 1) act0).at' := fun x => e2 ⟨h0, x⟩
    omega
  have mono : ∀ i j (hi : i < r.acts.length) (hj : j < r.acts.length), i < j → r.acts[i].at' ≤ r.acts[j].at' := fun i j => by
    induction j with
    | zero => intro _ _ h; omega
    | succ j ih =>
      intro hi hj hij
      have s := (A (j + 1) hj).2.2.1 (by omega)
      rw [Nat.add_sub_cancel, getD_lt (by omega)] at s
      by_cases e : i = j
      · subst e; exact s
      · have := ih hi (by omega) (by omega)
        omega
  refine ⟨R, by omega, fun a ha => ?_, fun a ha => ?_, ?_⟩
  · obtain ⟨j, hj, rfl⟩ := List.getElem_of_mem ha
    exact (A j hj).1
  · obtain ⟨j, hj, rfl⟩ := List.getElem_of_mem ha
    exact (A j hj).2.1
  · rw [List.pairwise_iff_getElem]
    intro i j hi hj hij
    refine ⟨mono i j hi hj hij, fun e1 e2 => ?_⟩
    have := (A j hj).2.2.2
    rw [List.any_eq_false] at this
    refine this r.acts[i] (List.mem_take_iff_getElem.2 ⟨i, by omega, rfl⟩) ?_
    unfold samePM
    simp [e1, e2]
theorem first_sndC {r : Rite} (h : RoomC r) : Snd r (firstV r) := by
  have ce : ∀ l : List Person, ∀ t : Nat, cntH (l.map fun _ => empty) t = 0 := fun l t => by
    induction l with
    | nil => rfl
    | cons a l ih =>
      have : ¬ (-1 : Int) = t := by omega
      simp only [List.map_cons, cntH, ih]
      simp [oneH, empty, this]
  refine { pl := by simp [firstV], hl := by simp [firstV], tl := by simp [firstV], hr := fun i hi => ?_, pr := fun x hx => ?_, pn := h.pn, th := fun t ht => ?_, st := fun t ht => ?_ }
  · simp only [firstV, List.getElem_map, empty, List.length_map]; omega
  · simp only [firstV, List.mem_map] at hx
    obtain ⟨p, hp, rfl⟩ := hx
    exact h.pc p hp
  · have ht' : t < r.things.length := by simpa [firstV] using ht
    have e : ((firstV r).things.getD t spot0) = spotOf r.things[t] := by
      rw [getD_lt ht]; simp [firstV]
    rw [e]
    exact .inr ⟨ce _ _, (h.tc _ (List.getElem_mem ht')).1.1, (h.tc _ (List.getElem_mem ht')).1.2⟩
  · have ht' : t < r.things.length := by simpa [firstV] using ht
    have e : ((firstV r).things.getD t spot0) = spotOf r.things[t] := by
      rw [getD_lt ht]; simp [firstV]
    rw [e]
    exact ⟨(h.tc _ (List.getElem_mem ht')).2.1, (h.tc _ (List.getElem_mem ht')).2.2⟩
theorem runs_of {r : Rite} (h : checkF r = 0) (sh : Short r) : Runs r := by
 obtain ⟨R, A⟩ := acts_of h
 have ar := R.area
 have w := R.w
 have := R.p4
 have := R.t8
 have := A.n
 exact { w := ⟨w.1, by omega, by omega, by omega, by omega⟩, snd := first_sndC R, p0 := R.p0, al := by omega, ab := A.ab, sh := sh, ck := h }
section
variable {c : Nat} {H : Heap}
noncomputable def scnP (q : List Scene × Scene × Int × Int) : PV := .tuple (if q.2.2.2 = 0 then [.slice (q.1.map Scene.row), .int .i64 (-1), .int .i64 0] else [.slice [], .int .i64 q.2.2.1, .int .i64 q.2.2.2])
theorem scenes_ok0R {r : Rite} (hW : WB r) (acts : List RAct) (hal : acts.length ≤ 1000000) (hA : ∀ a ∈ acts, AB r a.who.toNat a) {s : Scene} (hS : Snd r s) (hF : Full s) (hH : 0 < H.length) :
  gcall0 KC (geval KC) 80 [.pure (.agg r.row), .pure (.agg s.row), .pure (.slice (acts.map RAct.row))] c H = some (.pure (scnP (runR r acts.length s acts 0)), H) := by
 refine WPv_eq (call_enter0 KC needT Tryz.func80 rfl rfl good80 (by simp) hH ?_)
 have L1 := fun Q => scn_loop (H := H) hW acts hal hA Q acts.length 0 false s [] (by omega) (by omega) (by simp) hS hF (fun h => by cases h)
 simp only [List.drop_zero, List.nil_append] at L1
 generalize runR r acts.length s acts 0 = q at L1 ⊢
 obtain ⟨l, s', at', e⟩ := q
 simp only at L1
 unfold scnP
 have e0 : rfF false r s [] = [(3, rbox r), (4, scB s)] := rfl
 rw [e0] at L1
 simp only [List.map_nil, apS_nil, rbox, scB] at L1
 rw [rowR]
 unfold Scene.row
 simp
 refine L1 _ (fun h b' => ?_) (fun h g F' => ?_)
 ·subst h
  have hnl : ¬ H.length ≤ H.length - 1 := by omega
  by_cases hl : l = []
  ·subst hl
   simp [rfF, apF_nil, apS_nil]
   rw [gleave_free (by simp)]
   simp
  ·have hr : l.map Scene.row ≠ [] := by simpa using hl
   have g92 : (rfF b' r s' l).get 92 = some (.arr 3 (l.map Scene.row) 0 false) := by unfold rfF; rw [apF_self hr]
   have eS : apS (H.length, 92) 3 (l.map Scene.row) = .hdr (H.length, 92) 3 l.length 0 l.length := by unfold apS; rw [if_neg hr]; simp
   have tk : List.take l.length (l.map Scene.row) = l.map Scene.row := List.take_of_length_le (by simp)
   rw [eS]
   generalize rfF b' r s' l = F at g92 ⊢
   simp
   rw [gleave_free (by simp)]
   simp [hnl, g92, tk]
   exact fun _ _ => rfl
 ·simp
  rw [gleave_free (by simp)]
  simp [h]
theorem runR_last {r : Rite} : ∀ (k : Nat) (s : Scene) (acts : List RAct) (i : Nat), (s :: (runR r k s acts i).1).getD (runR r k s acts i).1.length s = (runR r k s acts i).2.1
  | 0, s, _, _ => rfl
  | _ + 1, s, [], _ => rfl
  | k + 1, s, a :: rest, i => by
    unfold runR
    simp only
    split
    · rfl
    · rename_i h
      have := runR_last (r := r) k (minR r s ((a :: rest).takeWhile (sameAt' a)) [] s 0).1 ((a :: rest).drop ((a :: rest).takeWhile (sameAt' a)).length) (i + ((a :: rest).takeWhile (sameAt' a)).length)
      rw [← this]
      simp [List.getD_eq_getElem?_getD]
def frT (r : Rite) (L : Nat) (ro : Bool) : Fr := [(1, rbox r), (5, .box [.hdr (L, 90123) 1 (firstV r).people.length 0 (firstV r).people.length, .hdr (L, 110603) 2 (firstV r).hands.length 0 (firstV r).hands.length, .hdr (L, 217099) 2 (firstV r).things.length 0 (firstV r).things.length]), (90123, .arr 1 ((firstV r).people.map irow) 0 ro), (110603, .arr 2 ((firstV r).hands.map Hands.row) 0 ro), (217099, .arr 2 ((firstV r).things.map Spot.row) 0 ro)]
theorem frT_cells {r : Rite} {ro : Bool} : pureCells (frT r H.length ro :: H) [.hdr (H.length, 90123) 1 (firstV r).people.length 0 (firstV r).people.length, .hdr (H.length, 110603) 2 (firstV r).hands.length 0 (firstV r).hands.length, .hdr (H.length, 217099) 2 (firstV r).things.length 0 (firstV r).things.length] =
  ([.slice ((firstV r).people.map irow), .slice ((firstV r).hands.map Hands.row), .slice ((firstV r).things.map Spot.row)], frT r H.length true :: H) := by
 have t1 : List.take (firstV r).people.length ((firstV r).people.map irow) = (firstV r).people.map irow := List.take_of_length_le (by simp)
 have t2 : List.take (firstV r).hands.length ((firstV r).hands.map Hands.row) = (firstV r).hands.map Hands.row := List.take_of_length_le (by simp)
 have t3 : List.take (firstV r).things.length ((firstV r).things.map Spot.row) = (firstV r).things.map Spot.row := List.take_of_length_le (by simp)
 simp [pureCells, frT, t1, t2, t3]
theorem scenes_frT {r : Rite} (h : Runs r) : gcall KC (geval KC) 80 [.pure (.agg r.row), .agg [.hdr (H.length, 90123) 1 (firstV r).people.length 0 (firstV r).people.length, .hdr (H.length, 110603) 2 (firstV r).hands.length 0 (firstV r).hands.length, .hdr (H.length, 217099) 2 (firstV r).things.length 0 (firstV r).things.length], .pure (.slice (r.acts.map RAct.row))] c (frT r H.length false :: H) =
  some (.pure (scnP (runR r r.acts.length (firstV r) r.acts 0)), frT r H.length true :: H) := by
 rw [gcall_frz rfl rfl rfl]
 have t1 : List.take (firstV r).people.length ((firstV r).people.map irow) = (firstV r).people.map irow := List.take_of_length_le (by simp)
 have t2 : List.take (firstV r).hands.length ((firstV r).hands.map Hands.row) = (firstV r).hands.map Hands.row := List.take_of_length_le (by simp)
 have t3 : List.take (firstV r).things.length ((firstV r).things.map Spot.row) = (firstV r).things.map Spot.row := List.take_of_length_le (by simp)
 have e : frzVals (frT r H.length false :: H) [.pure (.agg r.row), .agg [.hdr (H.length, 90123) 1 (firstV r).people.length 0 (firstV r).people.length, .hdr (H.length, 110603) 2 (firstV r).hands.length 0 (firstV r).hands.length, .hdr (H.length, 217099) 2 (firstV r).things.length 0 (firstV r).things.length], .pure (.slice (r.acts.map RAct.row))] = ([.pure (.agg r.row), .pure (.agg (firstV r).row), .pure (.slice (r.acts.map RAct.row))], frT r H.length true :: H) := by
  simp [frzVals, frzVal, frzCells, frzCell, frT, t1, t2, t3, Scene.row]
 rw [e]
 exact scenes_ok0R h.w r.acts h.al h.ab h.snd ⟨by simpa [firstV] using h.p0, by simpa [firstV] using h.p0, by simp [firstV]; exact h.w.pl, by simp [firstV]; exact h.w.pl, by simp [firstV]; exact h.w.tl⟩ (by simp)
end
section
variable {c : Nat} {H : Heap}
theorem runR_len {r : Rite} : ∀ (k : Nat) (s : Scene) (acts : List RAct) (i : Nat), (runR r k s acts i).1.length ≤ k
  | 0, s, _, _ => Nat.le_refl _
  | _ + 1, s, [], _ => Nat.zero_le _
  | k + 1, s, a :: rest, i => by
    unfold runR
    simp only
    split
    · exact Nat.zero_le _
    · have := runR_len (r := r) k (minR r s ((a :: rest).takeWhile (sameAt' a)) [] s 0).1 ((a :: rest).drop ((a :: rest).takeWhile (sameAt' a)).length) (i + ((a :: rest).takeWhile (sameAt' a)).length)
      simp only [List.length_cons]
      omega
theorem run_okT {r : Rite} (h : Runs r) (ht0 : r.things ≠ []) (hH : 0 < H.length) :
    gcall KC (geval KC) 61 [.pure (.agg r.row)] c H =
      some (.pure (.tuple (if (accR r).2.2.2 = 0 then [.slice ((accR r).1.map Scene.row), .int .i64 (-1), .int .i64 0] else [.slice [], .int .i64 (accR r).2.2.1, .int .i64 (accR r).2.2.2])), H) := by
  refine WPv_eq (call_enter KC needT Tryz.func61 rfl rfl good61 rfl rfl rfl (by simp) hH ?_)
  have k1 : newKey 10 22 = 90123 := by decide
  have k2 : newKey 10 27 = 110603 := by decide
  have k3 : newKey 10 53 = 217099 := by decide
  have C := firstB_ok (c := 10) (H := [(1, rbox r)] :: H) r (rg := .pure (.agg r.row)) rfl h.p0 ht0 h.w.pl h.w.tl (by simp) (by simp [k1]) (by simp [k2]) (by simp [k3])
  simp only [List.length_cons, Nat.add_sub_cancel, k1, k2, k3] at C
  have hC : scSet ([(1, rbox r)] :: H) (H.length, 90123) (H.length, 110603) (H.length, 217099) 0 0 0 (firstV r) = [(1, rbox r), (90123, .arr 1 ((firstV r).people.map irow) 0 false), (110603, .arr 2 ((firstV r).hands.map Hands.row) 0 false), (217099, .arr 2 ((firstV r).things.map Spot.row) 0 false)] :: H := by
    simp [scSet]
  rw [hC] at C
  have S := fun c => scenes_frT (c := c) (H := H) h
  have PC := frT_cells (H := H) (r := r) (ro := true)
  have hlast := runR_last (r := r) r.acts.length (firstV r) r.acts 0
  have hsn := runR_snd r.acts.length (firstV r) r.acts 0 h.snd h.ab
  obtain ⟨q, hq⟩ : ∃ q, runR r r.acts.length (firstV r) r.acts 0 = q := ⟨_, rfl⟩
  have ha : accR r = (firstV r :: q.1, q.2.1, if q.2.2.2 = 0 ∧ ordV r q.2.1 = false then ((r.acts.length : Int), 11) else q.2.2) := by unfold accR; simp only [hq]
  rw [hq] at S hlast hsn
  rw [ha]
  have hll : q.1.length ≤ 1000000 := by rw [← hq]; exact Nat.le_trans (runR_len ..) h.al
  obtain ⟨l, s, at', e⟩ := q
  simp only [scnP] at S hlast hsn hll ⊢
  have OR := fun c (H : Heap) (hH : 0 < H.length) => orderedR_ok (c := c) (H := H) r s h.w.tl (by rw [hsn.1.hl]; exact h.w.pl) hsn.1.tl hH
  rw [rowR] at C S OR ⊢
  simp only [scH, rbox, frT] at C S PC ⊢
  generalize firstV r = fi at C S PC hlast ⊢
  by_cases he : e = 0
  · subst he
    simp only [if_true] at S
    have hg : ((fi :: l).map Scene.row)[l.length]'(by simp) = s.row := by
      rw [List.getElem_map]
      congr 1
      rw [← hlast]
      simp [List.getD_eq_getElem?_getD]
    simp only [List.map_cons] at hg
    by_cases hl : l = []
    · subst hl
      have hfs : fi = s := by simpa using hlast
      subst hfs
      unfold Scene.row at OR
      cases ho : ordV r fi with
      | true =>
        rw [ho] at OR
        simp [C, S, PC, OR]
        rw [gleave_free (by simp)]
        have hnl : ¬ H.length ≤ H.length - 1 := by omega
        simp [hnl, Scene.row]
      | false =>
        rw [ho] at OR
        simp [C, S, PC, OR]
        rw [gleave_free (by simp)]
        simp
    · have hb : (l.length + 1) * 72 ≤ 1099511627776 := by omega
      have hb2 : (1 + l.length) * 72 ≤ 1099511627776 := by omega
      have hall : ∀ x : Scene, x.row.length = 3 := fun _ => rfl
      have hw : IntKind.i64.wrap ((1 : Int) + (l.length : Int) - 1) = (l.length : Int) := by
        rw [show (1 : Int) + (l.length : Int) - 1 = (l.length : Int) by omega]
        exact w64 (by omega) (by omega)
      have hlt : (l.length : Int) < 1 + (l.length : Int) := by omega
      have hlt2 : l.length < l.length + 1 := by omega
      have hle : 1 + l.length ≤ l.length + 1 := by omega
      have hg' : ([PV.slice (fi.people.map irow), PV.slice (fi.hands.map Hands.row), PV.slice (fi.things.map Spot.row)] :: l.map Scene.row)[l.length]'(by simp) = s.row := hg
      have tk3 : List.take 3 s.row = s.row := rfl
      have hs3 : 3 ≤ s.row.length := Nat.le_refl _
      have hnl : ¬ H.length ≤ H.length - 1 := by omega
      have tka : List.take (1 + l.length) ([PV.slice (fi.people.map irow), PV.slice (fi.hands.map Hands.row), PV.slice (fi.things.map Spot.row)] :: l.map Scene.row) = [PV.slice (fi.people.map irow), PV.slice (fi.hands.map Hands.row), PV.slice (fi.things.map Spot.row)] :: l.map Scene.row := List.take_of_length_le (by simp; omega)
      cases ho : ordV r s with
      | true =>
        rw [ho] at OR
        simp [C, S, PC, hl, hb, hb2, hall, hw, hlt, hlt2, hle, hg', tk3, OR]
        rw [gleave_free (by simp)]
        simp [hnl, hle, tka]
        rfl
      | false =>
        rw [ho] at OR
        simp [C, S, PC, hl, hb, hb2, hall, hw, hlt, hlt2, hle, hg', tk3, OR]
        rw [gleave_free (by simp)]
        simp
  · have he' : (e == 0) = false := by simpa using he
    simp only [he, if_false] at S
    simp [C, S, he, he']
    rw [gleave_free (by simp)]
    simp
end
section
variable {c : Nat} {H : Heap}
def frN (r : Rite) (L : Nat) (ro : Bool) : Fr := [(1, rbox r), (5, .box [.hdr (L, 90123) 1 (firstV r).people.length 0 (firstV r).people.length, .hdr (L, 110603) 2 (firstV r).hands.length 0 (firstV r).hands.length, .nils]), (90123, .arr 1 ((firstV r).people.map irow) 0 ro), (110603, .arr 2 ((firstV r).hands.map Hands.row) 0 ro)]
theorem frN_cells {r : Rite} {ro : Bool} : pureCells (frN r H.length ro :: H) [.hdr (H.length, 90123) 1 (firstV r).people.length 0 (firstV r).people.length, .hdr (H.length, 110603) 2 (firstV r).hands.length 0 (firstV r).hands.length, .nils] =
  ([.slice ((firstV r).people.map irow), .slice ((firstV r).hands.map Hands.row), .slice []], frN r H.length true :: H) := by
 have t1 : List.take (firstV r).people.length ((firstV r).people.map irow) = (firstV r).people.map irow := List.take_of_length_le (by simp)
 have t2 : List.take (firstV r).hands.length ((firstV r).hands.map Hands.row) = (firstV r).hands.map Hands.row := List.take_of_length_le (by simp)
 simp [pureCells, frN, t1, t2]
theorem scenes_frN {r : Rite} (h : Runs r) (ht0 : r.things = []) : gcall KC (geval KC) 80 [.pure (.agg r.row), .agg [.hdr (H.length, 90123) 1 (firstV r).people.length 0 (firstV r).people.length, .hdr (H.length, 110603) 2 (firstV r).hands.length 0 (firstV r).hands.length, .nils], .pure (.slice (r.acts.map RAct.row))] c (frN r H.length false :: H) =
  some (.pure (scnP (runR r r.acts.length (firstV r) r.acts 0)), frN r H.length true :: H) := by
 rw [gcall_frz rfl rfl rfl]
 have t1 : List.take (firstV r).people.length ((firstV r).people.map irow) = (firstV r).people.map irow := List.take_of_length_le (by simp)
 have t2 : List.take (firstV r).hands.length ((firstV r).hands.map Hands.row) = (firstV r).hands.map Hands.row := List.take_of_length_le (by simp)
 have e : frzVals (frN r H.length false :: H) [.pure (.agg r.row), .agg [.hdr (H.length, 90123) 1 (firstV r).people.length 0 (firstV r).people.length, .hdr (H.length, 110603) 2 (firstV r).hands.length 0 (firstV r).hands.length, .nils], .pure (.slice (r.acts.map RAct.row))] = ([.pure (.agg r.row), .agg [.pure (.slice ((firstV r).people.map irow)), .pure (.slice ((firstV r).hands.map Hands.row)), .nils], .pure (.slice (r.acts.map RAct.row))], frN r H.length true :: H) := by
  simp [frzVals, frzVal, frzCells, frzCell, frN, t1, t2]
 have e2 : (firstV r).row = [.slice ((firstV r).people.map irow), .slice ((firstV r).hands.map Hands.row), .slice []] := by simp [Scene.row, firstV, ht0]
 rw [e, gcall0_canonQ (b := [.pure (.agg r.row), .pure (.agg (firstV r).row), .pure (.slice (r.acts.map RAct.row))]) (by rw [e2]; rfl)]
 exact scenes_ok0R h.w r.acts h.al h.ab h.snd ⟨by simpa [firstV] using h.p0, by simpa [firstV] using h.p0, by simp [firstV]; exact h.w.pl, by simp [firstV]; exact h.w.pl, by simp [firstV]; exact h.w.tl⟩ (by simp)
theorem run_okN {r : Rite} (h : Runs r) (ht0 : r.things = []) (hH : 0 < H.length) :
    gcall KC (geval KC) 61 [.pure (.agg r.row)] c H =
      some (.pure (.tuple (if (accR r).2.2.2 = 0 then [.slice ((accR r).1.map Scene.row), .int .i64 (-1), .int .i64 0] else [.slice [], .int .i64 (accR r).2.2.1, .int .i64 (accR r).2.2.2])), H) := by
  refine WPv_eq (call_enter KC needT Tryz.func61 rfl rfl good61 rfl rfl rfl (by simp) hH ?_)
  have k1 : newKey 10 22 = 90123 := by decide
  have k2 : newKey 10 27 = 110603 := by decide
  have C := firstB_okE (c := 10) (H := [(1, rbox r)] :: H) r (rg := .pure (.agg r.row)) rfl h.p0 ht0 h.w.pl h.w.tl (by simp) (by simp [k1]) (by simp [k2])
  simp only [List.length_cons, Nat.add_sub_cancel, k1, k2] at C
  have hC : Heap.set (Heap.set ([(1, rbox r)] :: H) (H.length, 90123) (.arr 1 ((firstV r).people.map irow) 0 false)) (H.length, 110603) (.arr 2 ((firstV r).hands.map Hands.row) 0 false) = [(1, rbox r), (90123, .arr 1 ((firstV r).people.map irow) 0 false), (110603, .arr 2 ((firstV r).hands.map Hands.row) 0 false)] :: H := by
    simp
  rw [hC] at C
  have S := fun c => scenes_frN (c := c) (H := H) h ht0
  have PC := frN_cells (H := H) (r := r) (ro := true)
  have hlast := runR_last (r := r) r.acts.length (firstV r) r.acts 0
  have hsn := runR_snd r.acts.length (firstV r) r.acts 0 h.snd h.ab
  obtain ⟨q, hq⟩ : ∃ q, runR r r.acts.length (firstV r) r.acts 0 = q := ⟨_, rfl⟩
  have ha : accR r = (firstV r :: q.1, q.2.1, if q.2.2.2 = 0 ∧ ordV r q.2.1 = false then ((r.acts.length : Int), 11) else q.2.2) := by unfold accR; simp only [hq]
  rw [hq] at S hlast hsn
  rw [ha]
  have hll : q.1.length ≤ 1000000 := by rw [← hq]; exact Nat.le_trans (runR_len ..) h.al
  obtain ⟨l, s, at', e⟩ := q
  simp only [scnP] at S hlast hsn hll ⊢
  have OR := fun c (H : Heap) (hH : 0 < H.length) => orderedR_ok (c := c) (H := H) r s h.w.tl (by rw [hsn.1.hl]; exact h.w.pl) hsn.1.tl hH
  rw [rowR] at C S OR ⊢
  simp only [scH, rbox, frN] at C S PC ⊢
  have hft : (firstV r).things = [] := by simp [firstV, ht0]
  generalize firstV r = fi at C S PC hlast hft ⊢
  by_cases he : e = 0
  · subst he
    simp only [if_true] at S
    have hg : ((fi :: l).map Scene.row)[l.length]'(by simp) = s.row := by
      rw [List.getElem_map]
      congr 1
      rw [← hlast]
      simp [List.getD_eq_getElem?_getD]
    simp only [List.map_cons] at hg
    by_cases hl : l = []
    · subst hl
      have hfs : fi = s := by simpa using hlast
      subst hfs
      unfold Scene.row at OR
      simp only [hft, List.map_nil] at OR
      cases ho : ordV r fi with
      | true =>
        rw [ho] at OR
        simp [C, S, PC, OR]
        rw [gleave_free (by simp)]
        have hnl : ¬ H.length ≤ H.length - 1 := by omega
        simp [hnl, Scene.row, hft]
      | false =>
        rw [ho] at OR
        simp [C, S, PC, OR]
        rw [gleave_free (by simp)]
        simp
    · have hb : (l.length + 1) * 72 ≤ 1099511627776 := by omega
      have hb2 : (1 + l.length) * 72 ≤ 1099511627776 := by omega
      have hall : ∀ x : Scene, x.row.length = 3 := fun _ => rfl
      have hw : IntKind.i64.wrap ((1 : Int) + (l.length : Int) - 1) = (l.length : Int) := by
        rw [show (1 : Int) + (l.length : Int) - 1 = (l.length : Int) by omega]
        exact w64 (by omega) (by omega)
      have hlt : (l.length : Int) < 1 + (l.length : Int) := by omega
      have hlt2 : l.length < l.length + 1 := by omega
      have hle : 1 + l.length ≤ l.length + 1 := by omega
      have e3 : fi.row = [PV.slice (fi.people.map irow), PV.slice (fi.hands.map Hands.row), PV.slice []] := by simp [Scene.row, hft]
      simp only [e3] at hg
      have hg' : ([PV.slice (fi.people.map irow), PV.slice (fi.hands.map Hands.row), PV.slice []] :: l.map Scene.row)[l.length]'(by simp) = s.row := hg
      have tk3 : List.take 3 s.row = s.row := rfl
      have hs3 : 3 ≤ s.row.length := Nat.le_refl _
      have hnl : ¬ H.length ≤ H.length - 1 := by omega
      have tka : List.take (1 + l.length) ([PV.slice (fi.people.map irow), PV.slice (fi.hands.map Hands.row), PV.slice []] :: l.map Scene.row) = [PV.slice (fi.people.map irow), PV.slice (fi.hands.map Hands.row), PV.slice []] :: l.map Scene.row := List.take_of_length_le (by simp; omega)
      cases ho : ordV r s with
      | true =>
        rw [ho] at OR
        simp [C, S, PC, hl, hb, hb2, hall, hw, hlt, hlt2, hle, hg', tk3, OR]
        rw [gleave_free (by simp)]
        simp [hnl, hle, tka, e3]
      | false =>
        rw [ho] at OR
        simp [C, S, PC, hl, hb, hb2, hall, hw, hlt, hlt2, hle, hg', tk3, OR]
        rw [gleave_free (by simp)]
        simp
  · have he' : (e == 0) = false := by simpa using he
    simp only [he, if_false] at S
    simp [C, S, he, he']
    rw [gleave_free (by simp)]
    simp
theorem run_okR {r : Rite} (h : Runs r) (hH : 0 < H.length) :
  gcall KC (geval KC) 61 [.pure (.agg r.row)] c H =
   some (.pure (.tuple (if (accR r).2.2.2 = 0 then [.slice ((accR r).1.map Scene.row), .int .i64 (-1), .int .i64 0] else [.slice [], .int .i64 (accR r).2.2.1, .int .i64 (accR r).2.2.2])), H) := by
 by_cases t0 : r.things = []
 ·exact run_okN h t0 hH
 ·exact run_okT h t0 hH
end
section
variable {c : Nat} {H : Heap}
noncomputable def runO (r : Rite) : PV := .tuple (if checkF r = 0 then (if (accR r).2.2.2 = 0 then [.agg (accR r).2.1.row, .int .i64 (-1), .int .i64 0] else [.agg [.slice [], .slice [], .slice []], .int .i64 (accR r).2.2.1, .int .i64 (accR r).2.2.2]) else [.agg [.slice [], .slice [], .slice []], .int .i64 0, .int .i64 (checkF r)])
noncomputable def scnO (r : Rite) : PV := .tuple (if checkF r = 0 then (if (accR r).2.2.2 = 0 then [.slice ((accR r).1.map Scene.row), .int .i64 0] else [.slice [], .int .i64 (accR r).2.2.2]) else [.slice [], .int .i64 (checkF r)])
theorem Run_all0 {r : Rite} (sh : Short r) (hH : 0 < H.length) : gcall0 KC (geval KC) 15 [.pure (.agg r.row)] c H = some (.pure (runO r), H) := by
 unfold runO
 by_cases h0 : checkF r = 0
 ·rw [if_pos h0]
  exact Run_ok0 (runs_of h0 sh) hH
 ·rw [if_neg h0]
  refine WPv_eq (call_enter0 KC needT Tryz.func15 rfl rfl good15 (by simp) hH ?_)
  have C := fun c (H : Heap) (hH : 0 < H.length) => check_ok (c := c) (H := H) r sh.s sh.l sh.p sh.t sh.a hH
  have he' : (checkF r != 0) = true := by simpa using h0
  rw [rowR] at C ⊢
  simp [C, he', splice]
  rw [gleave_free (by simp)]
  simp
theorem Scenes_all0 {r : Rite} (sh : Short r) (hH : 0 < H.length) : gcall0 KC (geval KC) 17 [.pure (.agg r.row)] c H = some (.pure (scnO r), H) := by
 unfold scnO
 by_cases h0 : checkF r = 0
 ·rw [if_pos h0]
  exact Scenes_ok0 (runs_of h0 sh) hH
 ·rw [if_neg h0]
  refine WPv_eq (call_enter0 KC needT Tryz.func17 rfl rfl good17 (by simp) hH ?_)
  have C := fun c (H : Heap) (hH : 0 < H.length) => check_ok (c := c) (H := H) r sh.s sh.l sh.p sh.t sh.a hH
  have he' : (checkF r != 0) = true := by simpa using h0
  rw [rowR] at C ⊢
  simp [C, he', splice]
  rw [gleave_free (by simp)]
  simp
theorem ScenesR_all {r : Rite} (sh : Short r) (hH : 0 < H.length) : gcall KC (geval KC) 18 [.pure (.agg r.row)] c H = some (.pure (scnO r), H) := by
 unfold scnO
 refine WPv_eq (call_enter KC needT Tryz.func18 rfl rfl good18 rfl rfl rfl (by simp) hH ?_)
 have C := fun c (H : Heap) (hH : 0 < H.length) => checkRB_ok (c := c) (H := H) (g := .pure (.agg r.row)) r sh rfl hH
 by_cases h0 : checkF r = 0
 ·rw [if_pos h0]
  have R := fun c (H : Heap) (hH : 0 < H.length) => run_okR (c := c) (H := H) (runs_of h0 sh) hH
  rw [h0] at C
  generalize accR r = q at R ⊢
  obtain ⟨l, s, at', e⟩ := q
  simp only at R ⊢
  rw [rowR] at C R ⊢
  by_cases he : e = 0
  ·subst he
   simp only [if_true] at R
   simp [C, R]
   rw [gleave_free (by simp)]
   simp
  ·simp only [he, if_false] at R
   simp [C, R, he]
   rw [gleave_free (by simp)]
   simp
 ·rw [if_neg h0]
  have he' : (checkF r != 0) = true := by simpa using h0
  rw [rowR] at C ⊢
  simp [C, he']
  rw [gleave_free (by simp)]
  simp
theorem RunR_all {r : Rite} (sh : Short r) (hH : 0 < H.length) : gcall KC (geval KC) 16 [.pure (.agg r.row)] c H = some (.pure (runO r), H) := by
 unfold runO
 refine WPv_eq (call_enter KC needT Tryz.func16 rfl rfl good16 rfl rfl rfl (by simp) hH ?_)
 have C := fun c (H : Heap) (hH : 0 < H.length) => checkRB_ok (c := c) (H := H) (g := .pure (.agg r.row)) r sh rfl hH
 by_cases h0 : checkF r = 0
 ·rw [if_pos h0]
  have hr := runs_of h0 sh
  have R := fun c (H : Heap) (hH : 0 < H.length) => run_okR (c := c) (H := H) hr hH
  rw [h0] at C
  have hlast : (accR r).1.getD ((accR r).1.length - 1) (firstV r) = (accR r).2.1 := by
   unfold accR
   simpa using runR_last (r := r) r.acts.length (firstV r) r.acts 0
  have hpos : 0 < (accR r).1.length := by unfold accR; simp
  have hlen : (accR r).1.length ≤ 1000001 := by
   unfold accR
   simp only [List.length_cons]
   have := runR_len (r := r) r.acts.length (firstV r) r.acts 0
   have := hr.al
   omega
  generalize accR r = q at R hlast hpos hlen ⊢
  obtain ⟨l, s, at', e⟩ := q
  simp only at R hlast hpos hlen ⊢
  rw [rowR] at C R ⊢
  by_cases he : e = 0
  ·subst he
   simp only [if_true] at R
   have hlt : l.length - 1 < l.length := by omega
   have hg : l[l.length - 1] = s := by rw [← hlast, List.getD_eq_getElem?_getD, List.getElem?_eq_getElem hlt]; rfl
   have hw : IntKind.i64.wrap ((l.length : Int) - 1) = ((l.length - 1 : Nat) : Int) := by
    rw [show (l.length : Int) - 1 = ((l.length - 1 : Nat) : Int) by omega]
    exact w64 (by omega) (by omega)
   obtain ⟨n, hn⟩ : ∃ n, l.length - 1 = n := ⟨_, rfl⟩
   simp only [hn] at hg hw hlt
   simp [C, R, hw, hlt, hg, splice, Scene.row]
   rw [gleave_free (by simp)]
   simp
  ·simp only [he, if_false] at R
   have he' : (e != 0) = true := by simpa using he
   simp [C, R, he, he', splice]
   rw [gleave_free (by simp)]
   simp
 ·rw [if_neg h0]
  have he' : (checkF r != 0) = true := by simpa using h0
  rw [rowR] at C ⊢
  simp [C, he', splice]
  rw [gleave_free (by simp)]
  simp
end
section
variable {c : Nat} {H : Heap}
theorem canon1_if {rows : List (List PV)} : canon1 (if rows = [] then .nils else .pure (.slice rows)) = .pure (.slice rows) := by
 split
 ·rename_i h; subst h; rfl
 ·rfl
theorem with_ok (r : Rite) (h : Short r) (acts : List RAct) (hal : acts.length ≤ 1000000) (hH : 0 < H.length) :
  gcall KC (geval KC) 67 [.pure (.agg r.row), .pure (.slice (acts.map RAct.row))] c H = some (.pure (.agg ({ r with acts := acts } : Rite).row), H) := by
 refine WPv_eq (call_enter KC needT Tryz.func67 rfl rfl good67 rfl rfl rfl (by simp) hH ?_)
 rw [rowR]
 have h1 := h.p
 have h2 := h.t
 have h4 := h.s
 have h5 := h.l
 have b1 : r.people.length * 16 ≤ 1099511627776 := by omega
 have b2 : r.things.length * 40 ≤ 1099511627776 := by omega
 have b3 : r.seen.length * 8 ≤ 1099511627776 := by omega
 have b4 : r.lapses.length * 8 ≤ 1099511627776 := by omega
 have b5 : acts.length * 72 ≤ 1099511627776 := by omega
 have l1 : ∀ x : Person, x.row.length = 2 := fun x => rfl
 have l2 : ∀ x : Thing, x.row.length = 5 := fun x => rfl
 have l3 : ∀ x : RAct, x.row.length = 9 := fun x => rfl
 have l4 : ∀ x : Int, (irow x).length = 1 := fun x => rfl
 have A1 := fun fr hf => apK_from (H := H) (l := H.length) (key := 8) (es := 2) (bytes := 16) (rows := r.people.map Person.row) (fr := fr) rfl hf (by simpa using b1)
 have A2 := fun fr hf => apK_from (H := H) (l := H.length) (key := 12) (es := 5) (bytes := 40) (rows := r.things.map Thing.row) (fr := fr) rfl hf (by simpa using b2)
 have A3 := fun fr hf => apK_from (H := H) (l := H.length) (key := 18) (es := 1) (bytes := 8) (rows := r.seen.map irow) (fr := fr) rfl hf (by simpa using b3)
 have A4 := fun fr hf => apK_from (H := H) (l := H.length) (key := 22) (es := 1) (bytes := 8) (rows := r.lapses.map irow) (fr := fr) rfl hf (by simpa using b4)
 have A5 := fun fr hf => apK_from (H := H) (l := H.length) (key := 27) (es := 9) (bytes := 72) (rows := acts.map RAct.row) (fr := fr) rfl hf (by simpa using b5)
 simp [A1, A2, A3, A4, A5, l1, l2, l3, l4, splice]
 generalize hx : Blk.box [.pure (.int .i64 r.wide), .pure (.int .i64 r.deep), apS (H.length, 8) 2 (r.people.map Person.row), apS (H.length, 12) 5 (r.things.map Thing.row), apS (H.length, 18) 1 (r.seen.map irow), apS (H.length, 22) 1 (r.lapses.map irow), apS (H.length, 27) 9 (acts.map RAct.row)] = x
 obtain ⟨F, hF⟩ : ∃ F, apF 27 9 (acts.map RAct.row) (apF 22 1 (r.lapses.map irow) (apF 18 1 (r.seen.map irow) (apF 12 5 (r.things.map Thing.row) (apF 8 2 (r.people.map Person.row) [(2, x), (4, x)])))) = F := ⟨_, rfl⟩
 have g1 : r.people.map Person.row ≠ [] → F.get 8 = some (.arr 2 (r.people.map Person.row) 0 false) := fun h => by
  rw [← hF, apF_get (by decide), apF_get (by decide), apF_get (by decide), apF_get (by decide), apF_self h]
 have g2 : r.things.map Thing.row ≠ [] → F.get 12 = some (.arr 5 (r.things.map Thing.row) 0 false) := fun h => by
  rw [← hF, apF_get (by decide), apF_get (by decide), apF_get (by decide), apF_self h]
 have g3 : r.seen.map irow ≠ [] → F.get 18 = some (.arr 1 (r.seen.map irow) 0 false) := fun h => by
  rw [← hF, apF_get (by decide), apF_get (by decide), apF_self h]
 have g4 : r.lapses.map irow ≠ [] → F.get 22 = some (.arr 1 (r.lapses.map irow) 0 false) := fun h => by
  rw [← hF, apF_get (by decide), apF_self h]
 have g5 : acts.map RAct.row ≠ [] → F.get 27 = some (.arr 9 (acts.map RAct.row) 0 false) := fun h => by
  rw [← hF, apF_self h]
 rw [hF, gleave_free (by simp), WPv_some]
 have lt : H.length - 1 < H.length := by omega
 rw [clean_agg]
 have e : canon (mkAgg ([.pure (.int .i64 r.wide), .pure (.int .i64 r.deep), apS (H.length, 8) 2 (r.people.map Person.row), apS (H.length, 12) 5 (r.things.map Thing.row), apS (H.length, 18) 1 (r.seen.map irow), apS (H.length, 22) 1 (r.lapses.map irow), apS (H.length, 27) 9 (acts.map RAct.row)].map (clean1 (F :: H) (H.length - 1)))) = .pure (.agg ({ r with acts := acts } : Rite).row) := by
  refine canon_mk ?_
  simp only [List.map_cons, List.map_nil, clean1_pure, clean1_apS rfl lt g1, clean1_apS rfl lt g2, clean1_apS rfl lt g3, clean1_apS rfl lt g4, clean1_apS rfl lt g5, canon1_if]
  rfl
 rw [e]
end
section
variable {c : Nat} {H : Heap}
theorem cloneP_F (l : List Person) (hn : l.length ≤ 1000000) {F : Fr} (hf : F.get (newKey c 7) = none) :
  gcall KC (geval KC) 102 [.pure (.slice (l.map Person.row))] c (F :: H) = some (apS (H.length, newKey c 7) 2 (l.map Person.row), apF (newKey c 7) 2 (l.map Person.row) F :: H) := by
 by_cases h : l = []
 ·subst h
  unfold gcall
  rw [show KC.cln 102 = true from rfl]
  simp [emptyArg, apS_nil, apF_nil]
 ·have h' : l.map Person.row ≠ [] := by simpa using h
  rw [clonePerson_ok (c := c) (H := F :: H) l h hn (by simp) (by simpa using hf)]
  unfold apS apF
  rw [if_neg h', if_neg h']
  simp
theorem cloneT_F (l : List Thing) (hn : l.length ≤ 1000000) {F : Fr} (hf : F.get (newKey c 7) = none) :
  gcall KC (geval KC) 103 [.pure (.slice (l.map Thing.row))] c (F :: H) = some (apS (H.length, newKey c 7) 5 (l.map Thing.row), apF (newKey c 7) 5 (l.map Thing.row) F :: H) := by
 by_cases h : l = []
 ·subst h
  unfold gcall
  rw [show KC.cln 103 = true from rfl]
  simp [emptyArg, apS_nil, apF_nil]
 ·have h' : l.map Thing.row ≠ [] := by simpa using h
  rw [cloneThing_ok (c := c) (H := F :: H) l h hn (by simp) (by simpa using hf)]
  unfold apS apF
  rw [if_neg h', if_neg h']
  simp
theorem cloneI_F (l : List Int) (hn : l.length ≤ 1000000) {F : Fr} (hf : F.get (newKey c 7) = none) :
  gcall KC (geval KC) 99 [.pure (.slice (l.map irow))] c (F :: H) = some (apS (H.length, newKey c 7) 1 (l.map irow), apF (newKey c 7) 1 (l.map irow) F :: H) := by
 by_cases h : l = []
 ·subst h
  unfold gcall
  rw [show KC.cln 99 = true from rfl]
  simp [emptyArg, apS_nil, apF_nil]
 ·have h' : l.map irow ≠ [] := by simpa using h
  rw [cloneint_ok (c := c) (H := F :: H) l h hn (by simp) (by simpa using hf)]
  unfold apS apF
  rw [if_neg h', if_neg h']
  simp
theorem cloneA_F (l : List RAct) (hn : l.length ≤ 1000000) {F : Fr} (hf : F.get (newKey c 7) = none) :
  gcall KC (geval KC) 75 [.pure (.slice (l.map RAct.row))] c (F :: H) = some (apS (H.length, newKey c 7) 9 (l.map RAct.row), apF (newKey c 7) 9 (l.map RAct.row) F :: H) := by
 by_cases h : l = []
 ·subst h
  unfold gcall
  rw [show KC.cln 75 = true from rfl]
  simp [emptyArg, apS_nil, apF_nil]
 ·have h' : l.map RAct.row ≠ [] := by simpa using h
  rw [cloneAct_ok (c := c) (H := F :: H) l h hn (by simp) (by simpa using hf)]
  unfold apS apF
  rw [if_neg h', if_neg h']
  simp
theorem ownP_ok (r : Rite) (h : Short r) (acts : List RAct) (hal : acts.length ≤ 1000000) (hH : 0 < H.length) :
  gcall KC (geval KC) 65 [.pure (.agg r.row), .pure (.slice (acts.map RAct.row))] c H = some (.pure (.agg ({ r with acts := acts } : Rite).row), H) := by
 refine WPv_eq (call_enter KC needT Tryz.func65 rfl rfl good65 rfl rfl rfl (by simp) hH ?_)
 rw [rowR]
 have h1 := h.p
 have h2 := h.t
 have h4 := h.s
 have h5 := h.l
 have m1 : newKey 7 7 = 28680 := by decide
 have m2 : newKey 10 7 = 28683 := by decide
 have m3 : newKey 13 7 = 28686 := by decide
 have m4 : newKey 16 7 = 28689 := by decide
 have m5 : newKey 18 7 = 28691 := by decide
 have C1 := fun (F : Fr) hf => cloneP_F (c := 7) (H := H) (F := F) r.people h1 hf
 have C2 := fun (F : Fr) hf => cloneT_F (c := 10) (H := H) (F := F) r.things h2 hf
 have C3 := fun (F : Fr) hf => cloneI_F (c := 13) (H := H) (F := F) r.seen h4 hf
 have C4 := fun (F : Fr) hf => cloneI_F (c := 16) (H := H) (F := F) r.lapses h5 hf
 have C5 := fun (F : Fr) hf => cloneA_F (c := 18) (H := H) (F := F) acts hal hf
 rw [m1] at C1
 rw [m2] at C2
 rw [m3] at C3
 rw [m4] at C4
 rw [m5] at C5
 simp [C1, C2, C3, C4, C5, splice]
 generalize hx : Blk.box [.pure (.int .i64 r.wide), .pure (.int .i64 r.deep), apS (H.length, 28680) 2 (r.people.map Person.row), apS (H.length, 28683) 5 (r.things.map Thing.row), apS (H.length, 28686) 1 (r.seen.map irow), apS (H.length, 28689) 1 (r.lapses.map irow), apS (H.length, 28691) 9 (acts.map RAct.row)] = x
 obtain ⟨F, hF⟩ : ∃ F, apF 28691 9 (acts.map RAct.row) (apF 28689 1 (r.lapses.map irow) (apF 28686 1 (r.seen.map irow) (apF 28683 5 (r.things.map Thing.row) (apF 28680 2 (r.people.map Person.row) [(2, x), (4, x)])))) = F := ⟨_, rfl⟩
 have g1 : r.people.map Person.row ≠ [] → F.get 28680 = some (.arr 2 (r.people.map Person.row) 0 false) := fun h => by
  rw [← hF, apF_get (by decide), apF_get (by decide), apF_get (by decide), apF_get (by decide), apF_self h]
 have g2 : r.things.map Thing.row ≠ [] → F.get 28683 = some (.arr 5 (r.things.map Thing.row) 0 false) := fun h => by
  rw [← hF, apF_get (by decide), apF_get (by decide), apF_get (by decide), apF_self h]
 have g3 : r.seen.map irow ≠ [] → F.get 28686 = some (.arr 1 (r.seen.map irow) 0 false) := fun h => by
  rw [← hF, apF_get (by decide), apF_get (by decide), apF_self h]
 have g4 : r.lapses.map irow ≠ [] → F.get 28689 = some (.arr 1 (r.lapses.map irow) 0 false) := fun h => by
  rw [← hF, apF_get (by decide), apF_self h]
 have g5 : acts.map RAct.row ≠ [] → F.get 28691 = some (.arr 9 (acts.map RAct.row) 0 false) := fun h => by
  rw [← hF, apF_self h]
 rw [hF, gleave_free (by simp), WPv_some]
 have lt : H.length - 1 < H.length := by omega
 rw [clean_agg]
 have e : canon (mkAgg ([.pure (.int .i64 r.wide), .pure (.int .i64 r.deep), apS (H.length, 28680) 2 (r.people.map Person.row), apS (H.length, 28683) 5 (r.things.map Thing.row), apS (H.length, 28686) 1 (r.seen.map irow), apS (H.length, 28689) 1 (r.lapses.map irow), apS (H.length, 28691) 9 (acts.map RAct.row)].map (clean1 (F :: H) (H.length - 1)))) = .pure (.agg ({ r with acts := acts } : Rite).row) := by
  refine canon_mk ?_
  simp only [List.map_cons, List.map_nil, clean1_pure, clean1_apS rfl lt g1, clean1_apS rfl lt g2, clean1_apS rfl lt g3, clean1_apS rfl lt g4, clean1_apS rfl lt g5, canon1_if]
  rfl
 rw [e]
end
section
variable {c : Nat} {H : Heap}
def bare (a : RAct) : RAct := { a with seasons := 0, rank := 0 }
def zr : Blk := .box [.pure (.int .i64 0), .pure (.int .i64 0), .nils, .nils, .nils, .nils, .nils]
noncomputable def passV : Nat → Int → RAct → Bool := hid fun kk n a => (decide (a.seasons = 0) || band .i64 (a.seasons.fdiv (2 ^ (min kk 64))) 1 == 1) && decide (a.rank ≤ n)
theorem passV_def (kk : Nat) (n : Int) (a : RAct) : passV kk n a = ((decide (a.seasons = 0) || band .i64 (a.seasons.fdiv (2 ^ (min kk 64))) 1 == 1) && decide (a.rank ≤ n)) := by rw [passV, hid_eq]
noncomputable def chosenL (kk : Nat) (n : Int) (l : List RAct) : List RAct := (l.filter (passV kk n)).map bare
theorem chosen_cons (kk : Nat) (n : Int) (a : RAct) (l : List RAct) : chosenL kk n (a :: l) = if passV kk n a = true then bare a :: chosenL kk n l else chosenL kk n l := by
 unfold chosenL
 by_cases h : passV kk n a = true
 ·rw [List.filter_cons_of_pos h, if_pos h]; rfl
 ·rw [List.filter_cons_of_neg h, if_neg h]
theorem choose_loop (r : Rite) (kk : Nat) (n : Int) (hk : kk ≤ 3) (hn : r.acts.length ≤ 1000000) (fin : List RAct) (Q : GX → GSt → Prop) (hH : 0 < H.length)
    (h1 : Q (.exit 0) ⟨[(3, .bptr (H.length, 3) 0), (6, .bptr (H.length, 6) 0), (9, apS (H.length, 56) 9 (fin.map RAct.row))], apF 56 9 (fin.map RAct.row) [(3, rbox r), (6, zr)] :: H, 61⟩) : ∀ (k i : Nat) (done : List RAct), i + k = r.acts.length → done.length ≤ i → done ++ chosenL kk n (r.acts.drop i) = fin →
    WPL KC needT 19 (lp Tryz.f19 0) [1, 2, 3, 6, 9, 28, 29, 30] [3, 6, 9] Q [(1, .pure (.int .i64 kk)), (2, .pure (.int .i64 n)), (3, .bptr (H.length, 3) 0), (6, .bptr (H.length, 6) 0), (9, apS (H.length, 56) 9 (done.map RAct.row)), (28, .pure (.slice (r.acts.map RAct.row))), (29, .pure (.int .i64 r.acts.length)), (30, .pure (.int .i64 i))] (apF 56 9 (done.map RAct.row) [(3, rbox r), (6, zr)] :: H) 61 := by
  intro k
  induction k with
  | zero =>
    intro i done hi hd hf
    have hia : ¬ i < r.acts.length := by omega
    rw [List.drop_eq_nil_of_le (by omega)] at hf
    simp [chosenL] at hf
    subst hf
    apply WPL_step
    conv => arg 4; whnf
    simp [hia, hH]
    exact h1
  | succ k ih =>
    intro i done hi hd hf
    have hia : i < r.acts.length := by omega
    have hw := w64 (x := (i : Int) + 1) (by omega) (by omega)
    rw [List.drop_eq_getElem_cons hia, chosen_cons] at hf
    have hkn : ¬ (kk : Int) < 0 := by omega
    have kt : Int.toNat (kk : Int) = kk := by omega
    have A := fun f0 => apK_1 (H := H) (l := H.length) (key := 56) (es := 9) (bytes := 72) (rows := done.map RAct.row) (r := (bare r.acts[i]).row) (fr := [(3, rbox r), (6, zr)]) (f0 := f0) rfl rfl (by simp; omega)
    simp only [RAct.row, bare] at A
    apply WPL_step
    conv => arg 4; whnf
    by_cases hp : passV kk n r.acts[i] = true
    · have hf' : (done ++ [bare r.acts[i]]) ++ chosenL kk n (r.acts.drop (i + 1)) = fin := by rw [if_pos hp] at hf; rw [← hf, List.append_assoc]; rfl
      have ih' := ih (i + 1) (done ++ [bare r.acts[i]]) (by omega) (by simp; omega) hf'
      rw [passV_def] at hp
      have hr : r.acts[i].rank ≤ n := by simp at hp; exact hp.2
      by_cases hz : r.acts[i].seasons = 0
      · have hz' : (r.acts[i].seasons == 0) = true := by simpa using hz
        simp [hia, hH, RAct.row, hw, hz, hz', hr, A]
        simpa [RAct.row, bare] using ih'
      · have hz' : (r.acts[i].seasons == 0) = false := by simpa using hz
        have hb : (band .i64 (r.acts[i].seasons.fdiv (2 ^ (min kk 64))) 1 == 1) = true := by simp [hz] at hp; simpa using hp.1
        simp [hia, hH, RAct.row, hw, hz, hz', hr, A, hkn, kt, hb]
        simpa [RAct.row, bare] using ih'
    · have hf' : done ++ chosenL kk n (r.acts.drop (i + 1)) = fin := by rw [if_neg hp] at hf; exact hf
      have ih' := ih (i + 1) done (by omega) (by omega) hf'
      rw [passV_def] at hp
      by_cases hz : r.acts[i].seasons = 0
      · have hz' : (r.acts[i].seasons == 0) = true := by simpa using hz
        have hr : ¬ r.acts[i].rank ≤ n := by simp [hz] at hp; omega
        simp [hia, hH, RAct.row, hw, hz, hz', hr]
        simpa using ih'
      · have hz' : (r.acts[i].seasons == 0) = false := by simpa using hz
        by_cases hb : (band .i64 (r.acts[i].seasons.fdiv (2 ^ (min kk 64))) 1 == 1) = true
        · have hr : ¬ r.acts[i].rank ≤ n := by rw [hb] at hp; simp at hp; omega
          simp [hia, hH, RAct.row, hw, hz, hz', hr, hkn, kt, hb]
          simpa using ih'
        · have hb' : (band .i64 (r.acts[i].seasons.fdiv (2 ^ (min kk 64))) 1 == 1) = false := by simpa using hb
          simp [hia, hH, RAct.row, hw, hz, hz', hkn, kt, hb']
          simpa using ih'
end
section
variable {c : Nat} {H : Heap}
def zrP : PV := .agg [.int .i64 0, .int .i64 0, .slice [], .slice [], .slice [], .slice [], .slice []]
noncomputable def choO (r : Rite) (k n : Int) : PV := .tuple (if checkF r = 0 then (if inB k 0 3 = true ∧ inB n 0 9 = true then [.agg ({ r with acts := chosenL k.toNat n r.acts } : Rite).row, .int .i64 0] else [zrP, .int .i64 2]) else [zrP, .int .i64 (checkF r)])
theorem Choose_all0 {r : Rite} (sh : Short r) (k n : Int) (hH : 0 < H.length) : gcall0 KC (geval KC) 19 [.pure (.agg r.row), .pure (.int .i64 k), .pure (.int .i64 n)] c H = some (.pure (choO r k n), H) := by
 unfold choO
 have C := fun (c : Nat) (H : Heap) (hH : 0 < H.length) => checkB_ok (c := c) (g := .pure (.agg r.row)) r sh (show rdG H (.pure (.agg r.row)) (.agg r.row) from rfl) hH
 have I := fun (c : Nat) (x lo hi : Int) (H : Heap) (hH : 0 < H.length) => in_ok (c := c) (x := x) (lo := lo) (hi := hi) (H := H) hH
 refine WPv_eq (call_enter0 KC needT Tryz.func19 rfl rfl good19 (by simp) hH ?_)
 by_cases h0 : checkF r = 0
 ·rw [if_pos h0]
  rw [h0] at C
  by_cases hk : inB k 0 3 = true
  ·by_cases hn : inB n 0 9 = true
   ·rw [if_pos ⟨hk, hn⟩]
    obtain ⟨k1, k2⟩ := inB_iff.1 hk
    obtain ⟨kk, rfl⟩ := Int.eq_ofNat_of_zero_le k1
    rw [Int.toNat_natCast]
    have ha := sh.a
    have fl : (chosenL kk n r.acts).length ≤ r.acts.length := by unfold chosenL; rw [List.length_map]; exact List.length_filter_le _ _
    obtain ⟨fin, hfin⟩ : ∃ fin, chosenL kk n r.acts = fin := ⟨_, rfl⟩
    rw [hfin] at fl ⊢
    have L1 := fun Q h1 => choose_loop (H := H) r kk n (by omega) ha fin Q hH h1 r.acts.length 0 [] (by omega) (by simp) (by simpa using hfin)
    have O := fun (H : Heap) (hH : 0 < H.length) => ownP_ok (c := 60) (H := H) r sh fin (by omega) hH
    rw [rowR] at C O ⊢
    simp [C, I, hk, hn]
    simp [rbox, zr, apS_nil, apF_nil] at L1
    refine L1 _ ?_
    have O0 : ∀ (H : Heap) (hH : 0 < H.length), gcall0 KC (geval KC) 65 [.pure (.agg [.int .i64 r.wide, .int .i64 r.deep, .slice (r.people.map Person.row), .slice (r.things.map Thing.row), .slice (r.seen.map irow), .slice (r.lapses.map irow), .slice (r.acts.map RAct.row)]), .pure (.slice (fin.map RAct.row))] 60 H = some (.pure (.agg ({ r with acts := fin } : Rite).row), H) := fun H hH => by
     have := O H hH
     rw [gcall_frz rfl rfl rfl] at this
     exact this
    have er : ({ r with acts := fin } : Rite).row = [.int .i64 r.wide, .int .i64 r.deep, .slice (r.people.map Person.row), .slice (r.things.map Thing.row), .slice (r.seen.map irow), .slice (r.lapses.map irow), .slice (fin.map RAct.row)] := rfl
    rw [er] at O0 ⊢
    by_cases hf : fin = []
    ·subst hf
     have O2 : ∀ F : Fr, gcall KC (geval KC) 65 [.pure (.agg [.int .i64 r.wide, .int .i64 r.deep, .slice (r.people.map Person.row), .slice (r.things.map Thing.row), .slice (r.seen.map irow), .slice (r.lapses.map irow), .slice (r.acts.map RAct.row)]), .nils] 60 (F :: H) = some (.pure (.agg [.int .i64 r.wide, .int .i64 r.deep, .slice (r.people.map Person.row), .slice (r.things.map Thing.row), .slice (r.seen.map irow), .slice (r.lapses.map irow), .slice (([] : List RAct).map RAct.row)]), F :: H) := fun F => by
      rw [gcall_frz rfl rfl rfl]
      exact (gcall0_canonQ (b := [.pure (.agg [.int .i64 r.wide, .int .i64 r.deep, .slice (r.people.map Person.row), .slice (r.things.map Thing.row), .slice (r.seen.map irow), .slice (r.lapses.map irow), .slice (r.acts.map RAct.row)]), .pure (.slice (([] : List RAct).map RAct.row))]) rfl).trans (O0 (F :: H) (by simp))
     simp only [List.map_nil, apS_nil, apF_nil, rbox, zr]
     simp [O2, splice]
     rw [gleave_free (by simp)]
     simp
    ·have hr : fin.map RAct.row ≠ [] := by simpa using hf
     have tk : List.take fin.length (fin.map RAct.row) = fin.map RAct.row := List.take_of_length_le (by simp)
     have O2 : gcall KC (geval KC) 65 [.pure (.agg [.int .i64 r.wide, .int .i64 r.deep, .slice (r.people.map Person.row), .slice (r.things.map Thing.row), .slice (r.seen.map irow), .slice (r.lapses.map irow), .slice (r.acts.map RAct.row)]), .hdr (H.length, 56) 9 fin.length 0 fin.length] 60 ([(3, rbox r), (6, zr), (56, .arr 9 (fin.map RAct.row) 0 false)] :: H) = some (.pure (.agg [.int .i64 r.wide, .int .i64 r.deep, .slice (r.people.map Person.row), .slice (r.things.map Thing.row), .slice (r.seen.map irow), .slice (r.lapses.map irow), .slice (fin.map RAct.row)]), [(3, rbox r), (6, zr), (56, .arr 9 (fin.map RAct.row) 0 true)] :: H) := by
      rw [gcall_frz rfl rfl rfl]
      have e : frzVals ([(3, rbox r), (6, zr), (56, .arr 9 (fin.map RAct.row) 0 false)] :: H) [.pure (.agg [.int .i64 r.wide, .int .i64 r.deep, .slice (r.people.map Person.row), .slice (r.things.map Thing.row), .slice (r.seen.map irow), .slice (r.lapses.map irow), .slice (r.acts.map RAct.row)]), .hdr (H.length, 56) 9 fin.length 0 fin.length] = ([.pure (.agg [.int .i64 r.wide, .int .i64 r.deep, .slice (r.people.map Person.row), .slice (r.things.map Thing.row), .slice (r.seen.map irow), .slice (r.lapses.map irow), .slice (r.acts.map RAct.row)]), .pure (.slice (fin.map RAct.row))], [(3, rbox r), (6, zr), (56, .arr 9 (fin.map RAct.row) 0 true)] :: H) := by
       simp [frzVals, frzVal, frzCell, tk]
      rw [e]
      exact O0 _ (by simp)
     have eS : apS (H.length, 56) 9 (fin.map RAct.row) = .hdr (H.length, 56) 9 fin.length 0 fin.length := by unfold apS; rw [if_neg hr]; simp
     have eF : apF 56 9 (fin.map RAct.row) [(3, rbox r), (6, zr)] = [(3, rbox r), (6, zr), (56, .arr 9 (fin.map RAct.row) 0 false)] := by unfold apF; rw [if_neg hr]; simp
     simp only [rbox, zr] at O2 eF
     rw [eS, eF]
     simp [O2, splice]
     rw [gleave_free (by simp)]
     simp
   ·rw [if_neg (fun x => hn x.2)]
    have hn' : inB n 0 9 = false := by simpa using hn
    rw [rowR] at C ⊢
    simp [C, I, hk, hn', splice]
    rw [gleave_free (by simp)]
    simp [zrP]
  ·rw [if_neg (fun x => hk x.1)]
   have hk' : inB k 0 3 = false := by simpa using hk
   rw [rowR] at C ⊢
   simp [C, I, hk', splice]
   rw [gleave_free (by simp)]
   simp [zrP]
 ·rw [if_neg h0]
  have he' : (checkF r != 0) = true := by simpa using h0
  rw [rowR] at C ⊢
  simp [C, he', splice]
  rw [gleave_free (by simp)]
  simp [zrP]
end
section
variable {c : Nat} {H : Heap}
theorem acts_seas {r : Rite} (h : checkF r = 0) : ∀ a ∈ r.acts, 0 ≤ a.seasons ∧ a.seasons ≤ 15 := by
 rw [checkF_def] at h
 obtain ⟨h1, h⟩ := ite_self h
 obtain ⟨h2, h⟩ := ite_zero (by decide) h
 intro a ha
 obtain ⟨j, hj, rfl⟩ := List.getElem_of_mem ha
 have e := firstI_zeroQ h j (Nat.zero_le _) (by omega)
 rw [actF_def, getD_lt hj] at e
 obtain ⟨e1, e⟩ := ite_zero (by decide) e
 obtain ⟨e2, e⟩ := ite_zero (by decide) e
 obtain ⟨e3, e⟩ := ite_zero (by decide) e
 obtain ⟨e4, e⟩ := ite_zero (by decide) e
 obtain ⟨e5, e⟩ := ite_self e
 obtain ⟨e6, _⟩ := ite_zero (by decide) e
 exact inB_rng (fun x => e6 (.inl x))
def bitL : List (List PV) := [[.int .i64 1], [.int .i64 2], [.int .i64 4], [.int .i64 8]]
theorem bit_get (k : Nat) (hk : k < 4) : bitL[k]? = some [.int .i64 (2 ^ k)] := by
 match k, hk with
 | 0, _ => rfl
 | 1, _ => rfl
 | 2, _ => rfl
 | 3, _ => rfl
theorem seasR : ∀ s < 16, ∀ k < 4, (decide (Int.tmod (IntKind.i64.wrap (Int.tdiv (s : Nat) (2 ^ k))) 2 = 1)) = (band .i64 (Int.fdiv (s : Nat) (2 ^ (min k 64))) 1 == 1) := by decide
theorem chooseR_loop (r : Rite) (kk : Nat) (n : Int) (hk : kk ≤ 3) (hn : r.acts.length ≤ 1000000) (hs : ∀ a ∈ r.acts, 0 ≤ a.seasons ∧ a.seasons ≤ 15) (fin : List RAct) (Q : GX → GSt → Prop) (hH : 0 < H.length)
    (h1 : Q (.exit 0) ⟨[(3, .bptr (H.length, 3) 0), (6, .bptr (H.length, 6) 0), (10, apS (H.length, 66) 9 (fin.map RAct.row))], apF 66 9 (fin.map RAct.row) [(3, rbox r), (6, zr)] :: H, 70⟩) : ∀ (k i : Nat) (done : List RAct), i + k = r.acts.length → done.length ≤ i → done ++ chosenL kk n (r.acts.drop i) = fin →
    WPL KC needT 20 (lp Tryz.f20 0) [1, 2, 3, 6, 9, 10, 11] [3, 6, 10] Q [(1, .pure (.int .i64 kk)), (2, .pure (.int .i64 n)), (3, .bptr (H.length, 3) 0), (6, .bptr (H.length, 6) 0), (9, .pure (.slice bitL)), (10, apS (H.length, 66) 9 (done.map RAct.row)), (11, .pure (.int .i64 i))] (apF 66 9 (done.map RAct.row) [(3, rbox r), (6, zr)] :: H) 70 := by
  intro k
  have hbit0 := bit_get kk (by omega)
  obtain ⟨b, hb⟩ : ∃ b : Int, 2 ^ kk = b := ⟨_, rfl⟩
  have hb0 : ¬ b = 0 := by
    rw [← hb]
    exact Int.ne_of_gt (Int.pow_pos (by decide))
  rw [hb] at hbit0
  have hbit : bitL[kk]? = some [.int .i64 b] := hbit0
  have hkn : ¬ (kk : Int) < 0 := by omega
  induction k with
  | zero =>
    intro i done hi hd hf
    have hia : ¬ i < r.acts.length := by omega
    rw [List.drop_eq_nil_of_le (by omega)] at hf
    simp [chosenL] at hf
    subst hf
    apply WPL_step
    conv => arg 4; whnf
    simp [hia, hH, rbox]
    exact h1
  | succ k ih =>
    intro i done hi hd hf
    have hia : i < r.acts.length := by omega
    have hw := w64 (x := (i : Int) + 1) (by omega) (by omega)
    rw [List.drop_eq_getElem_cons hia, chosen_cons] at hf
    have A := fun f0 => apK_1 (H := H) (l := H.length) (key := 66) (es := 9) (bytes := 72) (rows := done.map RAct.row) (r := (bare r.acts[i]).row) (fr := [(3, rbox r), (6, zr)]) (f0 := f0) rfl rfl (by simp; omega)
    simp only [RAct.row, bare, rbox] at A
    obtain ⟨s0, s15⟩ := hs _ (List.getElem_mem hia)
    obtain ⟨sn, hsn⟩ := Int.eq_ofNat_of_zero_le s0
    have T := seasR sn (by omega) kk (by omega)
    rw [hb, ← hsn] at T
    have hgr : Fr.get (apF 66 9 (done.map RAct.row) [(3, rbox r), (6, zr)]) 3 = some (rbox r) := by rw [apF_get (by decide)]; rfl
    apply WPL_step
    conv => arg 4; whnf
    by_cases hp : passV kk n r.acts[i] = true
    · have hf' : (done ++ [bare r.acts[i]]) ++ chosenL kk n (r.acts.drop (i + 1)) = fin := by rw [if_pos hp] at hf; rw [← hf, List.append_assoc]; rfl
      have ih' := ih (i + 1) (done ++ [bare r.acts[i]]) (by omega) (by simp; omega) hf'
      rw [passV_def] at hp
      have hr : r.acts[i].rank ≤ n := by simp at hp; exact hp.2
      by_cases hz : r.acts[i].seasons = 0
      · have hz' : (r.acts[i].seasons == 0) = true := by simpa using hz
        simp [hia, hH, RAct.row, hw, hz, hz', hr, A, rbox]
        simpa [RAct.row, bare, rbox] using ih'
      · have hz' : (r.acts[i].seasons == 0) = false := by simpa using hz
        have hb2 : (band .i64 (r.acts[i].seasons.fdiv (2 ^ (min kk 64))) 1 == 1) = true := by simp [hz] at hp; simpa using hp.1
        have T1 : Int.tmod (IntKind.i64.wrap (r.acts[i].seasons.tdiv b)) 2 = 1 := by rw [hb2] at T; simpa using T
        simp [hia, hH, RAct.row, hw, hz, hz', hr, A, hkn, hbit, hb0, T1, rbox]
        simpa [RAct.row, bare, rbox] using ih'
    · have hf' : done ++ chosenL kk n (r.acts.drop (i + 1)) = fin := by rw [if_neg hp] at hf; exact hf
      have ih' := ih (i + 1) done (by omega) (by omega) hf'
      rw [passV_def] at hp
      by_cases hz : r.acts[i].seasons = 0
      · have hz' : (r.acts[i].seasons == 0) = true := by simpa using hz
        have hr : ¬ r.acts[i].rank ≤ n := by simp [hz] at hp; omega
        simp [hia, hH, RAct.row, hw, hz, hz', hr, rbox]
        simpa [rbox] using ih'
      · have hz' : (r.acts[i].seasons == 0) = false := by simpa using hz
        by_cases hb2 : (band .i64 (r.acts[i].seasons.fdiv (2 ^ (min kk 64))) 1 == 1) = true
        · have hr : ¬ r.acts[i].rank ≤ n := by rw [hb2] at hp; simp at hp; omega
          have T1 : Int.tmod (IntKind.i64.wrap (r.acts[i].seasons.tdiv b)) 2 = 1 := by rw [hb2] at T; simpa using T
          simp [hia, hH, RAct.row, hw, hz, hz', hr, hkn, hbit, hb0, T1, rbox]
          simpa [rbox] using ih'
        · have hb' : (band .i64 (r.acts[i].seasons.fdiv (2 ^ (min kk 64))) 1 == 1) = false := by simpa using hb2
          have T1 : ¬ Int.tmod (IntKind.i64.wrap (r.acts[i].seasons.tdiv b)) 2 = 1 := by rw [hb'] at T; simpa using T
          simp [hia, hH, RAct.row, hw, hz, hz', hkn, hbit, hb0, T1, rbox]
          simpa [rbox] using ih'
theorem ChooseR_all {r : Rite} (sh : Short r) (k n : Int) (hH : 0 < H.length) : gcall KC (geval KC) 20 [.pure (.agg r.row), .pure (.int .i64 k), .pure (.int .i64 n)] c H = some (.pure (choO r k n), H) := by
 unfold choO
 have C := fun (c : Nat) (H : Heap) (hH : 0 < H.length) => checkRB_ok (c := c) (g := .pure (.agg r.row)) r sh (show rdG H (.pure (.agg r.row)) (.agg r.row) from rfl) hH
 have I := fun (c : Nat) (x lo hi : Int) (H : Heap) (hH : 0 < H.length) => within_ok (c := c) (x := x) (lo := lo) (hi := hi) (H := H) hH
 refine WPv_eq (call_enter KC needT Tryz.func20 rfl rfl good20 rfl rfl rfl (by simp) hH ?_)
 by_cases h0 : checkF r = 0
 ·have hseas := acts_seas h0
  rw [if_pos h0]
  rw [h0] at C
  by_cases hk : inB k 0 3 = true
  ·by_cases hn : inB n 0 9 = true
   ·rw [if_pos ⟨hk, hn⟩]
    obtain ⟨k1, k2⟩ := inB_iff.1 hk
    obtain ⟨kk, rfl⟩ := Int.eq_ofNat_of_zero_le k1
    rw [Int.toNat_natCast]
    have ha := sh.a
    have fl : (chosenL kk n r.acts).length ≤ r.acts.length := by unfold chosenL; rw [List.length_map]; exact List.length_filter_le _ _
    obtain ⟨fin, hfin⟩ : ∃ fin, chosenL kk n r.acts = fin := ⟨_, rfl⟩
    rw [hfin] at fl ⊢
    have L1 := fun Q h1 => chooseR_loop (H := H) r kk n (by omega) ha hseas fin Q hH h1 r.acts.length 0 [] (by omega) (by simp) (by simpa using hfin)
    have O := fun (H : Heap) (hH : 0 < H.length) => with_ok (c := 69) (H := H) r sh fin (by omega) hH
    rw [rowR] at C O ⊢
    simp [C, I, hk, hn]
    simp [rbox, zr, apS_nil, apF_nil] at L1
    refine L1 _ ?_
    have er : ({ r with acts := fin } : Rite).row = [.int .i64 r.wide, .int .i64 r.deep, .slice (r.people.map Person.row), .slice (r.things.map Thing.row), .slice (r.seen.map irow), .slice (r.lapses.map irow), .slice (fin.map RAct.row)] := rfl
    rw [er] at O ⊢
    by_cases hf : fin = []
    ·subst hf
     have O2 : ∀ F : Fr, gcall KC (geval KC) 67 [.pure (.agg [.int .i64 r.wide, .int .i64 r.deep, .slice (r.people.map Person.row), .slice (r.things.map Thing.row), .slice (r.seen.map irow), .slice (r.lapses.map irow), .slice (r.acts.map RAct.row)]), .nils] 69 (F :: H) = some (.pure (.agg [.int .i64 r.wide, .int .i64 r.deep, .slice (r.people.map Person.row), .slice (r.things.map Thing.row), .slice (r.seen.map irow), .slice (r.lapses.map irow), .slice (([] : List RAct).map RAct.row)]), F :: H) := fun F => by
      have := O (F :: H) (by simp)
      rw [gcall_frz rfl rfl rfl] at this ⊢
      exact (gcall0_canonQ (b := [.pure (.agg [.int .i64 r.wide, .int .i64 r.deep, .slice (r.people.map Person.row), .slice (r.things.map Thing.row), .slice (r.seen.map irow), .slice (r.lapses.map irow), .slice (r.acts.map RAct.row)]), .pure (.slice (([] : List RAct).map RAct.row))]) rfl).trans this
     simp only [List.map_nil, apS_nil, apF_nil, rbox, zr]
     simp [O2, splice]
     rw [gleave_free (by simp)]
     simp
    ·have hr : fin.map RAct.row ≠ [] := by simpa using hf
     have tk : List.take fin.length (fin.map RAct.row) = fin.map RAct.row := List.take_of_length_le (by simp)
     have O2 : gcall KC (geval KC) 67 [.pure (.agg [.int .i64 r.wide, .int .i64 r.deep, .slice (r.people.map Person.row), .slice (r.things.map Thing.row), .slice (r.seen.map irow), .slice (r.lapses.map irow), .slice (r.acts.map RAct.row)]), .hdr (H.length, 66) 9 fin.length 0 fin.length] 69 ([(3, rbox r), (6, zr), (66, .arr 9 (fin.map RAct.row) 0 false)] :: H) = some (.pure (.agg [.int .i64 r.wide, .int .i64 r.deep, .slice (r.people.map Person.row), .slice (r.things.map Thing.row), .slice (r.seen.map irow), .slice (r.lapses.map irow), .slice (fin.map RAct.row)]), [(3, rbox r), (6, zr), (66, .arr 9 (fin.map RAct.row) 0 true)] :: H) := by
      have O0 := O ([(3, rbox r), (6, zr), (66, .arr 9 (fin.map RAct.row) 0 true)] :: H) (by simp)
      rw [gcall_frz rfl rfl rfl] at O0 ⊢
      have e : frzVals ([(3, rbox r), (6, zr), (66, .arr 9 (fin.map RAct.row) 0 false)] :: H) [.pure (.agg [.int .i64 r.wide, .int .i64 r.deep, .slice (r.people.map Person.row), .slice (r.things.map Thing.row), .slice (r.seen.map irow), .slice (r.lapses.map irow), .slice (r.acts.map RAct.row)]), .hdr (H.length, 66) 9 fin.length 0 fin.length] = ([.pure (.agg [.int .i64 r.wide, .int .i64 r.deep, .slice (r.people.map Person.row), .slice (r.things.map Thing.row), .slice (r.seen.map irow), .slice (r.lapses.map irow), .slice (r.acts.map RAct.row)]), .pure (.slice (fin.map RAct.row))], [(3, rbox r), (6, zr), (66, .arr 9 (fin.map RAct.row) 0 true)] :: H) := by
       simp [frzVals, frzVal, frzCell, tk]
      rw [e]
      exact O0
     have eS : apS (H.length, 66) 9 (fin.map RAct.row) = .hdr (H.length, 66) 9 fin.length 0 fin.length := by unfold apS; rw [if_neg hr]; simp
     have eF : apF 66 9 (fin.map RAct.row) [(3, rbox r), (6, zr)] = [(3, rbox r), (6, zr), (66, .arr 9 (fin.map RAct.row) 0 false)] := by unfold apF; rw [if_neg hr]; simp
     simp only [rbox, zr] at O2 eF
     rw [eS, eF]
     simp [O2, splice]
     rw [gleave_free (by simp)]
     simp
   ·rw [if_neg (fun x => hn x.2)]
    have hn' : inB n 0 9 = false := by simpa using hn
    rw [rowR] at C ⊢
    simp [C, I, hk, hn', splice]
    rw [gleave_free (by simp)]
    simp [zrP]
  ·rw [if_neg (fun x => hk x.1)]
   have hk' : inB k 0 3 = false := by simpa using hk
   rw [rowR] at C ⊢
   simp [C, I, hk', splice]
   rw [gleave_free (by simp)]
   simp [zrP]
 ·rw [if_neg h0]
  have he' : (checkF r != 0) = true := by simpa using h0
  rw [rowR] at C ⊢
  simp [C, he', splice]
  rw [gleave_free (by simp)]
  simp [zrP]
end
theorem rdO {F : Fr} {H : Heap} {n2 n3 n7 : Nat} {r : Rite} (h2 : r.people.map Person.row ≠ [] → F.get n2 = some (.arr 2 (r.people.map Person.row) 0 false)) (h3 : r.things.map Thing.row ≠ [] → F.get n3 = some (.arr 5 (r.things.map Thing.row) 0 false))
  (h7 : r.acts.map RAct.row ≠ [] → F.get n7 = some (.arr 9 (r.acts.map RAct.row) 0 false)) : rdG (F :: H) (ownG (H.length, n2) (H.length, n3) (H.length, n7) r) (.agg r.row) := by
 have g : ∀ k, Heap.get (F :: H) (H.length, k) = F.get k := fun k => by simp
 rw [rowR]
 unfold ownG
 rw [rdG_agg]
 simp only [rdL_cons, rdL_nil, rdC_pure, and_true, true_and]
 exact ⟨rdC_apS fun h => (g _).trans (h2 h), rdC_apS fun h => (g _).trans (h3 h), rdC_apS fun h => (g _).trans (h7 h)⟩
theorem apS_ne {nm : Nm} {es : Nat} {rows : List (List PV)} (h : rows ≠ []) : apS nm es rows = .hdr nm es rows.length 0 rows.length := if_neg h
section
variable {c : Nat} {H : Heap}
def RoF (f f' : Fr) : Prop := (f.srt → f'.srt) ∧ ∀ k, f'.get k = f.get k ∨ ∃ es rows v ro, f.get k = some (.arr es rows v ro) ∧ f'.get k = some (.arr es rows v true)
theorem RoF.refl (f : Fr) : RoF f f := ⟨id, fun _ => .inl rfl⟩
theorem RoF.trans {a b d : Fr} (h1 : RoF a b) (h2 : RoF b d) : RoF a d := by
 refine ⟨fun h => h2.1 (h1.1 h), fun k => ?_⟩
 rcases h1.2 k with e1 | ⟨es, rows, v, ro, x1, y1⟩
 ·rcases h2.2 k with e2 | ⟨es, rows, v, ro, x2, y2⟩
  ·exact .inl (e2.trans e1)
  ·exact .inr ⟨es, rows, v, ro, e1 ▸ x2, y2⟩
 ·rcases h2.2 k with e2 | ⟨es', rows', v', ro', x2, y2⟩
  ·exact .inr ⟨es, rows, v, ro, x1, e2.trans y1⟩
  ·rw [y1] at x2
   cases x2
   exact .inr ⟨es, rows, v, ro, x1, y2⟩
theorem RoF.box {f f' : Fr} (h : RoF f f') {k : Nat} {cs : List GV} (hk : f.get k = some (.box cs)) : f'.get k = some (.box cs) := by
 rcases h.2 k with e | ⟨es, rows, v, ro, x, y⟩
 ·rw [e, hk]
 ·rw [hk] at x; cases x
theorem RoF.none {f f' : Fr} (h : RoF f f') {k : Nat} (hk : f.get k = none) : f'.get k = none := by
 rcases h.2 k with e | ⟨es, rows, v, ro, x, y⟩
 ·rw [e, hk]
 ·rw [hk] at x; cases x
theorem RoF.empty {f' : Fr} (h : RoF [] f') : f' = [] := by
  cases f' with
  | nil => rfl
  | cons x r =>
    obtain ⟨k, b⟩ := x
    have := h.none (k := k) rfl
    simp at this
inductive RoH : Heap → Heap → Prop
 | nil : RoH [] []
 | cons {f f' : Fr} {H H' : Heap} (h : RoF f f') (t : RoH H H') : RoH (f :: H) (f' :: H')
theorem RoH.refl : ∀ H : Heap, RoH H H
 | [] => .nil
 | f :: H => .cons (RoF.refl f) (RoH.refl H)
theorem RoH.trans {A B D : Heap} (h1 : RoH A B) (h2 : RoH B D) : RoH A D := by
 induction h1 generalizing D with
 | nil => exact h2
 | cons h t ih => cases h2 with | cons h' t' => exact .cons (h.trans h') (ih t')
theorem RoH.len {A B : Heap} (h : RoH A B) : B.length = A.length := by
 induction h with
 | nil => rfl
 | cons _ _ ih => simp [ih]
theorem RoH.get {A B : Heap} (h : RoH A B) (nm : Nm) : B.get nm = A.get nm ∨ ∃ es rows v ro, A.get nm = some (.arr es rows v ro) ∧ B.get nm = some (.arr es rows v true) := by
  induction h with
  | nil => exact .inl rfl
  | @cons f f' H H' h t ih =>
    have hl := t.len
    rw [Heap.get_cons', Heap.get_cons', hl]
    by_cases e : nm.1 = H.length
    · rw [if_pos e, if_pos e]; exact h.2 nm.2
    · rw [if_neg e, if_neg e]; exact ih
theorem RoH.sim {A B : Heap} (h : RoH A B) : RoSim A B := fun nm es rows v ro hg => by
 rcases h.get nm with e | ⟨es', rows', v', ro', x, y⟩
 ·exact ⟨ro, e.trans hg⟩
 ·rw [hg] at x
  cases x
  exact ⟨true, y⟩
theorem RoF.ins {f : Fr} {k es : Nat} {rows : List (List PV)} {v : Nat} {ro : Bool} (h : f.get k = some (.arr es rows v ro)) : RoF f (f.ins k (.arr es rows v true)) := by
 refine ⟨fun hs => Fr.ins_srt hs, fun j => ?_⟩
 by_cases e : j = k
 ·subst e
  exact .inr ⟨es, rows, v, ro, h, Fr.get_ins ..⟩
 ·exact .inl (Fr.get_ins_other _ e _)
theorem RoH.set {nm : Nm} {es : Nat} {rows : List (List PV)} {v : Nat} {ro : Bool} : ∀ {H : Heap}, H.get nm = some (.arr es rows v ro) → RoH H (H.set nm (.arr es rows v true))
  | [], h => by simp [Heap.get] at h
  | f :: H, h => by
    rw [Heap.get_cons'] at h
    simp only [Heap.set]
    by_cases e : nm.1 = H.length
    · rw [if_pos e] at h ⊢
      exact .cons (RoF.ins h) (RoH.refl H)
    · rw [if_neg e] at h ⊢
      exact .cons (RoF.refl f) (RoH.set h)
theorem frzCell_ro (H : Heap) (g : GV) : RoH H (frzCell H g).2 := by
  cases g with
  | hdr nm es top lo len =>
    simp only [frzCell, pureCell]
    cases hg : H.get nm with
    | none => exact RoH.refl H
    | some b =>
      cases b with
      | arr es' elems vf ro =>
        simp only
        split
        · exact RoH.set hg
        · exact RoH.refl H
      | _ => exact RoH.refl H
  | _ => exact RoH.refl H
theorem frzCells_ro : ∀ (l : List GV) (H : Heap), RoH H (frzCells H l).2
 | [], H => RoH.refl H
 | g :: l, H => (frzCell_ro H g).trans (frzCells_ro l _)
theorem frzVal_ro (H : Heap) (g : GV) : RoH H (frzVal H g).2 := by
 cases g with
 | agg l => exact frzCells_ro l H
 | _ => exact frzCell_ro H _
theorem frzVals_pure : ∀ (l : List PV) (H : Heap), frzVals H (l.map .pure) = (l.map .pure, H)
  | [], H => rfl
  | p :: l, H => by
    rw [List.map_cons]
    simp only [frzVals]
    have e : frzVal H (.pure p) = (.pure p, H) := rfl
    rw [e]
    simp only [frzVals_pure l H]
theorem frz_call {f : FuncId} (h1 : KC.cln f = false) (h2 : KC.bor f = false) (h3 : KC.frz f = true) {g : GV} {q : PV} (ps : List PV) (hg : rdG H g q) :
  ∃ H', RoH H H' ∧ ∀ c, gcall KC (geval KC) f (g :: ps.map .pure) c H = gcall0 KC (geval KC) f (.pure q :: ps.map .pure) c H' := by
 have hl := (frzG_rd hg).1
 refine ⟨(frzVal H g).2, frzVal_ro H g, fun c => ?_⟩
 rw [gcall_frz h1 h2 h3]
 have e : frzVals H (g :: ps.map .pure) = ((frzVal H g).1 :: ps.map .pure, (frzVal H g).2) := by
  simp only [frzVals, frzVals_pure]
 rw [e]
 exact gcall0_canonQ (by simp only [List.map_cons, hl]; rfl)
theorem rdG_mk {l : List GV} {m : List PV} (h : rdL H l m) : rdG H (mkAgg l) (.agg m) := by
  rw [mkAgg_def]
  cases hl : allPure l with
  | none => exact h
  | some ps =>
    have e := allPure_map2 hl
    subst e
    have : ∀ (ps m : List PV), rdL H (ps.map .pure) m → ps = m := fun ps => by
      induction ps with
      | nil => intro m h; cases m with | nil => rfl | cons _ _ => exact h.elim
      | cons p ps ih => intro m h; cases m with | nil => exact h.elim | cons q m => rw [List.map_cons] at h; rw [show p = q from h.1, ih m h.2]
    show PV.agg ps = .agg m
    rw [this ps m h]
end
section
variable {c : Nat} {H : Heap}
theorem RoH.two {F L : Fr} {H' : Heap} (h : RoH [F, L, []] H') : ∃ F' L', H' = [F', L', []] ∧ RoF F F' ∧ RoF L L' := by
  cases h with
  | cons h1 t1 => cases t1 with
    | cons h2 t2 => cases t2 with
      | cons h3 t3 => cases t3 with
        | nil => exact ⟨_, _, by rw [h3.empty], h1, h2⟩
theorem RoH.mk2 {F L F' L' : Fr} (h1 : RoF F F') (h2 : RoF L L') : RoH [F, L, []] [F', L', []] := .cons h1 (.cons h2 (RoH.refl _))
theorem RoH.mk1 {L L' : Fr} (h2 : RoF L L') : RoH [L, []] [L', []] := .cons h2 (RoH.refl _)
theorem callP {f : FuncId} (h1 : KC.cln f = false) (h2 : KC.bor f = false) (h3 : KC.frz f = true) {g : GV} {q v : PV} (ps : List PV)
  (P : ∀ (c : Nat) (H : Heap), 0 < H.length → gcall0 KC (geval KC) f (.pure q :: ps.map .pure) c H = some (.pure v, H)) {F L : Fr} (hg : rdG [F, L, []] g q) :
  ∃ F' L', RoF F F' ∧ RoF L L' ∧ ∀ c, gcall KC (geval KC) f (g :: ps.map .pure) c [F, L, []] = some (.pure v, [F', L', []]) := by
 obtain ⟨H', hr, e⟩ := frz_call h1 h2 h3 ps hg
 obtain ⟨F', L', rfl, r1, r2⟩ := hr.two
 exact ⟨F', L', r1, r2, fun c => (e c).trans (P c _ (by simp))⟩
theorem frz_pure {f : FuncId} (h1 : KC.cln f = false) (h2 : KC.bor f = false) (h3 : KC.frz f = true) (ps : List PV) : gcall KC (geval KC) f (ps.map .pure) c H = gcall0 KC (geval KC) f (ps.map .pure) c H := by
 rw [gcall_frz h1 h2 h3, frzVals_pure]
theorem Snd.short {r : Rite} {s : Scene} (sh : Short r) (h : Snd r s) : ShortS s := by
 have h1 := h.pl
 have h2 := h.hl
 have h3 := h.tl
 have a := sh.p
 have b := sh.t
 exact ⟨by omega, by omega, by omega⟩
theorem runO_shape {r : Rite} (sh : Short r) : ∃ (s : Scene) (n e : Int), runO r = .tuple [.agg s.row, .int .i64 n, .int .i64 e] ∧ ShortS s := by
 have z : ShortS ⟨[], [], []⟩ := ⟨by simp, by simp, by simp⟩
 unfold runO
 by_cases h0 : checkF r = 0
 ·have hr := runs_of h0 sh
  rw [if_pos h0]
  by_cases he : (accR r).2.2.2 = 0
  ·rw [if_pos he]
   exact ⟨(accR r).2.1, -1, 0, rfl, Snd.short sh (runR_snd r.acts.length (firstV r) r.acts 0 hr.snd hr.ab).1⟩
  ·rw [if_neg he]
   exact ⟨⟨[], [], []⟩, _, _, rfl, z⟩
 ·rw [if_neg h0]
  exact ⟨⟨[], [], []⟩, 0, _, rfl, z⟩
theorem scnO_shape {r : Rite} (sh : Short r) : ∃ (l : List Scene) (e : Int), scnO r = .tuple [.slice (l.map Scene.row), .int .i64 e] ∧ (∀ s ∈ l, ShortS s) ∧ l.length ≤ 1000000 := by
 unfold scnO
 by_cases h0 : checkF r = 0
 ·have hr := runs_of h0 sh
  rw [if_pos h0]
  by_cases he : (accR r).2.2.2 = 0
  ·rw [if_pos he]
   refine ⟨(accR r).1, 0, rfl, fun s hs => ?_, ?_⟩
   ·rcases List.mem_cons.1 hs with e | e
    ·rw [e]; exact Snd.short sh hr.snd
    ·exact Snd.short sh ((runR_snd r.acts.length (firstV r) r.acts 0 hr.snd hr.ab).2 s e)
   ·have h40 := (acts_of h0).2.n
    have := runR_len (r := r) r.acts.length (firstV r) r.acts 0
    show (firstV r :: _).length ≤ _
    simp only [List.length_cons]
    omega
  ·rw [if_neg he]
   exact ⟨[], _, rfl, by simp, by simp⟩
 ·rw [if_neg h0]
  exact ⟨[], _, rfl, by simp, by simp⟩
theorem choO_shape {r : Rite} (sh : Short r) (k n : Int) : ∃ (r' : Rite) (e : Int), choO r k n = .tuple [.agg r'.row, .int .i64 e] ∧ Short r' := by
 have z : Short ⟨0, 0, [], [], [], [], []⟩ := ⟨by simp, by simp, by simp, by simp, by simp⟩
 unfold choO
 split
 ·split
  ·refine ⟨_, 0, rfl, ⟨sh.p, sh.t, sh.s, sh.l, ?_⟩⟩
   have : (chosenL k.toNat n r.acts).length ≤ r.acts.length := by unfold chosenL; rw [List.length_map]; exact List.length_filter_le _ _
   exact Nat.le_trans this sh.a
  ·exact ⟨⟨0, 0, [], [], [], [], []⟩, 2, rfl, z⟩
 ·exact ⟨⟨0, 0, [], [], [], [], []⟩, _, rfl, z⟩
end
section
variable {H : Heap}
theorem rdC_push {f : Fr} {g : GV} {q : PV} (h : rdC H g q) : rdC (f :: H) g q := by
  cases g with
  | hdr nm es top lo len =>
    obtain ⟨rows, v, ro, a, b⟩ := h
    have := Heap.get_lt a
    exact ⟨rows, v, ro, by rw [Heap.get_cons', if_neg (by omega)]; exact a, b⟩
  | pure p => exact h
  | nils => exact h
  | _ => exact h.elim
theorem rdL_push {f : Fr} : ∀ {l : List GV} {m : List PV}, rdL H l m → rdL (f :: H) l m
 | [], [], _ => trivial
 | g :: l, q :: m, h => ⟨rdC_push h.1, rdL_push h.2⟩
 | [], _ :: _, h => h.elim
 | _ :: _, [], h => h.elim
theorem rdG_push {f : Fr} {g : GV} {q : PV} (h : rdG H g q) : rdG (f :: H) g q := by
  cases g with
  | agg l =>
    cases q with
    | agg m => exact rdL_push h
    | _ => exact h.elim
  | pure p => cases q <;> exact h
  | _ => cases q <;> exact h.elim
theorem ownF_at {g : GV} {r : Rite} (sh : Short r) {L : Fr} (hg : rdG [[], L, []] g (.agg r.row)) (c : Nat) :
  ∃ F L', RoF L L' ∧ (∀ k, k ≠ newKey c 6 → k ≠ newKey c 10 → k ≠ newKey c 22 → F.get k = none) ∧
   (∀ F', RoSim [F, L', []] F' → rdG F' (ownG (2, newKey c 6) (2, newKey c 10) (2, newKey c 22) r) (.agg r.row)) ∧
   gcall KC (geval KC) 13 [g] c [[], L, []] = some (ownG (2, newKey c 6) (2, newKey c 10) (2, newKey c 22) r, [F, L', []]) := by
 obtain ⟨H', hr, e⟩ := frz_call (f := 13) rfl rfl rfl [] hg
 obtain ⟨F0, L', rfl, r1, r2⟩ := hr.two
 cases r1.empty
 have O := ownRite_ok (c := c) (H := [[], L', []]) r sh (by simp) (by simp) (by simp) (by simp)
 have hp := frz_pure (f := 13) (c := c) (H := [[], L', []]) rfl rfl rfl [.agg r.row]
 simp only [List.map_cons, List.map_nil] at hp e
 rw [hp] at O
 have n12 : newKey c 6 ≠ newKey c 10 := by unfold newKey; omega
 have n13 : newKey c 6 ≠ newKey c 22 := by unfold newKey; omega
 have n23 : newKey c 10 ≠ newKey c 22 := by unfold newKey; omega
 have hH : ownH [[], L', []] (2, newKey c 6) (2, newKey c 10) (2, newKey c 22) r = [apF (newKey c 22) 9 (r.acts.map RAct.row) (apF (newKey c 10) 5 (r.things.map Thing.row) (apF (newKey c 6) 2 (r.people.map Person.row) [])), L', []] := by
  unfold ownH
  rw [apSet_1 (H := [L', []]) (l := 2) rfl, apSet_1 (H := [L', []]) (l := 2) rfl, apSet_1 (H := [L', []]) (l := 2) rfl]
 simp only [List.length_cons, List.length_nil, Nat.zero_add, Nat.add_sub_cancel] at O
 rw [hH] at O
 refine ⟨_, L', r2, fun k a b d => ?_, fun F' hs => ?_, (e c).trans O⟩
 ·rw [apF_get d, apF_get b, apF_get a]; rfl
 ·refine rdG_sim hs ?_
  exact rdO (F := apF (newKey c 22) 9 (r.acts.map RAct.row) (apF (newKey c 10) 5 (r.things.map Thing.row) (apF (newKey c 6) 2 (r.people.map Person.row) []))) (H := [L', []])
   (fun h => by rw [apF_get n13, apF_get n12, apF_self h]) (fun h => by rw [apF_get n23, apF_self h]) (fun h => by rw [apF_self h])
theorem RoSim.ins {F L : Fr} {k : Nat} {b : Blk} (h : F.get k = none) : RoSim [F, L, []] [F.ins k b, L, []] := fun nm es rows v ro hg => by
 rw [Heap.get_cons'] at hg ⊢
 by_cases e : nm.1 = ([L, []] : Heap).length
 ·rw [if_pos e] at hg ⊢
  by_cases ek : nm.2 = k
  ·rw [ek, h] at hg; cases hg
  ·exact ⟨ro, (Fr.get_ins_other _ ek _).trans hg⟩
 ·rw [if_neg e] at hg ⊢
  exact ⟨ro, hg⟩
theorem splice_full {α : Type} {z xs : List α} (h : z.length = xs.length) : splice z 0 xs = xs := by
 unfold splice
 simp [h.symm]
theorem lowers_pure (l0 : Nat) : ∀ (ps : List PV) (H : Heap), lowerCells H l0 (ps.map .pure) = (ps.map .pure, H)
  | [], H => rfl
  | p :: ps, H => by
    rw [List.map_cons]
    show (let (p', H1) := lowerCell H l0 (.pure p); let (ps', H2) := lowerCells H1 l0 (ps.map .pure); (p' :: ps', H2)) = _
    have e : lowerCell H l0 (.pure p) = (.pure p, H) := rfl
    rw [e]
    simp only [lowers_pure l0 ps H]
theorem runs_round (sea rk : Int) (ls : List (List GV)) (hl3 : ls.length ≤ 3) (hall : ls.all (allLe 1) = true) {i : Nat} (hi : i < ls.length) {cells : List GV} (hc : ls[i]? = some cells) (hcl : cells.length = 7) {r : Rite} (sh : Short r) {L : Fr} (hrd : rdL [L, []] cells r.row)
  (Q : GX → GSt → Prop)
  (ih : ∀ L', RoF L L' → WPL KC needT 3 (lp Tryz.f3 0) [3, 4, 16, 17] [12] Q [(3, .pure (.int .i64 sea)), (4, .pure (.int .i64 rk)), (16, .lits ls), (17, .pure (.int .i64 ((i + 1 : Nat) : Int)))] [L', []] 175) :
  WPL KC needT 3 (lp Tryz.f3 0) [3, 4, 16, 17] [12] Q [(3, .pure (.int .i64 sea)), (4, .pure (.int .i64 rk)), (16, .lits ls), (17, .pure (.int .i64 (i : Int)))] [L, []] 175 := by
 obtain ⟨gc, hgc⟩ : ∃ gc, mkAgg cells = gc := ⟨_, rfl⟩
 have hgc' : mkA (allPure cells) cells = gc := by rw [← hgc, mkAgg_def]
 have hgP : ∀ H', RoSim [L, []] H' → ∀ f, rdG (f :: H') gc (.agg r.row) := fun H' hs f => hgc ▸ rdG_push (rdG_mk (rdL_sim hs hrd))
 have hg0 : rdG [[], L, []] gc (.agg r.row) := hgP _ (RoSim.refl _) _
 obtain ⟨F1, L1, l1, n1, rd1, e1⟩ := ownF_at sh hg0 83
 have m1 : newKey 83 6 = 24660 := by decide
 have m2 : newKey 83 10 = 41044 := by decide
 have m3 : newKey 83 22 = 90196 := by decide
 rw [m1, m2, m3] at n1 rd1 e1
 obtain ⟨o, ho⟩ : ∃ o : List GV, [.pure (.int .i64 r.wide), .pure (.int .i64 r.deep), apS (2, 24660) 2 (r.people.map Person.row), apS (2, 41044) 5 (r.things.map Thing.row), .pure (.slice (r.seen.map irow)), .pure (.slice (r.lapses.map irow)), apS (2, 90196) 9 (r.acts.map RAct.row)] = o := ⟨_, rfl⟩
 have hog : ownG (2, 24660) (2, 41044) (2, 90196) r = .agg o := by rw [← ho]; rfl
 have hol : o.length = 7 := by rw [← ho]; rfl
 rw [hog] at rd1 e1
 obtain ⟨F2, hF2⟩ : ∃ F2, F1.ins 18 (.box o) = F2 := ⟨_, rfl⟩
 have p18 : F1.get 18 = none := n1 18 (by decide) (by decide) (by decide)
 have q18 : F2.get 18 = some (.box o) := by rw [← hF2, Fr.get_ins]
 have n2 : ∀ k, k ≠ 18 → k ≠ 24660 → k ≠ 41044 → k ≠ 90196 → F2.get k = none := fun k a b d e => by rw [← hF2, Fr.get_ins_other _ a]; exact n1 k b d e
 have s2 : RoSim [F1, L1, []] [F2, L1, []] := by rw [← hF2]; exact RoSim.ins p18
 have rd2 := rd1 _ s2
 have hmo : mkA (allPure o) o = .agg o := by
  rw [← ho]
  simp
 have hlo : ∀ H, lowerCells H 2 o = (o, H) := fun H => by
  rw [← ho]
  simp
 have spo : ∀ z : List GV, z.length = 7 → splice z 0 o = o := fun z hz => splice_full (by omega)
 have tko : List.take 7 o = o := List.take_of_length_le (by omega)
 obtain ⟨sc, rn, re, hrun, hsc⟩ := runO_shape sh
 obtain ⟨F3, L3, f3, l3, e3⟩ := callP (f := 15) rfl rfl rfl [] (fun c H hH => Run_all0 (c := c) sh hH) rd2
 rw [hrun] at e3
 have h3 : RoSim [F1, L1, []] [F3, L3, []] := s2.trans (RoH.mk2 f3 l3).sim
 have n3 : ∀ k, k ≠ 18 → k ≠ 24660 → k ≠ 41044 → k ≠ 90196 → F3.get k = none := fun k a b d e => f3.none (n2 k a b d e)
 have p19 : F3.get 19 = none := n3 19 (by decide) (by decide) (by decide) (by decide)
 obtain ⟨F4, hF4⟩ : ∃ F4, F3.ins 19 (.box (sc.row.map .pure)) = F4 := ⟨_, rfl⟩
 have h4 : RoSim [F1, L1, []] [F4, L3, []] := by rw [← hF4]; exact h3.trans (RoSim.ins p19)
 have n4 : ∀ k, k ≠ 19 → k ≠ 18 → k ≠ 24660 → k ≠ 41044 → k ≠ 90196 → F4.get k = none := fun k z a b d e => by rw [← hF4, Fr.get_ins_other _ z]; exact n3 k a b d e
 have q18_4 : F4.get 18 = some (.box o) := by rw [← hF4, Fr.get_ins_other _ (by decide)]; exact f3.box q18
 have q19_4 : F4.get 19 = some (.box (sc.row.map .pure)) := by rw [← hF4, Fr.get_ins]
 have R := fun (c : Nat) (H : Heap) (hH : 0 < H.length) => (frz_pure (f := 16) (c := c) (H := H) rfl rfl rfl [.agg r.row]).symm.trans (RunR_all (c := c) sh hH)
 have l13 := l1.trans l3
 obtain ⟨F5, L5, f5, l5, e5⟩ := callP (f := 16) rfl rfl rfl [] R (hgP [L3, []] (RoH.mk1 l13).sim F4)
 rw [hrun] at e5
 have h5 : RoSim [F1, L1, []] [F5, L5, []] := h4.trans (RoH.mk2 f5 l5).sim
 have n5 : ∀ k, k ≠ 19 → k ≠ 18 → k ≠ 24660 → k ≠ 41044 → k ≠ 90196 → F5.get k = none := fun k z a b d e => f5.none (n4 k z a b d e)
 have p22 : F5.get 22 = none := n5 22 (by decide) (by decide) (by decide) (by decide) (by decide)
 obtain ⟨F6, hF6⟩ : ∃ F6, F5.ins 22 (.box (sc.row.map .pure)) = F6 := ⟨_, rfl⟩
 have h6 : RoSim [F1, L1, []] [F6, L5, []] := by rw [← hF6]; exact h5.trans (RoSim.ins p22)
 have n6 : ∀ k, k ≠ 22 → k ≠ 19 → k ≠ 18 → k ≠ 24660 → k ≠ 41044 → k ≠ 90196 → F6.get k = none := fun k y z a b d e => by rw [← hF6, Fr.get_ins_other _ y]; exact n5 k z a b d e
 have q18_6 : F6.get 18 = some (.box o) := by rw [← hF6, Fr.get_ins_other _ (by decide)]; exact f5.box q18_4
 have q19_6 : F6.get 19 = some (.box (sc.row.map .pure)) := by rw [← hF6, Fr.get_ins_other _ (by decide)]; exact f5.box q19_4
 have q22_6 : F6.get 22 = some (.box (sc.row.map .pure)) := by rw [← hF6, Fr.get_ins]
 obtain ⟨pl, ple, hscn, hpl, hpn⟩ := scnO_shape sh
 obtain ⟨F7, L7, f7, l7, e7⟩ := callP (f := 17) rfl rfl rfl [] (fun c H hH => Scenes_all0 (c := c) sh hH) (rd1 _ h6)
 rw [hscn] at e7
 have h7 : RoSim [F1, L1, []] [F7, L7, []] := h6.trans (RoH.mk2 f7 l7).sim
 have SR := fun (c : Nat) (H : Heap) (hH : 0 < H.length) => (frz_pure (f := 18) (c := c) (H := H) rfl rfl rfl [.agg r.row]).symm.trans (ScenesR_all (c := c) sh hH)
 have l17 := (l13.trans l5).trans l7
 obtain ⟨F8, L8, f8, l8, e8⟩ := callP (f := 18) rfl rfl rfl [] SR (hgP [L7, []] (RoH.mk1 l17).sim F7)
 rw [hscn] at e8
 have h8 : RoSim [F1, L1, []] [F8, L8, []] := h7.trans (RoH.mk2 f8 l8).sim
 have n8 : ∀ k, k ≠ 22 → k ≠ 19 → k ≠ 18 → k ≠ 24660 → k ≠ 41044 → k ≠ 90196 → F8.get k = none := fun k y z a b d e => f8.none (f7.none (n6 k y z a b d e))
 have q18_8 : F8.get 18 = some (.box o) := f8.box (f7.box q18_6)
 have q19_8 : F8.get 19 = some (.box (sc.row.map .pure)) := f8.box (f7.box q19_6)
 have q22_8 : F8.get 22 = some (.box (sc.row.map .pure)) := f8.box (f7.box q22_6)
 obtain ⟨rc, rce, hcho, hrc⟩ := choO_shape sh sea rk
 obtain ⟨F9, L9, f9, l9, e9⟩ := callP (f := 19) rfl rfl rfl [.int .i64 sea, .int .i64 rk] (fun c H hH => Choose_all0 (c := c) sh sea rk hH) (rd1 _ h8)
 rw [hcho] at e9
 have h9 : RoSim [F1, L1, []] [F9, L9, []] := h8.trans (RoH.mk2 f9 l9).sim
 have n9 : ∀ k, k ≠ 22 → k ≠ 19 → k ≠ 18 → k ≠ 24660 → k ≠ 41044 → k ≠ 90196 → F9.get k = none := fun k y z a b d e => f9.none (n8 k y z a b d e)
 have p29 : F9.get 29 = none := n9 29 (by decide) (by decide) (by decide) (by decide) (by decide) (by decide)
 obtain ⟨F10, hF10⟩ : ∃ F10, F9.ins 29 (.box (rc.row.map .pure)) = F10 := ⟨_, rfl⟩
 have h10 : RoSim [F1, L1, []] [F10, L9, []] := by rw [← hF10]; exact h9.trans (RoSim.ins p29)
 have n10 : ∀ k, k ≠ 29 → k ≠ 22 → k ≠ 19 → k ≠ 18 → k ≠ 24660 → k ≠ 41044 → k ≠ 90196 → F10.get k = none := fun k x y z a b d e => by rw [← hF10, Fr.get_ins_other _ x]; exact n9 k y z a b d e
 have q18_10 : F10.get 18 = some (.box o) := by rw [← hF10, Fr.get_ins_other _ (by decide)]; exact f9.box q18_8
 have q19_10 : F10.get 19 = some (.box (sc.row.map .pure)) := by rw [← hF10, Fr.get_ins_other _ (by decide)]; exact f9.box q19_8
 have q22_10 : F10.get 22 = some (.box (sc.row.map .pure)) := by rw [← hF10, Fr.get_ins_other _ (by decide)]; exact f9.box q22_8
 have q29_10 : F10.get 29 = some (.box (rc.row.map .pure)) := by rw [← hF10, Fr.get_ins]
 have CR := fun (c : Nat) (H : Heap) (hH : 0 < H.length) => (frz_pure (f := 20) (c := c) (H := H) rfl rfl rfl [.agg r.row, .int .i64 sea, .int .i64 rk]).symm.trans (ChooseR_all (c := c) sh sea rk hH)
 have l19 := (l17.trans l8).trans l9
 obtain ⟨F11, L11, f11, l11, e11⟩ := callP (f := 20) rfl rfl rfl [.int .i64 sea, .int .i64 rk] CR (hgP [L9, []] (RoH.mk1 l19).sim F10)
 rw [hcho] at e11
 have h11 : RoSim [F1, L1, []] [F11, L11, []] := h10.trans (RoH.mk2 f11 l11).sim
 have p31 : F11.get 31 = none := f11.none (n10 31 (by decide) (by decide) (by decide) (by decide) (by decide) (by decide) (by decide))
 obtain ⟨F12, hF12⟩ : ∃ F12, F11.ins 31 (.box (rc.row.map .pure)) = F12 := ⟨_, rfl⟩
 have h12 : RoSim [F1, L1, []] [F12, L11, []] := by rw [← hF12]; exact h11.trans (RoSim.ins p31)
 have z18 : F12.get 18 = some (.box o) := by rw [← hF12, Fr.get_ins_other _ (by decide)]; exact f11.box q18_10
 have z19 : F12.get 19 = some (.box (sc.row.map .pure)) := by rw [← hF12, Fr.get_ins_other _ (by decide)]; exact f11.box q19_10
 have z22 : F12.get 22 = some (.box (sc.row.map .pure)) := by rw [← hF12, Fr.get_ins_other _ (by decide)]; exact f11.box q22_10
 have z29 : F12.get 29 = some (.box (rc.row.map .pure)) := by rw [← hF12, Fr.get_ins_other _ (by decide)]; exact f11.box q29_10
 have z31 : F12.get 31 = some (.box (rc.row.map .pure)) := by rw [← hF12, Fr.get_ins]
 have lz := l19.trans l11
 have E1 := fun c => eqScenes_ok (c := c) (H := [F12, L11, []]) (g1 := .pure (.agg sc.row)) (g2 := .pure (.agg sc.row)) sc hsc rfl rfl (by simp)
 have E2 := fun c => eqPlays_ok (c := c) (H := [F12, L11, []]) pl hpl hpn (by simp)
 have E3 := fun c => eqRites_ok (c := c) (H := [F12, L11, []]) (g1 := .pure (.agg rc.row)) (g2 := .pure (.agg rc.row)) rc hrc rfl rfl (by simp)
 have E4 := fun c => eqRites_ok (c := c) (H := [F12, L11, []]) (g1 := .agg o) (g2 := gc) r sh (rd1 _ h12) (hgP [L11, []] (RoH.mk1 lz).sim F12) (by simp)
 have tk : List.take 7 cells = cells := List.take_of_length_le (by omega)
 have tks : List.take 3 (sc.row.map GV.pure) = sc.row.map GV.pure := rfl
 have tkr : List.take 7 (rc.row.map GV.pure) = rc.row.map GV.pure := rfl
 have ik : (i : Int) < (ls.length : Int) := by omega
 have hce : ls[i] = cells := by rw [List.getElem?_eq_getElem hi] at hc; simpa using hc
 have hw := w64 (x := (i : Int) + 1) (by omega) (by omega)
 have ih' := ih L11 lz
 simp only [List.map_nil, List.map_cons] at e3 e5 e7 e8 e9 e11
 have hcle : clean [F12, L11, []] 1 (.lits ls) = .lits ls := by
  show (if ls.all (allLe 1) then GV.lits ls else gdead) = _
  rw [hall]; rfl
 have scl : sc.row.length = 3 := rfl
 have sps : ∀ z : List GV, z.length = 3 → splice z 0 (sc.row.map .pure) = sc.row.map .pure := fun z hz => splice_full (by simp [scl, hz])
 have spr : ∀ z : List GV, z.length = 7 → splice z 0 (rc.row.map .pure) = rc.row.map .pure := fun z hz => splice_full (by rw [List.length_map, hz]; rfl)
 have rcl : rc.row.length = 7 := rfl
 apply WPL_step
 conv => arg 4; whnf
 simp [hi, hce, hcl, Fr.get_ins, Fr.ins_ins, tk, tko, hgc', e1, p18, hF2, hol, hmo, hlo, spo, sps, spr, lowers_pure, q18, e3, p19, hF4, e5, p22, hF6, q18_6, e7, e8, q18_8, e9, p29, hF10, e11, p31, hF12, z18, z19, z22, z29, z31, E1, E2, E3, E4, tks, tkr, hw, hall, scl, rcl]
 rw [hcle]
 simpa using ih'
theorem runs_loop (sea rk : Int) (ls : List (List GV)) (hl3 : ls.length ≤ 3) (hall : ls.all (allLe 1) = true) (Q : GX → GSt → Prop) (hQ : ∀ L', Q (.exit 0) ⟨[(12, gdead)], [L', []], 175⟩) : ∀ (k i : Nat), i + k = ls.length → i ≤ ls.length → ∀ L : Fr, (∀ j (hj : j < ls.length), ∃ r, Short r ∧ (ls[j]).length = 7 ∧ rdL [L, []] ls[j] (r : Rite).row) →
    WPL KC needT 3 (lp Tryz.f3 0) [3, 4, 16, 17] [12] Q [(3, .pure (.int .i64 sea)), (4, .pure (.int .i64 rk)), (16, .lits ls), (17, .pure (.int .i64 (i : Int)))] [L, []] 175 := by
  intro k
  induction k with
  | zero =>
    intro i hi _ L _
    have hia : ¬ i < ls.length := by omega
    apply WPL_step
    conv => arg 4; whnf
    simp [hia]
    exact hQ L
  | succ k ih =>
    intro i hi _ L h
    have hia : i < ls.length := by omega
    obtain ⟨r, sh, hl, hrd⟩ := h i hia
    refine runs_round sea rk ls hl3 hall hia (List.getElem?_eq_getElem hia) hl sh hrd Q fun L' hr => ih (i + 1) (by omega) (by omega) L' fun j hj => ?_
    obtain ⟨r', sh', hl', hrd'⟩ := h j hj
    exact ⟨r', sh', hl', rdL_sim (RoH.mk1 hr).sim hrd'⟩
end
theorem law3 (r : Rite) (a : RAct) (at' sea rk : Int) (nums : List Int) (hnums : nums.length ≤ 9223372036854775807) :
    ∃ H', gcall KC (geval KC) 3 [.pure (.agg r.row), .pure (.agg a.row), .pure (.int .i64 at'), .pure (.int .i64 sea), .pure (.int .i64 rk), .pure (.slice (nums.map irow))] 0 [[]] = some (.pure (.bool true), H') := by
  suffices hs : WPv (gcall KC (geval KC) 3 [.pure (.agg r.row), .pure (.agg a.row), .pure (.int .i64 at'), .pure (.int .i64 sea), .pure (.int .i64 rk), .pure (.slice (nums.map irow))] 0 [[]]) (fun x => x.1 = .pure (.bool true)) by
    obtain ⟨⟨v, H'⟩, h1, rfl⟩ := hs
    exact ⟨H', h1⟩
  refine call_enter KC needT Tryz.func3 rfl rfl good3 rfl rfl rfl (by simp) (by simp) ?_
  have B := fun c (H : Heap) (hH : 0 < H.length) => big_ok (c := c) (H := H) r hH
  rw [rowR] at B ⊢
  rw [show PV.agg a.row = .agg [.int .i64 a.at', .int .i64 a.who, .int .i64 a.kind, .int .i64 a.hand, .int .i64 a.thing, .int .i64 a.cell, .int .i64 a.other, .int .i64 a.seasons, .int .i64 a.rank] from rfl]
  cases hb : bigV r with
  | true =>
    simp [B, hb, awake_ok, gleave_free]
  | false =>
    obtain ⟨b1, b2, b3, b4, b5⟩ := bigV_false hb
    have hS : Short r := ⟨by omega, by omega, by omega, by omega, by omega⟩
    obtain ⟨w, eB⟩ := BoxOf_ok (c := 37) (H := [[(6, rbox r), (7, abox a)], []]) nums hnums (by simp) (by simp [newKey])
    have k37 : newKey 37 6 = 24614 := by decide
    simp only [List.length_cons, List.length_nil, Nat.zero_add, Nat.add_sub_cancel, k37] at eB
    have hfin : ∀ w, Heap.set [[(6, rbox r), (7, abox a)], []] (1, 24614) (wbox w) = [[(6, rbox r), (7, abox a), (24614, wbox w)], []] := fun w => by simp
    rw [hfin] at eB
    have hBx : isBox [[(6, rbox r), (7, abox a), (24614, wbox w)], []] (1, 24614) := ⟨w, by simp, by simp⟩
    obtain ⟨r0, acts, s, wd, hRB, eR⟩ := RiteOf_ok (c := 38) hBx (N := 12) (by omega) (by omega)
    have hset : ∀ x, Heap.set [[(6, rbox r), (7, abox a), (24614, wbox w)], []] (1, 24614) (wbox x) = [[(6, rbox r), (7, abox a), (24614, wbox x)], []] := fun x => by simp
    rw [hset] at eR
    have lnb : (finR r0 acts s).people.length ≤ 3 ∧ (finR r0 acts s).things.length ≤ 4 ∧ (finR r0 acts s).lapses.length ≤ 3 ∧ (finR r0 acts s).acts.length ≤ 30 ∧ (finR r0 acts s).seen = [] ∧ (finR r0 acts s).people ≠ [] := by
      refine ⟨hRB.room.p3, ?_, hRB.room.ll, hRB.len, hRB.room.seen, hRB.room.p0⟩
      show (finL _ _ _).length ≤ 4; rw [finL_len]; exact hRB.room.t4
    generalize finR r0 acts s = m at eR lnb
    obtain ⟨l1, l2, l3, l4, l5, l6⟩ := lnb
    have mS : ∀ l : List RAct, l.length = m.acts.length → Short { m with acts := l } := fun l hl => ⟨by show m.people.length ≤ _; omega, by show m.things.length ≤ _; omega, by show m.seen.length ≤ _; rw [l5]; simp, by show m.lapses.length ≤ _; omega, by show l.length ≤ _; omega⟩
    have mS0 : Short m := mS m.acts rfl
    have O := ownRite_ok (c := 40) (H := [[(6, rbox r), (7, abox a), (13, rbox m), (24614, wbox wd)], []]) m mS0 (by simp) (by simp [newKey]) (by simp [newKey]) (by simp [newKey])
    have k1 : newKey 40 6 = 24617 := by decide
    have k2 : newKey 40 10 = 41001 := by decide
    have k3 : newKey 40 22 = 90153 := by decide
    simp only [List.length_cons, List.length_nil, Nat.zero_add, Nat.add_sub_cancel, k1, k2, k3, ownH] at O
    rw [apSet_1 (by rfl), apSet_1 (by rfl), apSet_1 (by rfl)] at O
    obtain ⟨F1, hF1⟩ : ∃ F1, apF 90153 9 (m.acts.map RAct.row) (apF 41001 5 (m.things.map Thing.row) (apF 24617 2 (m.people.map Person.row) [(6, rbox r), (7, abox a), (13, rbox m), (24614, wbox wd)])) = F1 := ⟨_, rfl⟩
    rw [hF1] at O
    have f1 : ∀ k, k ≠ 90153 → k ≠ 41001 → k ≠ 24617 → F1.get k = Fr.get [(6, rbox r), (7, abox a), (13, rbox m), (24614, wbox wd)] k := fun k x y z => by rw [← hF1, apF_get x, apF_get y, apF_get z]
    have p6 : F1.get 6 = some (rbox r) := (f1 6 (by decide) (by decide) (by decide)).trans (by simp)
    have p7 : F1.get 7 = some (abox a) := (f1 7 (by decide) (by decide) (by decide)).trans (by simp)
    have p13 : F1.get 13 = some (rbox m) := (f1 13 (by decide) (by decide) (by decide)).trans (by simp)
    have p14 : F1.get 14 = none := (f1 14 (by decide) (by decide) (by decide)).trans (by simp)
    have o2 : m.people.map Person.row ≠ [] → F1.get 24617 = some (.arr 2 (m.people.map Person.row) 0 false) := fun h => by rw [← hF1, apF_get (by decide), apF_get (by decide), apF_self h]
    have o3 : m.things.map Thing.row ≠ [] → F1.get 41001 = some (.arr 5 (m.things.map Thing.row) 0 false) := fun h => by rw [← hF1, apF_get (by decide), apF_self h]
    have o7 : m.acts.map RAct.row ≠ [] → F1.get 90153 = some (.arr 9 (m.acts.map RAct.row) 0 false) := fun h => by rw [← hF1, apF_self h]
    obtain ⟨oc, hoc⟩ : ∃ oc : List RAct → List GV, oc = fun l => [.pure (.int .i64 m.wide), .pure (.int .i64 m.deep), apS (1, 24617) 2 (m.people.map Person.row), apS (1, 41001) 5 (m.things.map Thing.row), .pure (.slice (m.seen.map irow)), .pure (.slice (m.lapses.map irow)), apS (1, 90153) 9 (l.map RAct.row)] := ⟨_, rfl⟩
    obtain ⟨F2, hF2⟩ : ∃ F2, F1.ins 14 (.box (oc m.acts)) = F2 := ⟨_, rfl⟩
    have f2 : ∀ k, k ≠ 14 → F2.get k = F1.get k := fun k h => by rw [← hF2, Fr.get_ins_other _ h]
    have q14 : F2.get 14 = some (.box (oc m.acts)) := by rw [← hF2, Fr.get_ins]
    have q6 := (f2 6 (by decide)).trans p6
    have q7 := (f2 7 (by decide)).trans p7
    have q13 := (f2 13 (by decide)).trans p13
    have last : ∀ (F : Fr) (l : List RAct) (v7 : Nat), l.length = m.acts.length → v7 ≤ l.length → (∀ k, k ≠ 7 → k ≠ 90153 → F.get k = F2.get k) → (l.map RAct.row ≠ [] → F.get 90153 = some (.arr 9 (l.map RAct.row) v7 false)) →
        ∀ Q : GX → GSt → Prop, (∀ L', Q (.exit 0) ⟨[(12, gdead)], [L', []], 175⟩) → WPL KC needT 3 (lp Tryz.f3 0) [3, 4, 16, 17] [12] Q [(3, .pure (.int .i64 sea)), (4, .pure (.int .i64 rk)), (16, .lits [r.row.map .pure, m.row.map .pure, oc l]), (17, .pure (.int .i64 0))] [F, []] 175 := fun F l v7 hl hv7 hF h7 Q hQ => by
      have e : ∀ k, k ≠ 7 → k ≠ 90153 → k ≠ 14 → F.get k = F1.get k := fun k a b d => (hF k a b).trans (f2 k d)
      have rp : ∀ ps : List PV, rdL [F, []] (ps.map .pure) ps := fun ps => by
        induction ps with
        | nil => trivial
        | cons p ps ih => exact ⟨rfl, ih⟩
      have R1 : rdL [F, []] (oc l) ({ m with acts := l } : Rite).row := by
        rw [rowR, hoc]
        simp only [rdL_cons, rdL_nil, rdC_pure, and_true, true_and]
        have g : ∀ k, Heap.get [F, []] (1, k) = F.get k := fun k => by simp
        refine ⟨rdC_apS fun h => (g _).trans ((e _ (by decide) (by decide) (by decide)).trans (o2 h)), rdC_apS fun h => (g _).trans ((e _ (by decide) (by decide) (by decide)).trans (o3 h)), ?_⟩
        unfold apS
        by_cases h : l.map RAct.row = []
        · rw [if_pos h, h]; rfl
        · rw [if_neg h]
          exact ⟨_, v7, false, (g _).trans (h7 h), by simpa using hv7, rfl, rfl, by simp, rfl⟩
      refine runs_loop sea rk _ (by simp) (by
        rw [hoc]
        have ap : ∀ ps : List PV, allLe 1 (ps.map .pure) = true := fun ps => by
          induction ps with
          | nil => rfl
          | cons p ps ih => exact ih
        have aS : ∀ k es rows (l : List GV), allLe 1 (apS (1, k) es rows :: l) = allLe 1 l := fun k es rows l => by
          unfold apS; split <;> simp [allLe]
        have aP : ∀ p (l : List GV), allLe 1 (.pure p :: l) = allLe 1 l := fun p l => rfl
        simp only [List.all_cons, List.all_nil, ap, aP, aS, Bool.and_self]
        rfl) Q hQ 3 0 (by simp) (by simp) F (fun j hj => ?_)
      match j, hj with
      | 0, _ => exact ⟨r, hS, rfl, rp _⟩
      | 1, _ => exact ⟨m, mS0, rfl, rp _⟩
      | 2, _ => exact ⟨{ m with acts := l }, mS l hl, by rw [hoc]; rfl, R1⟩
    have es0 := apS_ne (nm := (1, 24617)) (es := 2) (rows := m.people.map Person.row) (by simpa using l6)
    rw [List.length_map] at es0
    by_cases hac : m.acts = []
    · have L := last F2 m.acts 0 rfl (Nat.zero_le _) (fun k _ _ => rfl) (fun h => (f2 _ (by decide)).trans (o7 h))
      simp [hac, apS_nil, hoc, es0] at hF2 q14 L
      simp only [rbox] at q6 q13 eB eR O p6 p13
      simp only [abox] at q7 eB eR O p7
      rw [rowR] at eR O
      simp only [ownG, hac, List.map_nil, apS_nil, es0] at O
      simp [rowR, rbox, abox, hac] at eB eR O L
      simp [B, hb, eB, eR, O, p14, Fr.get_ins, Fr.ins_ins, hF2, q14, q6, q13, hac]
      refine L _ fun L' => ?_
      simp [awake_ok, gleave_free]
    · have hac0 : 0 < m.acts.length := List.length_pos_iff.2 hac
      have hac1 : (0 : Int) < m.acts.length := by omega
      obtain ⟨k, hk, eF⟩ := fit_ok (H := [[]]) at' hac0 (by omega) (by simp)
      have nr : m.acts.map RAct.row ≠ [] := by simpa using hac
      have q9 : F2.get 90153 = some (.arr 9 (m.acts.map RAct.row) 0 false) := (f2 _ (by decide)).trans (o7 nr)
      obtain ⟨a', ha'⟩ : ∃ a' : RAct, a' = { a with at' := m.acts[k].at', who := m.acts[k].who } := ⟨_, rfl⟩
      obtain ⟨F3, hF3⟩ : ∃ F3, F2.ins 7 (abox { a with at' := m.acts[k].at' }) = F3 := ⟨_, rfl⟩
      have f3 : ∀ k, k ≠ 7 → F3.get k = F2.get k := fun k h => by rw [← hF3, Fr.get_ins_other _ h]
      have r7 : F3.get 7 = some (abox { a with at' := m.acts[k].at' }) := by rw [← hF3, Fr.get_ins]
      have r9 := (f3 90153 (by decide)).trans q9
      have r14 := (f3 14 (by decide)).trans q14
      obtain ⟨F4, hF4⟩ : ∃ F4, F2.ins 7 (abox a') = F4 := ⟨_, rfl⟩
      have hF34 : F3.ins 7 (abox a') = F4 := by rw [← hF3, Fr.ins_ins, hF4]
      have f4 : ∀ k, k ≠ 7 → F4.get k = F2.get k := fun k h => by rw [← hF4, Fr.get_ins_other _ h]
      have s7 : F4.get 7 = some (abox a') := by rw [← hF4, Fr.get_ins]
      have s9 := (f4 90153 (by decide)).trans q9
      have s14 := (f4 14 (by decide)).trans q14
      obtain ⟨F5, hF5⟩ : ∃ F5, F4.ins 90153 (.arr 9 ((m.acts.set k a').map RAct.row) m.acts.length false) = F5 := ⟨_, rfl⟩
      have f5 : ∀ k, k ≠ 90153 → F5.get k = F4.get k := fun k h => by rw [← hF5, Fr.get_ins_other _ h]
      have t6 := ((f5 6 (by decide)).trans (f4 6 (by decide))).trans q6
      have t13 := ((f5 13 (by decide)).trans (f4 13 (by decide))).trans q13
      have t14 := (f5 14 (by decide)).trans s14
      have hsl : m.acts.set k a' ≠ [] := by rw [ne_eq, List.set_eq_nil_iff]; exact hac
      have nr2 : (m.acts.set k a').map RAct.row ≠ [] := by simpa using hsl
      have es1 := apS_ne (nm := (1, 90153)) (es := 9) nr
      have es2 := apS_ne (nm := (1, 90153)) (es := 9) nr2
      have L := last F5 (m.acts.set k a') m.acts.length (by simp) (by simp) (fun k h1 h2 => (f5 k h2).trans (f4 k h1)) (fun _ => by rw [← hF5, Fr.get_ins])
      rw [hoc] at q14 r14 s14 t14 hF2 L
      simp only [es1, es0] at q14 r14 s14 t14 hF2
      simp only [es2, es0] at L
      simp only [rbox] at q6 q13 t6 t13 eB eR O p6 p13
      simp only [abox] at q7 eB eR O p7 r7 s7 hF3 hF34
      simp only [ownG, es1, es0] at O
      rw [rowR] at eR O
      simp [ha'] at hF34 s7 hF5 L
      simp [RAct.row] at hF5
      simp [rowR] at L
      simp at hF2 q14 r14 s14 t14 O hF3 r7 eR eB
      simp [B, hb, eB, eR, O, p14, Fr.get_ins, Fr.ins_ins, hF2, q14, q6, q13, q7, q9, hac, hac0, hac1, eF, hk, hF3, r7, r9, r14, hF34, s7, s9, s14, RAct.row, hF5, t6, t13, t14]
      refine L _ fun L' => ?_
      simp [awake_ok, gleave_free]
section
open Go.ChangeShapes Go.WideShapes Go.RowKit Go.ChangeAt
def Shp (P : Program) : Nat → TypeId → List PV → Prop
  | 0, _, _ => False
  | n + 1, t, ps =>
    match P.underlying t with
    | some .bool => ∃ b, ps = [.bool b]
    | some (.int k) => ∃ m, (Lit.int k m).wf = true ∧ ps = [.int k m]
    | some .string => ∃ l : List UInt8, l.length ≤ maxLen ∧ ps = [.str l]
    | some (.slice e) => ∃ rows, rows.length ≤ maxLen ∧ (∀ r ∈ rows, r.length = P.cellsOf e ∧ Shp P n e r) ∧ ps = [.slice rows]
    | some (.struct fs) => ps.length = P.cellsOf t ∧ ∀ f ∈ fs.toList, Shp P n f.type ((ps.drop f.offset).take (P.cellsOf f.type))
    | some (.array m e) => ps.length = P.cellsOf t ∧ ∀ i, i < m → Shp P n e ((ps.drop (i * P.cellsOf e)).take (P.cellsOf e))
    | _ => False
def consec (P : Program) (tot : Nat) : Nat → List (Nat × TypeId) → Bool
 | o, [] => o == tot
 | o, (off, t) :: r => off == o && consec P tot (o + P.cellsOf t) r
def plainTy (P : Program) : Nat → TypeId → Bool
  | 0, _ => false
  | n + 1, t =>
    match P.underlying t with
    | some .bool | some (.int _) | some .string => true
    | some (.slice e) => decide (0 < P.cellsOf e) && plainTy P n e
    | some (.struct fs) => consec P (P.cellsOf t) 0 (fs.toList.map fun f => (f.offset, f.type)) && fs.toList.all fun f => plainTy P n f.type
    | some (.array m e) => consec P (P.cellsOf t) 0 ((List.range m).map fun i => (i * P.cellsOf e, e)) && plainTy P n e
    | _ => false
def S0 (w : World) : Nat → Prop := fun b => b < w.heap.size
def PRow (w : World) (cs : List Value) (ps : List PV) : Prop := ps.length = cs.length ∧ ∀ j, j < cs.length → (cs.getD j undef).oneCell' = true ∧ PRep w (S0 w) (cs.getD j undef) (ps.getD j .dead)
theorem PRow.append {w : World} {a b : List Value} {p q : List PV} (h : PRow w a p) (k : PRow w b q) : PRow w (a ++ b) (p ++ q) := by
 obtain ⟨h1, h2⟩ := h
 obtain ⟨k1, k2⟩ := k
 refine ⟨by simp [h1, k1], fun j hj => ?_⟩
 by_cases hja : j < a.length
 ·have e1 : (a ++ b).getD j undef = a.getD j undef := by simp [List.getD_eq_getElem?_getD, List.getElem?_append_left hja]
  have e2 : (p ++ q).getD j .dead = p.getD j .dead := by simp [List.getD_eq_getElem?_getD, List.getElem?_append_left (show j < p.length by omega)]
  rw [e1, e2]; exact h2 j hja
 ·have e1 : (a ++ b).getD j undef = b.getD (j - a.length) undef := by simp [List.getD_eq_getElem?_getD, List.getElem?_append_right (show a.length ≤ j by omega)]
  have e2 : (p ++ q).getD j .dead = q.getD (j - a.length) .dead := by rw [List.getD_eq_getElem?_getD, List.getElem?_append_right (show p.length ≤ j by omega), h1, List.getD_eq_getElem?_getD]
  rw [e1, e2]; exact k2 _ (by simp at hj; omega)
theorem one_row {w : World} {v : Value} {p : PV} (h1 : v.oneCell' = true) (h : PRep w (S0 w) v p) : PRow w [v] [p] :=
  ⟨rfl, fun j hj => by have : j = 0 := by simpa using hj
                       subst this; exact ⟨h1, h⟩⟩
section
variable {P : Program} {w : World}
theorem parts_open (n : Nat) {cs : List Value} : ∀ (l : List (Nat × TypeId)) (o : Nat), consec P cs.length o l = true →
    (∀ x ∈ l, ∃ ps, PRow w ((cs.drop x.1).take (P.cellsOf x.2)) ps ∧ Shp P n x.2 ps) →
    o ≤ cs.length ∧ ∃ ps, PRow w (cs.drop o) ps ∧ ∀ x ∈ l, o ≤ x.1 ∧ Shp P n x.2 ((ps.drop (x.1 - o)).take (P.cellsOf x.2))
  | [], o, hc, h => by
    simp only [consec, beq_iff_eq] at hc
    subst hc
    exact ⟨Nat.le_refl _, [], by simp [PRow], by simp⟩
  | (off, t) :: r, o, hc, h => by
    simp only [consec, Bool.and_eq_true, beq_iff_eq] at hc
    obtain ⟨rfl, hc⟩ := hc
    obtain ⟨hle, ps, h1, h2⟩ := parts_open n r _ hc (fun x hx => h x (List.mem_cons_of_mem _ hx))
    obtain ⟨p, q1, q2⟩ := h (off, t) (List.mem_cons_self ..)
    simp only at q1 q2
    have hpl : p.length = P.cellsOf t := by rw [q1.1, List.length_take, List.length_drop]; omega
    refine ⟨by omega, p ++ ps, ?_, fun x hx => ?_⟩
    · have := q1.append h1
      rw [← List.drop_drop, List.take_append_drop] at this
      exact this
    · rcases List.mem_cons.1 hx with rfl | hx
      · refine ⟨Nat.le_refl _, ?_⟩
        simp only [Nat.sub_self, List.drop_zero]
        rw [← hpl, List.take_left]
        exact q2
      · obtain ⟨g1, g2⟩ := h2 x hx
        refine ⟨by omega, ?_⟩
        have e : (p ++ ps).drop (x.1 - off) = ps.drop (x.1 - (off + P.cellsOf t)) := by
          rw [List.drop_append, List.drop_of_length_le (by omega), List.nil_append, hpl, Nat.sub_sub]
        rw [e]; exact g2
theorem open_plain {H : Type} {enc : TypeId × Value → H} : ∀ (n : Nat) (t : TypeId) (fuel : Nat) (cs : List Value) (x : DataW H × List MemPlace), plainTy P n t = true →
    DataW.trod enc P w 0 (fun _ => true) true fuel t cs = some x → ∃ ps, PRow w cs ps ∧ Shp P n t ps := by
  intro n
  induction n with
  | zero => intro t fuel cs x h; simp [plainTy] at h
  | succ n ih =>
    intro t fuel cs x h hx
    unfold plainTy at h
    unfold Shp
    split at h
    · rename_i ht
      obtain ⟨b, rfl, _⟩ := DataW.trod_bool ht hx
      exact ⟨[.bool b], one_row rfl (.bool b), b, rfl⟩
    · rename_i k ht
      obtain ⟨m, rfl, _, hw⟩ := DataW.trod_int ht hx
      exact ⟨[.int k m], one_row rfl (.int k m), m, hw, rfl⟩
    · rename_i ht
      obtain ⟨s, rfl, _, hs⟩ := DataW.trod_string ht hx
      exact ⟨[.str s.data.toList], one_row rfl (.str s), _, by simpa using hs, rfl⟩
    · rename_i e ht
      simp only [Bool.and_eq_true, decide_eq_true_eq] at h
      obtain ⟨he, hp⟩ := h
      rcases DataW.trod_slice ht hx with ⟨rfl, _⟩ | ⟨a, len, cap, elems, rest, m, _, rfl, _, hb, hl, hm, hlen, hel, _, _⟩
      · exact ⟨[.slice []], one_row rfl (.slice0 none 0), [], by simp, by simp, rfl⟩
      · by_cases h0 : len = 0
        · subst h0
          exact ⟨[.slice []], one_row rfl (.slice0 _ _), [], by simp, by simp, rfl⟩
        · have each : ∀ i, i < len → ∃ c ps, w.cells? 0 (a.add (i * P.cellsOf e)) (P.cellsOf e) = some c ∧ PRow w c ps ∧ Shp P n e ps := by
            intro i hi
            have h1 := hel i hi
            rw [List.getElem?_eq_getElem (show i < elems.length by omega), Option.bind_eq_some_iff] at h1
            obtain ⟨c, h1, h2⟩ := h1
            obtain ⟨ps, h3, h4⟩ := ih e m c _ hp h2
            exact ⟨c, ps, h1, h3, h4⟩
          have ch : ∃ fc : Nat → List Value, ∃ fp : Nat → List PV, ∀ i, i < len → w.cells? 0 (a.add (i * P.cellsOf e)) (P.cellsOf e) = some (fc i) ∧ PRow w (fc i) (fp i) ∧ Shp P n e (fp i) := by
            refine ⟨fun i => if h : i < len then Classical.choose (each i h) else [], fun i => if h : i < len then Classical.choose (Classical.choose_spec (each i h)) else [], fun i hi => ?_⟩
            simp only [hi, ↓reduceDIte]
            exact Classical.choose_spec (Classical.choose_spec (each i hi))
          obtain ⟨fc, fp, hf⟩ := ch
          have hcell : ∀ i j, i < len → j < P.cellsOf e → w.cell? (a.add (i * P.cellsOf e + j)) = some ((fc i).getD j undef) := by
            intro i j hi hj
            obtain ⟨h1, _⟩ := hf i hi
            obtain ⟨_, g1, g2⟩ := World.cells?_some h1
            have := g2 j hj
            rw [List.getElem?_eq_getElem (by omega)] at this
            have e1 : (a.add (i * P.cellsOf e)).add j = a.add (i * P.cellsOf e + j) := by
              unfold Addr.add
              by_cases c1 : i * P.cellsOf e = 0 <;> by_cases c2 : j = 0 <;> simp_all [Nat.add_assoc]
            rw [e1] at this
            rw [this, List.getD_eq_getElem?_getD, List.getElem?_eq_getElem (by omega)]; rfl
          obtain ⟨b, off, spot⟩ := a
          have hsp : spot = none := by
            have := World.cell?_spot (hcell 0 0 (by omega) he)
            simpa [Addr.add] using this
          subst hsp
          have hcell' : ∀ i j, i < len → j < P.cellsOf e → w.cell? ⟨b, off + (i * P.cellsOf e + j), none⟩ = some ((fc i).getD j undef) := by
            intro i j hi hj
            have := hcell i j hi hj
            unfold Addr.add at this
            split at this
            · rename_i c; rw [c, Nat.add_zero]; exact this
            · exact this
          have hfl : ∀ i, i < len → (fp i).length = P.cellsOf e ∧ (fc i).length = P.cellsOf e := by
            intro i hi
            obtain ⟨h1, h2, _⟩ := hf i hi
            obtain ⟨_, g1, _⟩ := World.cells?_some h1
            exact ⟨h2.1.trans g1, g1⟩
          have hrows : ((List.range len).map fp).length = len := by simp
          refine ⟨[.slice ((List.range len).map fp)], one_row rfl ?_, _, by rw [hrows]; omega, fun r hr => ?_, rfl⟩
          · have := PRep.slice (w := w) (S := S0 w) b off cap (P.cellsOf e) ((List.range len).map fp) (fun i j => (fc i).getD j undef) (by
                have := hcell' 0 0 (by omega) he
                unfold S0
                refine Classical.byContradiction fun hn => ?_
                have hz : w.heap[b]? = none := Array.getElem?_eq_none (by omega)
                simp [World.cell?, hz] at this) he
              (fun r hr => by obtain ⟨i, hi, rfl⟩ := List.mem_map.1 hr; exact (hfl i (by simpa using hi)).1)
              (fun i j hi hj => hcell' i j (by simpa using hi) hj)
              (fun i j hi hj => by
                have hi' : i < len := by simpa using hi
                exact ((hf i hi').2.1.2 j (by rw [(hfl i hi').2]; exact hj)).1)
              (fun i j hi hj => by
                have hi' : i < len := by simpa using hi
                have e1 : ((List.range len).map fp).getD i [] = fp i := by simp [List.getD_eq_getElem?_getD, hi']
                rw [e1]
                exact ((hf i hi').2.1.2 j (by rw [(hfl i hi').2]; exact hj)).2)
              (by rw [hrows]; exact hl)
            rw [hrows] at this
            exact this
          · obtain ⟨i, hi, rfl⟩ := List.mem_map.1 hr
            have hi' : i < len := by simpa using hi
            exact ⟨(hfl i hi').1, (hf i hi').2.2⟩
    · rename_i fs ht
      simp only [Bool.and_eq_true, List.all_eq_true] at h
      obtain ⟨hc, hp⟩ := h
      obtain ⟨xs, m, _, _, hl, hlen, hfld⟩ := DataW.trod_struct ht hx
      rw [← hl] at hc
      obtain ⟨_, ps, h1, h2⟩ := parts_open (w := w) n _ 0 hc (fun y hy => by
        obtain ⟨f, hf, rfl⟩ := List.mem_map.1 hy
        obtain ⟨i, hi, e⟩ := List.getElem_of_mem hf
        have hi' : i < fs.size := by simpa using hi
        have h3 := hfld i f (by rw [Array.getElem?_eq_getElem hi']; rw [← e]; simp)
        rw [List.getElem?_eq_getElem (by omega)] at h3
        obtain ⟨p, q1, q2⟩ := ih f.type m _ _ (hp f hf) h3
        exact ⟨p, q1, q2⟩)
      rw [List.drop_zero] at h1
      refine ⟨ps, h1, by rw [h1.1, hl], fun f hf => ?_⟩
      exact (h2 (f.offset, f.type) (List.mem_map.2 ⟨f, hf, rfl⟩)).2
    · rename_i k e ht
      simp only [Bool.and_eq_true] at h
      obtain ⟨hc, hp⟩ := h
      obtain ⟨xs, m, _, _, hl, hlen, hfld⟩ := DataW.trod_array ht hx
      rw [← hl] at hc
      obtain ⟨_, ps, h1, h2⟩ := parts_open (w := w) n _ 0 hc (fun y hy => by
        obtain ⟨i, hi, rfl⟩ := List.mem_map.1 hy
        have hi' : i < k := by simpa using hi
        have h3 := hfld i hi'
        rw [List.getElem?_eq_getElem (by omega)] at h3
        obtain ⟨p, q1, q2⟩ := ih e m _ _ hp h3
        exact ⟨p, q1, q2⟩)
      rw [List.drop_zero] at h1
      refine ⟨ps, h1, by rw [h1.1, hl], fun i hi => ?_⟩
      exact (h2 (i * P.cellsOf e, e) (List.mem_map.2 ⟨i, by simpa using hi, rfl⟩)).2
    · cases h
def ArgP (P : Program) (n : Nat) (t : TypeId) (p : PV) : Prop :=
 match P.underlying t with
 | some (.struct _) | some (.array _ _) => ∃ ps, p = .agg ps ∧ Shp P n t ps
 | _ => Shp P n t [p]
def ArgsP (P : Program) (n : Nat) : List TypeId → List PV → Prop
 | [], [] => True
 | t :: ts, p :: ps => ArgP P n t p ∧ ArgsP P n ts ps
 | _, _ => False
def mu0 : Mu := fun _ _ => none
theorem shp_one {n : Nat} {t : TypeId} {ps : List PV} (h : Shp P n t ps) (hs : ∀ fs, P.underlying t ≠ some (.struct fs)) (ha : ∀ m e, P.underlying t ≠ some (.array m e)) : ∃ p, ps = [p] := by
  cases n with
  | zero => exact h.elim
  | succ n =>
    unfold Shp at h
    split at h
    · obtain ⟨b, rfl⟩ := h; exact ⟨_, rfl⟩
    · obtain ⟨m, _, rfl⟩ := h; exact ⟨_, rfl⟩
    · obtain ⟨m, _, rfl⟩ := h; exact ⟨_, rfl⟩
    · obtain ⟨m, _, _, rfl⟩ := h; exact ⟨_, rfl⟩
    · rename_i ht; exact absurd ht (hs _)
    · rename_i ht; exact absurd ht (ha _ _)
    · exact h.elim
theorem arg_rel {H : Type} {enc : TypeId × Value → H} {n : Nat} {t : TypeId} {v : Value} {d : DataW H} {ps0 : List MemPlace} {base : Nat} (hp : plainTy P n t = true) (hok : Value.okWide P w .any base t v)
    (h : DataW.Trod enc P w 0 (fun _ => true) true t v d ps0) : ∃ p, VRel w (S0 w) mu0 0 v (.pure p) ∧ ArgP P n t p := by
  obtain ⟨fuel, hf⟩ := h
  obtain ⟨ps, h1, h2⟩ := open_plain n t fuel _ _ hp hf
  have agg : ∀ cs, v = .agg cs → ∃ p, VRel w (S0 w) mu0 0 v (.pure p) ∧ ∃ ps, p = .agg ps ∧ Shp P n t ps := by
    intro cs e
    subst e
    simp only [Value.cells] at h1
    refine ⟨.agg ps, .pure _ _ (.agg cs ps (by simpa using h1.1.symm) (fun j hj => ?_) (fun j hj => ?_)), ps, rfl, h2⟩
    · have := (h1.2 j (by rw [← h1.1]; exact hj)).1
      simpa [List.getD_eq_getElem?_getD] using this
    · have := (h1.2 j (by rw [← h1.1]; exact hj)).2
      simpa [List.getD_eq_getElem?_getD] using this
  unfold ArgP
  split
  · rename_i fs ht
    obtain ⟨cs, e, _⟩ := okWide_struct ht hok
    exact agg cs e
  · rename_i m e ht
    simp only [Value.okWide, ht] at hok
    obtain ⟨cs, e, _⟩ := hok
    exact agg cs e
  · rename_i hs ha
    obtain ⟨p, rfl⟩ := shp_one h2 (fun fs e => hs fs e) (fun m e e' => ha m e e')
    have hv : v.cells.toList = [v] := by
      have hl := h1.1
      cases v <;> first | rfl | skip
      · exfalso
        rename_i cs
        cases n with
        | zero => exact h2.elim
        | succ n =>
          unfold plainTy at hp
          simp only [Value.okWide] at hok
          split at hp <;> rename_i ht <;> first | (simp [Cell.okWide, Cell.ok, ht] at hok; done) | (exact absurd ht (hs _)) | (exact absurd ht (ha _ _)) | (cases hp; done) | skip
    rw [hv] at h1
    exact ⟨p, .pure _ _ (h1.2 0 (by simp)).2, h2⟩
end
end
end Go.Gh

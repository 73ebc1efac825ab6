/- Every operation but a call of Go code. -/
import Derived.Test.YtgmohiojddnfgaaGreatDoorGhostU
namespace Go.Gh
set_option linter.unusedSimpArgs false
set_option linter.unusedVariables false

section
variable {w : World} {S : Nat → Prop} {μ : Mu} {H : Heap} {P : Program} {ℓ : Nat}

theorem OpOk.ofRun {k : Nat} {s : Sem Value} {v : GV} (hH : HRel w S μ H) (hk : k ≤ H.length - 1) (h : ∃ u, s.run P w = .ok u w ∧ VRel w S μ k u v) :
    OpOk ℓ w S μ H ((do pure (Next.value (← s)) : Sem Next).run P w) v H := by
  obtain ⟨u, h1, h2⟩ := h
  exact .of hH (h2.up hk) (by simp [h1])

theorem mkFunc_rel {k : Nat} {f : FuncId} {a c : Array Value} {la lc : List GV} (h1 : a.size = la.length) (h2 : c.size = lc.length) (hr1 : ∀ j, j < la.length → VRel w S μ k (a.getD j undef) (la.getD j gdead))
    (hr2 : ∀ j, j < lc.length → VRel w S μ k (c.getD j undef) (lc.getD j gdead)) : VRel w S μ k (.func (.func f) a c) (mkFunc f la lc) := by
  unfold mkFunc
  split
  · rename_i he
    simp only [Bool.and_eq_true, List.isEmpty_iff] at he
    obtain ⟨rfl, rfl⟩ := he
    have ea : a = #[] := by simpa using h1
    have ec : c = #[] := by simpa using h2
    subst ea; subst ec
    exact .pure _ _ (.fn f)
  · exact .func f a c la lc h1 h2 hr1 hr2

theorem evs_rel (hG : GlbRel w S) {k : Nat} {a : Act} {s : Slots} (hs : ∀ t, VRel w S μ k (a.tmps.getD t undef) (look s t)) (xs : Array Operand) :
    (xs.map a.eval).size = (xs.toList.map (ev s)).length ∧ ∀ j, j < (xs.toList.map (ev s)).length → VRel w S μ k ((xs.map a.eval).getD j undef) ((xs.toList.map (ev s)).getD j gdead) := by
  refine ⟨by simp, fun j hj => ?_⟩
  have hj' : j < xs.size := by simpa using hj
  have := ev_rel hG hs xs[j]
  simpa [Array.getD_eq_getD_getElem?, List.getD_eq_getElem?_getD, hj'] using this

theorem tuple_inv {k : Nat} {v : Value} {l : List GV} (h : VRel w S μ k v (.tuple l)) : ∃ vs : Array Value, v = .tuple vs ∧ vs.size = l.length ∧ ∀ j, j < l.length → VRel w S μ k (vs.getD j undef) (l.getD j gdead) := by
  cases h with
  | tuple vs l h hr => exact ⟨vs, rfl, h, hr⟩

theorem tuple_pure_inv {k : Nat} {v : Value} {l : List PV} (h : VRel w S μ k v (.pure (.tuple l))) : ∃ vs : Array Value, v = .tuple vs ∧ vs.size = l.length ∧ ∀ j, j < l.length → PRep w S (vs.getD j undef) (l.getD j .dead) := by
  have := h.pv
  cases this with
  | tuple vs l h hr => exact ⟨vs, rfl, h, hr⟩

/-- A new variable, of whatever type. -/
theorem allocE_sound (K : Ctx) {d : Nat} {t : TypeId} {z : GV} {cs : List GV} {nm : Nm} {H' : Heap} (hH : HRel w S μ H) (hz : tzero K.P t = some z) (hc : cellsO z = some cs)
    (h : gnewE K H (H.length - 1) t d (.box cs) = some (nm, H')) :
    OpOk ℓ w S μ H ((do pure (Next.value (← Instr.alloc t true (.tuple #[]))) : Sem Next).run K.P w) (.bptr nm 0) H' := by
  unfold gnewE at h
  split at h
  · obtain ⟨rfl, hl, hg, rfl, ht⟩ := gnewT_some h
    obtain ⟨v, h1, rfl⟩ := r_zero (P := K.P) w hz
    have hc' := cellsO_rel (ofConst_rel (w := w) (S := S) (μ := μ) (ℓ := H.length - 1) v) hc
    have := new_boxE (ℓ := ℓ) (t := t) hH hc' (Nat.le_refl _) rfl hl hg (ht t)
    simpa [Instr.alloc, h1, newVar, newRow] using this
  · exact alloc_sound hH hz hc h

theorem gop_sound (K : Ctx) (hK : CtxOk K) {fn : FuncId} {o : Oper} {a : Act} {s : Slots} {v : GV} {H' : Heap} (hH : HRel w S μ H)
    (hs : ∀ t, VRel w S μ (H.length - 1) (a.tmps.getD t undef) (look s t)) (h : gop K fn o s H = some (v, H')) : OpOk ℓ w S μ H ((execOp a.eval o).run K.P w) v H' := by
  obtain ⟨dst, op, type, pos, after, guard⟩ := o
  have hev := fun x => ev_rel hH.glb hs x
  unfold gop at h
  unfold execOp
  cases op with
  | move x =>
    simp only [Option.some.injEq, Prod.mk.injEq] at h ⊢
    obtain ⟨rfl, rfl⟩ := h
    exact .same hH (hev x)
  | assign x =>
    simp only [Option.some.injEq, Prod.mk.injEq] at h ⊢
    obtain ⟨rfl, rfl⟩ := h
    exact .same hH (hev x)
  | pick c x y =>
    simp only at h ⊢
    split at h
    · rename_i b hb
      have hc := hev c
      rw [hb] at hc
      simp only [Option.some.injEq, Prod.mk.injEq] at h
      obtain ⟨rfl, rfl⟩ := h
      rw [hc.bool_inv]
      cases b with
      | true => exact .of hH (by simpa using hev x) (by simp [asBool])
      | false => exact .of hH (by simpa using hev y) (by simp [asBool])
    · cases h
  | alloc t =>
    simp only at h ⊢
    split at h
    · rename_i d z hz
      split at h
      · rename_i cs hcs
        split at h
        · rename_i nm H1 hnew
          simp only [Option.some.injEq, Prod.mk.injEq] at h
          obtain ⟨rfl, rfl⟩ := h
          exact allocE_sound K hH ‹tzero K.P t = some _› hcs hnew
        · cases h
      · cases h
    · cases h
  | box t x =>
    simp only at h ⊢
    split at h
    · rename_i d cs hcs
      split at h
      · rename_i nm H1 hnew
        simp only [Option.some.injEq, Prod.mk.injEq] at h
        obtain ⟨rfl, rfl⟩ := h
        exact box_sound hH (hev x) hcs hnew
      · cases h
    · cases h
  | build t parts =>
    simp only at h ⊢
    split at h
    · rename_i z hz
      split at h
      · rename_i zs hzs
        split at h
        · rename_i cs hcs
          simp only [Option.some.injEq, Prod.mk.injEq] at h
          obtain ⟨rfl, rfl⟩ := h
          exact build_sound hH hs hz hzs hcs
        · cases h
      · cases h
    · cases h
  | buildSlice t len parts =>
    simp only at h ⊢
    split at h
    · rename_i e hu
      split at h
      · rename_i size z hsz hz
        split at h
        · rename_i zs hzs
          split at h
          · rename_i hc
            split at h
            · rename_i cs hcs
              split at h
              · rename_i h0
                simp only [Option.some.injEq, Prod.mk.injEq] at h
                obtain ⟨rfl, rfl⟩ := h
                have := lits_sound (ℓ := ℓ) hH hs hu hsz hz hzs hc.1 hc.2.1 hc.2.2 hcs
                rwa [if_pos h0] at this
              · rename_i h0
                split at h
                · rename_i ps hps
                  split at h
                  · rename_i d
                    split at h
                    · split at h
                      · rename_i nm H1 hnew
                        simp only [Option.some.injEq, Prod.mk.injEq] at h
                        obtain ⟨rfl, rfl⟩ := h
                        exact ownLit_sound hH hs hu hsz hz hzs hc.1 hc.2.1 hc.2.2 hcs hps hnew
                      · cases h
                    · split at h
                      · simp only [Option.some.injEq, Prod.mk.injEq] at h
                        obtain ⟨rfl, rfl⟩ := h
                        have := lits_sound (ℓ := ℓ) hH hs hu hsz hz hzs hc.1 hc.2.1 hc.2.2 hcs
                        rwa [if_neg h0] at this
                      · simp only [Option.some.injEq, Prod.mk.injEq] at h
                        obtain ⟨rfl, rfl⟩ := h
                        exact lit_sound hH hs hu hsz hz hzs hc.1 hc.2.1 hc.2.2 hcs hps h0
                  · cases h
                · split at h
                  · rename_i d
                    split at h
                    · split at h
                      · rename_i nm H1 hnew
                        simp only [Option.some.injEq, Prod.mk.injEq] at h
                        obtain ⟨rfl, rfl⟩ := h
                        exact ownLits_sound hH hs hu hsz hz hzs hc.1 hc.2.1 hc.2.2 hcs hnew
                      · cases h
                    · simp only [Option.some.injEq, Prod.mk.injEq] at h
                      obtain ⟨rfl, rfl⟩ := h
                      have := lits_sound (ℓ := ℓ) hH hs hu hsz hz hzs hc.1 hc.2.1 hc.2.2 hcs
                      rwa [if_neg h0] at this
                  · simp only [Option.some.injEq, Prod.mk.injEq] at h
                    obtain ⟨rfl, rfl⟩ := h
                    have := lits_sound (ℓ := ℓ) hH hs hu hsz hz hzs hc.1 hc.2.1 hc.2.2 hcs
                    rwa [if_neg h0] at this
            · cases h
          · cases h
        · cases h
      · cases h
    · cases h
  | load t x =>
    simp only at h ⊢
    split at h
    · rename_i r hr
      simp only [Option.some.injEq, Prod.mk.injEq] at h
      obtain ⟨rfl, rfl⟩ := h
      exact .ofRun hH (Nat.le_refl _) (gload_sound hH (hev x) hr)
    · cases h
  | store t x y =>
    simp only at h ⊢
    split at h
    · rename_i H1 hr
      simp only [Option.some.injEq, Prod.mk.injEq] at h
      obtain ⟨rfl, rfl⟩ := h
      obtain ⟨w', S', μ', h1, h2, h3, h4⟩ := gstore_sound ℓ hH (hev x) (hev y) hr
      exact ⟨.skip, undef, w', S', μ', by simp [h1], .inr ⟨rfl, rfl⟩, vdead _, h2, h3, h4⟩
    · cases h
  | nilCheck x =>
    simp only at h ⊢
    have hx := hev x
    split at h
    all_goals first | (cases h; done) | skip
    all_goals
      rename_i he
      simp only [Option.some.injEq, Prod.mk.injEq] at h
      obtain ⟨rfl, rfl⟩ := h
      rw [he] at hx
      refine .of hH hx ?_
    all_goals generalize a.eval x = y at hx ⊢
    all_goals first | (cases hx; rfl; done) | (have hp := hx.pv; cases hp; rfl)
  | binOp op t x y z =>
    simp only at h ⊢
    split at h
    · rename_i p hp
      simp only [Option.some.injEq, Prod.mk.injEq] at h
      obtain ⟨rfl, rfl⟩ := h
      have hb : ∃ u, (eqGuard op t x y (a.eval x) (a.eval y)).run K.P w = .ok () w ∧ (binOp op t (a.eval x) (a.eval y)).run K.P w = .ok u w ∧ PRep w S u p := by
        unfold gbinN at hp
        split at hp
        · rename_i hn
          obtain rfl := isNilC_eq hn
          exact gnilEq_sound K (hev x) hp
        split at hp
        · rename_i hn
          have := gnilI_sound K (x := x) hn (hev x) hp
          obtain rfl := isNilI_eq hn
          exact this
        · exact gbin_sound K hK (x := x) (y := y) (hev x) (hev y) hp
      obtain ⟨u, h1, h2, h3⟩ := hb
      exact .of hH (.pure _ _ h3) (by simp [h1, h2])
    · cases h
  | unOp op t x =>
    simp only at h ⊢
    have hx := hev x
    split at h
    · rename_i b he
      simp only [Option.some.injEq, Prod.mk.injEq] at h
      obtain ⟨rfl, rfl⟩ := h
      rw [he] at hx; rw [hx.bool_inv]
      exact .of hH (.pure _ _ (.bool _)) (by simp [Op.unary])
    · rename_i k n he
      simp only [Option.some.injEq, Prod.mk.injEq] at h
      obtain ⟨rfl, rfl⟩ := h
      rw [he] at hx; rw [hx.int_inv]
      exact .of hH (.pure _ _ (.int k (k.wrap (-n)))) (by simp [Op.unary, Op.intArith])
    · cases h
  | convert src d x =>
    simp only at h ⊢
    have hx := hev x
    split at h
    · rename_i k k' n h1 h2 he
      simp only [Option.some.injEq, Prod.mk.injEq] at h
      obtain ⟨rfl, rfl⟩ := h
      rw [he] at hx; rw [hx.int_inv]
      exact .of hH (.pure _ _ (.int _ _)) (by simp [convert, r_underlying w h1, r_underlying w h2, Conv.intToInt])
    · rename_i k l h1 h2 he
      simp only [Option.some.injEq, Prod.mk.injEq] at h
      obtain ⟨rfl, rfl⟩ := h
      rw [he] at hx
      obtain ⟨str, e1, e2⟩ := hx.str_inv
      rw [e1] at hx ⊢
      exact .of hH hx (by simp [convert, r_underlying w h1, r_underlying w h2])
    · rename_i e rows h1 h2 he
      rw [he] at hx
      split at h
      · rename_i l hu hb
        split at h
        · cases h
        · rename_i h0
          simp only [Option.some.injEq, Prod.mk.injEq] at h
          obtain ⟨rfl, rfl⟩ := h
          obtain ⟨str, e1, rfl⟩ := toBytes_run (P := K.P) h1 hu h2 hx hb (by simpa using h0)
          exact .of hH (.pure _ _ (.str str)) (by simp [e1])
      · cases h
    · cases h
  | makeFunc f first cap =>
    cases f with
    | func f =>
      simp only [Option.some.injEq, Prod.mk.injEq] at h ⊢
      obtain ⟨rfl, rfl⟩ := h
      exact .of hH (mkFunc_rel (evs_rel hH.glb hs first).1 (evs_rel hH.glb hs cap).1 (evs_rel hH.glb hs first).2 (evs_rel hH.glb hs cap).2) (by simp [Instr.makeFunc])
    | _ => cases h
  | makeMap t r =>
    cases r with
    | some r => cases h
    | none =>
    simp only at h ⊢
    split at h
    · rename_i d
      split at h
      · rename_i nm H1 hnew
        simp only [Option.some.injEq, Prod.mk.injEq] at h
        obtain ⟨rfl, rfl⟩ := h
        obtain ⟨rfl, hl, hg, rfl⟩ := gnewAt_some hnew
        obtain ⟨h1, h2⟩ := hH.new ℓ hg hl (.map #[] 0) 0 (.map []) (by
          refine ⟨w.heap.size, #[], 0, Mu.upd_self _ _ _ _, fun h => ?_, alloc_new w _, rfl, fun j hj => by simp at hj⟩
          have := hH.slt _ h; omega)
        exact ⟨.value (.map (some w.heap.size)), _, _, S, _, by simp [Instr.makeMap], .inl rfl, .map _ _ (by simp [Heap.length_set]) (Mu.upd_self _ _ _ _), h1, h2, Heap.length_set _ _ _⟩
      · cases h
    · cases h
  | makeSlice t l c =>
    simp only at h ⊢
    split at h
    · rename_i e hu
      split at h
      · rename_i size bytes z kl l' kc c' d hsz hby hz hl hc
        split at h
        · rename_i zs hzs
          split at h
          · rename_i ps hps
            split at h
            · rename_i hcond
              obtain ⟨c1, c2, c3, c4, c5, c6⟩ := hcond
              split at h
              · rename_i nm H1 hnew
                simp only [Option.some.injEq, Prod.mk.injEq] at h
                obtain ⟨rfl, rfl⟩ := h
                have h1 := hev l
                have h2 := hev c
                rw [hl] at h1; rw [hc] at h2
                rw [h1.int_inv, h2.int_inv]
                exact makeSlice_sound hH hu hsz hby hz hzs hps c1 c2 c3 c4 c5 c6 hnew
              · cases h
            · cases h
          · cases h
        · cases h
      · cases h
    · cases h
  | slice t x lo hi mx =>
    simp only at h ⊢
    split at h
    · rename_i r hr
      simp only [Option.some.injEq, Prod.mk.injEq] at h
      obtain ⟨rfl, rfl⟩ := h
      exact .ofRun hH (Nat.le_refl _) (slice_sound K hH.glb hs (hev x) hr)
    · cases h
  | fieldAddr st x f =>
    simp only at h ⊢
    split at h
    · rename_i off ft hf
      split at h
      · rename_i size hsz
        split at h
        · cases h
        · rename_i h0
          split at h
          · rename_i r hr
            simp only [Option.some.injEq, Prod.mk.injEq] at h
            obtain ⟨rfl, rfl⟩ := h
            exact .ofRun hH (Nat.le_refl _) (fieldAddr_sound (hev x) hf hsz h0 hr)
          · cases h
      · cases h
    · cases h
  | field t x f =>
    simp only at h ⊢
    split at h
    · rename_i off ft hf
      have hx := hev x
      split at h
      · rename_i ag size cs ha hsz he
        rw [he] at hx
        split at h
        · rename_i hle
          have key : ∃ r, (if off + size ≤ cs.length then (if ag then some (mkAgg ((cs.drop off).take size)) else cs[off]?) else none) = some r ∧ (r, H) = (v, H') := by
            rw [if_pos hle]
            cases ag with
            | true => simp at h ⊢; exact h
            | false =>
              simp at h ⊢
              split at h
              · rename_i q hq; simp at h; exact ⟨q, hq, h⟩
              · cases h
          obtain ⟨r, k1, k2⟩ := key
          simp only [Prod.mk.injEq] at k2
          obtain ⟨rfl, rfl⟩ := k2
          exact .ofRun hH (Nat.le_refl _) (field_sound hx hf ha hsz k1)
        · cases h
      · rename_i ag size cs ha hsz he
        rw [he] at hx
        split at h
        · rename_i hle
          have key : ∃ r, (if off + size ≤ cs.length then (if ag then some (GV.pure (.agg ((cs.drop off).take size))) else (match cs[off]? with | some p => some (.pure p) | none => none)) else none) = some r ∧ (r, H) = (v, H') := by
            rw [if_pos hle]
            cases ag with
            | true => simp at h ⊢; exact h
            | false =>
              simp at h ⊢
              split at h
              · rename_i q hq; simp at h; simp [hq]; exact h
              · cases h
          obtain ⟨r, k1, k2⟩ := key
          simp only [Prod.mk.injEq] at k2
          obtain ⟨rfl, rfl⟩ := k2
          exact .ofRun hH (Nat.le_refl _) (field_sound hx hf ha hsz k1)
        · cases h
      · cases h
    · cases h
  | indexAddr t x i =>
    simp only at h ⊢
    split at h
    · rename_i r hr
      simp only [Option.some.injEq, Prod.mk.injEq] at h
      obtain ⟨rfl, rfl⟩ := h
      exact .ofRun hH (Nat.le_refl _) (indexAddr_sound K (hev x) (hev i) hr)
    · cases h
  | index t x i =>
    simp only at h ⊢
    split at h
    · rename_i r hr
      simp only [Option.some.injEq, Prod.mk.injEq] at h
      obtain ⟨rfl, rfl⟩ := h
      exact .ofRun hH (Nat.le_refl _) (index_sound K (hev x) (hev i) hr)
    · cases h
  | lookup t x k ok =>
    simp only at h ⊢
    split at h
    · rename_i r hr
      simp only [Option.some.injEq, Prod.mk.injEq] at h
      obtain ⟨rfl, rfl⟩ := h
      exact .ofRun hH (Nat.le_refl _) (lookup_sound K hK hH (hev x) (hev k) hr)
    · cases h
  | mapUpdate t m k x =>
    simp only at h ⊢
    split at h
    · rename_i H1 hr
      simp only [Option.some.injEq, Prod.mk.injEq] at h
      obtain ⟨rfl, rfl⟩ := h
      exact mapUpdate_sound K hK hH (hev m) (hev k) (hev x) hr
    · cases h
  | insert t m k x =>
    simp only at h ⊢
    split at h
    · rename_i H1 hr
      simp only [Option.some.injEq, Prod.mk.injEq] at h
      obtain ⟨rfl, rfl⟩ := h
      exact mapUpdate_sound K hK hH (hev m) (hev k) (hev x) hr
    · cases h
  | extract t ix =>
    simp only at h ⊢
    have hx := hev t
    split at h
    · rename_i l he
      rw [he] at hx
      obtain ⟨vs, e1, e2, e3⟩ := tuple_inv hx
      split at h
      · rename_i q hq
        simp only [Option.some.injEq, Prod.mk.injEq] at h
        obtain ⟨rfl, rfl⟩ := h
        have hlt : ix < l.length := by rcases Nat.lt_or_ge ix l.length with h | h; exact h; rw [List.getElem?_eq_none h] at hq; cases hq
        have := e3 ix hlt
        rw [List.getD_eq_getElem?_getD, hq] at this
        have hv : vs[ix]? = some (vs.getD ix undef) := by simp [Array.getD_eq_getD_getElem?, show ix < vs.size by omega]
        rw [e1]
        exact .of hH this (by simp only [Instr.extract, hv]; rfl)
      · cases h
    · rename_i l he
      rw [he] at hx
      obtain ⟨vs, e1, e2, e3⟩ := tuple_pure_inv hx
      split at h
      · rename_i q hq
        simp only [Option.some.injEq, Prod.mk.injEq] at h
        obtain ⟨rfl, rfl⟩ := h
        have hlt : ix < l.length := by rcases Nat.lt_or_ge ix l.length with h | h; exact h; rw [List.getElem?_eq_none h] at hq; cases hq
        have := e3 ix hlt
        rw [List.getD_eq_getElem?_getD, hq] at this
        have hv : vs[ix]? = some (vs.getD ix undef) := by simp [Array.getD_eq_getD_getElem?, show ix < vs.size by omega]
        rw [e1]
        exact .of hH (.pure _ _ this) (by simp only [Instr.extract, hv]; rfl)
      · cases h
    · cases h
  | call c =>
    obtain ⟨callee, args, argTypes⟩ := c
    have hargs : ∀ (j : Nat) (x : Operand), args[j]? = some x → (args.map a.eval)[j]? = some (a.eval x) := fun j x h => by simp [h]
    cases callee with
    | value f => cases h
    | invoke r n => cases h
    | builtin b =>
      cases b with
      | len =>
        simp only at h ⊢
        split at h
        · rename_i t x ht hx
          split at h
          · rename_i n hn
            simp only [Option.some.injEq, Prod.mk.injEq] at h
            obtain ⟨rfl, rfl⟩ := h
            have := len_sound K hH (ty := type) (hev x) ht (hargs 0 x hx) hn
            refine .of hH (.pure _ _ (.int .i64 n)) ?_
            simp [resolve, invoke, builtin, this]
          · cases h
        · cases h
      | append =>
        simp only at h ⊢
        split at h
        · rename_i t x y d ht hx hy
          split at h
          · rename_i hsp
            have h1 := hargs 0 x hx
            have h2 := hargs 1 y hy
            have e : Builtin.append_ argTypes type (args.map a.eval) = Builtin.append_ argTypes type #[a.eval x, a.eval y] := by
              unfold Builtin.append_
              rw [h1, h2]; rfl
            split at h
            · split at h
              · rename_i l hl
                have := gappend_sound (ℓ := ℓ) K (ty := type) hH (hev x) (hev y) rfl ht hsp h
                simpa [resolve, invoke, builtin, e] using this
              · cases h
            · split at h
              · rename_i bn hbn
                obtain ⟨tb, off, _, hlk⟩ := upBox_some hbn
                have hvb := hs tb
                rw [hlk] at hvb
                have := gappendR_sound (ℓ := ℓ) K (ty := type) hH hvb (hev x) (hev y) rfl ht hsp h
                simpa [resolve, invoke, builtin, e] using this
              · cases h
          · cases h
        · cases h
      | clear =>
        simp only at h ⊢
        split at h
        · rename_i t x ht hx
          split at h
          · rename_i H1 hn
            simp only [Option.some.injEq, Prod.mk.injEq] at h
            obtain ⟨rfl, rfl⟩ := h
            obtain ⟨w', r1, r2, r3, r4⟩ := gclear_sound (ℓ := ℓ) K (ty := type) hH (hev x) ht (hargs 0 x hx) hn
            exact ⟨.value (.tuple #[]), _, w', S, μ, by simp [resolve, invoke, builtin, r1], .inl rfl, .pure _ _ (.tuple #[] [] rfl (fun j hj => by simp at hj)), r2, r3, r4⟩
          · cases h
        · cases h
      | min =>
        simp only at h ⊢
        split at h
        · rename_i r hr
          simp only [Option.some.injEq, Prod.mk.injEq] at h
          obtain ⟨rfl, rfl⟩ := h
          obtain ⟨e1, e2⟩ := evs_rel hH.glb hs args
          obtain ⟨v0, rest, kd, n, f1, f2, f3⟩ := minmax_sound (P := K.P) (w := w) (mx := false) (args.toList.map (ev s)) (args.map a.eval).toList _ (by simp) (fun j hj => by rw [← agetD]; exact e2 j hj) hr
          subst f2
          refine .of hH (.pure _ _ (.int kd n)) ?_
          have : (Builtin.min_ argTypes type (args.map a.eval)).run K.P w = .ok (.int kd n) w := by simp only [Builtin.min_, f1]; simpa using f3
          simp [resolve, invoke, builtin, this]
        · cases h
      | max =>
        simp only at h ⊢
        split at h
        · rename_i r hr
          simp only [Option.some.injEq, Prod.mk.injEq] at h
          obtain ⟨rfl, rfl⟩ := h
          obtain ⟨e1, e2⟩ := evs_rel hH.glb hs args
          obtain ⟨v0, rest, kd, n, f1, f2, f3⟩ := minmax_sound (P := K.P) (w := w) (mx := true) (args.toList.map (ev s)) (args.map a.eval).toList _ (by simp) (fun j hj => by rw [← agetD]; exact e2 j hj) hr
          subst f2
          refine .of hH (.pure _ _ (.int kd n)) ?_
          have : (Builtin.max_ argTypes type (args.map a.eval)).run K.P w = .ok (.int kd n) w := by simp only [Builtin.max_, f1]; simpa using f3
          simp [resolve, invoke, builtin, this]
        · cases h
      | unsafeSliceData =>
        simp only at h ⊢
        split at h
        · rename_i x hx
          split at h
          · rename_i nm es top len he
            split at h
            · rename_i h0
              simp only [Option.some.injEq, Prod.mk.injEq] at h
              obtain ⟨rfl, rfl⟩ := h
              have hv := hev x
              rw [he] at hv
              obtain ⟨b, r1, r2⟩ := sliceData_run (P := K.P) (ts := argTypes) (ty := type) hv h0
              have ea : args.map a.eval = #[a.eval x] := by
                have : args = #[x] := by rw [← Array.toList_inj]; simpa using hx
                rw [this]; simp
              refine .of hH r2 ?_
              simp [resolve, invoke, builtin, ea, r1]
            · cases h
          · cases h
        · cases h
      | unsafeString =>
        simp only at h ⊢
        split at h
        · rename_i x y pt it hx ht
          have ea : args.map a.eval = #[a.eval x, a.eval y] := by
            have : args = #[x, y] := by rw [← Array.toList_inj]; simpa using hx
            rw [this]; simp
          have et : argTypes = #[pt, it] := by rw [← Array.toList_inj]; simpa using ht
          have := gunsafeStr_sound (ℓ := ℓ) K (ty := type) (it := it) hH (hev x) (hev y) h
          simpa [resolve, invoke, builtin, ea, et] using this
        · cases h
      | _ => cases h
  | _ => cases h

end
end Go.Gh

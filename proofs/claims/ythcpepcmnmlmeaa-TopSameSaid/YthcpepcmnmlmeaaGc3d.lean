/- Texts joined: the evaluator over ghost values, its soundness, the walks. Spaces struck and names made short by a program, for the size. -/
import Derived.Test.YthcpepcmnmlmeaaGc3c
namespace Go.Gh
set_option linter.unusedVariables false
set_option linter.unusedSimpArgs false
set_option linter.unnecessarySimpa false
set_option maxRecDepth 100000
set_option maxHeartbeats 8000000
section
section
variable {w w' : World} {S S' : Nat → Prop} {μ μ' : Mu} {H : Heap} {P : Program} {ℓ base : Nat} {r : Option Nat}
theorem HRel.push (hH : HRel w S μ H) : HRel w S μ ([] :: H) :=
 ⟨fun nm x hx t b hb => hH.blk nm x (by rw [← Heap.get_push]; exact hx) t b hb, fun nm t b hb => by obtain ⟨x, hx⟩ := hH.bnd nm t b hb; exact ⟨x, by rw [Heap.get_push]; exact hx⟩, hH.disj, hH.lt, hH.slt, hH.glb⟩
theorem look_slotsOf : ∀ (l : List GV) (i t : Nat), look (slotsOf i l) t = if i ≤ t then l.getD (t - i) gdead else gdead
 | [], i, t => by simp [slotsOf, look]
 | v :: l, i, t => by
  simp only [slotsOf, look_cons, look_slotsOf l (i + 1) t]
  by_cases h : t = i
  ·subst h; simp
  ·rw [if_neg h]
   by_cases h2 : i + 1 ≤ t
   ·rw [if_pos h2, if_pos (by omega)]
    have : t - i = (t - (i + 1)) + 1 := by omega
    rw [this]; simp
   ·rw [if_neg h2, if_neg (by omega)]
theorem gload_ptr {k : Nat} {t : TypeId} {v : Value} {g x : GV} (hv : VRel w S μ k v g) (h : gload P t H g = some x) : ∃ a, v = .pointer (some a) := by
 cases hv with
 | bptr nm off b h1 h2 => exact ⟨_, rfl⟩
 | eptr nm es top i off b h1 h2 => exact ⟨_, rfl⟩
 | pptr b o cs f hS hf h1 hr => exact ⟨_, rfl⟩
 | lptr b o cs f hS hf h1 hr => exact ⟨_, rfl⟩
 | rptr nm es i j off b h1 h2 => exact ⟨_, rfl⟩
 | _ => unfold gload at h; split at h <;> cases h
theorem mapM_rel {α : Type} {k : Nat} (f : α → Sem Value) (g : α → Option GV) : ∀ (l : List α) (rs : List GV), (∀ a b, g a = some b → ∃ u, (f a).run P w = .ok u w ∧ VRel w S μ k u b) →
  l.mapM g = some rs → ∃ us : List Value, (l.mapM f).run P w = .ok us w ∧ us.length = rs.length ∧ ∀ j, j < rs.length → VRel w S μ k (us.getD j undef) (rs.getD j gdead)
 | [], rs, _, h => by simp at h; subst h; exact ⟨[], by simp, rfl, fun j hj => by simp at hj⟩
 | a :: l, rs, hf, h => by
  rw [List.mapM_cons] at h
  cases hg : g a with
  | none => simp [hg] at h
  | some b =>
   cases hl : l.mapM g with
   | none => simp [hg, hl] at h
   | some rs' =>
    simp [hg, hl] at h; subst h
    obtain ⟨u, u1, u2⟩ := hf a b hg
    obtain ⟨us, q1, q2, q3⟩ := mapM_rel f g l rs' hf hl
    refine ⟨u :: us, by rw [List.mapM_cons]; simp [u1, q1], by simp [q2], fun j hj => ?_⟩
    cases j with
    | zero => simpa using u2
    | succ j => simpa using q3 j (by simpa using hj)
def packG (rs : List GV) : GV := match rs with | [r] => r | rs => mkTuple rs
theorem results_run (K : Ctx) {fn : Func} {st : GSt} {rs : List GV} {tmps : Array Value} {k : Nat} (hH : HRel w S μ st.h) (hs : ∀ t, VRel w S μ k (tmps.getD t undef) (look st.s t)) (h : gresults K fn st = some rs) :
  ∃ u, (results fn tmps).run K.P w = .ok u w ∧ VRel w S μ k u (packG rs) := by
 unfold gresults at h
 obtain ⟨us, q1, q2, q3⟩ := mapM_rel (P := K.P) (w := w) (S := S) (μ := μ) (k := k) (fun x : ResultVar => match x with
  | .tmp t => (pure (tmps.getD t undef) : Sem Value)
  | .cell a t => do loadVar t (← asAddr (tmps.getD a undef))) _ fn.results.toList rs (fun x b hx => by
   cases x with
   | tmp t => simp only [Option.some.injEq] at hx; subst hx; exact ⟨_, rfl, hs t⟩
   | cell a t =>
    simp only at hx
    obtain ⟨ad, had⟩ := gload_ptr (hs a) hx
    obtain ⟨u, u1, u2⟩ := gload_sound hH (hs a) hx
    refine ⟨u, ?_, u2⟩
    show (do loadVar t (← asAddr (tmps.getD a undef)) : Sem Value).run K.P w = _
    rw [had] at u1 ⊢
    simpa [Instr.loadAt, Instr.sureAddr, asAddr] using u1) h
 have hr : (results fn tmps).run K.P w = .ok (if h : us.toArray.size = 1 then us.toArray[0] else .tuple us.toArray) w := by
  unfold results
  simp only [Array.mapM_eq_mapM_toList]
  have e : (List.mapM (fun x : ResultVar => match x with
   | .tmp t => (pure (tmps.getD t undef) : Sem Value)
   | .cell a t => do loadVar t (← asAddr (tmps.getD a undef))) fn.results.toList).run K.P w = .ok us w := q1
  simp only [Sem.run_bind, Sem.run_pure, Array.getD_eq_getD_getElem?, map_eq_pure_bind, Result.andThen_ok] at e ⊢
  generalize hM : Sem.run K.P (List.mapM _ fn.results.toList) w = M
  have hM' : M = .ok us w := hM.symm.trans e
  subst hM'
  rfl
 refine ⟨_, hr, ?_⟩
 match us, rs, q2, q3 with
 | [], [], _, q3 => exact mkTuple_rel (vs := #[]) (gs := []) rfl fun j hj => absurd hj (by simp)
 | [u], [x], _, q3 => simpa [packG] using q3 0 (by simp)
 | u1 :: u2 :: us, x1 :: x2 :: rs, q2, q3 =>
  have : (if h : (u1 :: u2 :: us).toArray.size = 1 then (u1 :: u2 :: us).toArray[0] else Value.tuple (u1 :: u2 :: us).toArray) = Value.tuple (u1 :: u2 :: us).toArray := dif_neg (by simp)
  rw [this]
  exact mkTuple_rel (by simpa using q2) fun j hj => by rw [agetD]; exact q3 j hj
theorem vrel_poke {k q : Nat} {x : Option (List Deferred)} {o : Obj} (hq : w.heap[q]? = some (.deferred x)) (hS : ¬ S q) {v : Value} {g : GV} (hv : VRel w S μ k v g) : VRel (w.putObj q o) S μ k v g :=
 hv.mono (fun _ h => h) (fun b hb => World.putObj_heap_other (fun e : b = q => hS (e ▸ hb))) (poke_shp hq) (fun _ _ _ _ h => h) (Nat.le_refl _)
theorem marks_ok {n k : Nat} {F : Fence} {fn : Func} {tmps : Array Value} {s : Slots} {R : Ending → World → Prop} {w0 : World} {S0 : Nat → Prop} {μ0 : Mu} :
  ∀ (ds : List Deferred) (w : World), DefOk base w S μ ds → HRel w S μ H → Ev ℓ w0 S0 μ0 w S μ → w0.heap.size ≤ base → (∀ t, VRel w S μ k (tmps.getD t undef) (look s t)) →
  (∀ w2, HRel w2 S μ H → Ev ℓ w0 S0 μ0 w2 S μ → (∀ t, VRel w2 S μ k (tmps.getD t undef) (look s t)) → ∃ v, (results fn tmps).run P w2 = .ok v w2 ∧ R (.returned v) w2) →
  LeavesInM F n P fn tmps R ds .returning w
 | [], w, _, hH, he, _, hs, fin => fin w hH he hs
 | d :: ds, w, hd, hH, he, hb, hs, fin => by
  obtain ⟨q, h1, h2, h3, h4, h5⟩ := hd.each d (List.mem_cons_self ..)
  refine ⟨by simp, .inl ⟨q, w.putObj q (.deferred none), h1, run_takeDeferred h3, ?_⟩⟩
  refine marks_ok ds (w.putObj q (.deferred none)) ⟨fun d' hd' => ?_, (List.pairwise_cons.1 hd.apart).2⟩ (hH.poke h3 h4 h5) (he.poke h3 (Nat.le_trans hb h2)) hb (fun t => vrel_poke h3 h4 (hs t)) fin
  obtain ⟨q', g1, g2, g3, g4, g5⟩ := hd.each d' (List.mem_cons_of_mem _ hd')
  refine ⟨q', g1, g2, ?_, g4, g5⟩
  rw [World.putObj_heap_other]; exact g3
  intro e; subst e
  exact (List.pairwise_cons.1 hd.apart).1 d' hd' (h1.trans g1.symm)
theorem args_getD (vs : Array Value) (n t : Nat) : (vs ++ Array.replicate n undef).getD t undef = vs.getD t undef := by
 simp only [Array.getD_eq_getD_getElem?, Array.getElem?_append]
 split
 ·rfl
 ·rename_i h
  have h1 : vs[t]? = none := Array.getElem?_eq_none (by omega)
  rw [h1, Array.getElem?_replicate]
  split <;> rfl
theorem call_ok0 (K : Ctx) {rec : Rec} (hrec : RecOk K.P rec) {f : FuncId} {args : List GV} {c : Nat} {H' : Heap} {v : GV} (h : gcall0 K rec f args c H = some (v, H')) {vs : Array Value} (hH : HRel w S μ H)
  (hvs : vs.size = args.length) (hrel : ∀ j, j < args.length → VRel w S μ (H.length - 1) (vs.getD j undef) (args.getD j gdead)) :
  (callFunc f vs).run K.P w = .ok (.enter f vs) w ∧ CallsIn (Fw none) 0 K.P f vs w (Done (H.length - 1) H.length w S μ v H') := by
 unfold gcall0 at h
 split at h
 ·cases h
 ·rename_i fn hf
  split at h
  ·cases h
  ·rename_i code hb
   split at h
   ·cases h
   ·rename_i hc
    simp only [Bool.or_eq_true, decide_eq_true_eq, not_or, Bool.not_eq_true, Nat.not_lt] at hc
    obtain ⟨⟨hname, hnt⟩, hlen⟩ := hc
    refine ⟨by simp only [callFunc, Sem.run_bind, run_program, Result.andThen, hf, hname, hb]; rfl, ?_⟩
    have hst : StOk w.heap.size none w S μ ⟨slotsOf 0 (args.map canon), [] :: H, fn.ntmps⟩ { tmps := vs ++ Array.replicate (fn.ntmps - vs.size) undef, defers := [] } := by
     refine ⟨hH.push, fun t => ?_, ?_, by simp, Nat.le_refl _, ⟨fun d hd => by simp at hd, .nil⟩, fun l hl => by cases hl⟩
     ·simp only [args_getD, look_slotsOf, Nat.zero_le, if_true, Nat.sub_zero, List.length_cons, Nat.add_sub_cancel]
      by_cases ht : t < args.length
      ·have := canon_rel ((hrel t ht).up (show H.length - 1 ≤ H.length by omega))
       have e : (args.map canon).getD t gdead = canon (args.getD t gdead) := by simp [List.getD_eq_getElem?_getD, ht]
       rw [e]; exact this
      ·have e : (args.map canon).getD t gdead = gdead := by
        rw [List.getD_eq_getElem?_getD, List.getElem?_eq_none (by simpa using ht)]; rfl
       rw [e]; exact vdead _
     ·simp; omega
    have done : ∀ e st, rec f code ⟨slotsOf 0 (args.map canon), [] :: H, fn.ntmps⟩ = some (e, st) → (e = .normal ∨ e = .ret) →
      (match gresults K fn st with
       | some rs => (match rs with
        | [r] => gleave K f c r st.h
        | rs => gleave K f c (mkTuple rs) st.h)
       | none => none) = some (v, H') → CallsIn (Fw none) 0 K.P f vs w (Done (H.length - 1) H.length w S μ v H') := by
     intro e st hr he hres
     have hwp := hrec f code _ e st hr _ _ w S μ _ hst
     refine callsIn_of_wp_marks hf hb trivial (wpIn_mono hwp fun e' a' w' hq => ?_)
     obtain ⟨q1, q2, q3, S', μ', q4, q5⟩ := hq
     simp only [List.length_cons, Nat.add_sub_cancel] at q2 q5
     have main : LeavesInM (Fw none) 0 K.P fn a'.tmps (Done (H.length - 1) H.length w S μ v H') a'.defers .returning w' := by
      refine marks_ok (s := st.s) (k := st.h.length - 1) a'.defers w' q4.defs q4.heap q5 (Nat.le_refl _) q4.slots fun w2 h2 e2 s2 => ?_
      split at hres
      ·rename_i rs hrs
       obtain ⟨u, u1, u2⟩ := results_run K h2 s2 hrs
       have hl : gleave K f c (packG rs) st.h = some (v, H') := by
        unfold packG
        split at hres <;> exact hres
       obtain ⟨S3, μ3, l1, l2, l3, l4⟩ := leave_ok K h2 u2 (by omega) hl
       refine ⟨u, u1, u, S3, μ3, rfl, l1, l2, ?_, by omega⟩
       have : st.h.length - 2 = H.length - 1 := by omega
       rw [this] at l3
       exact (e2.level (by omega)).trans l3
      ·cases hres
     rcases he with rfl | rfl
     ·simp only [exitOf] at q1; subst q1; exact main
     ·simp only [exitOf] at q1; subst q1; exact main
    split at h
    ·cases h
    ·rename_i e st hne hr
     refine done e st hr ?_ h
     cases e with
     | normal => exact .inl rfl
     | ret => exact .inr rfl
     | exit id => exact absurd rfl (hne id)
    ·cases h
theorem frzCell_rel (ℓ : Nat) (hH : HRel w S μ H) {k : Nat} {v : Value} {g : GV} (hv : VRel w S μ k v g) :
  ∃ S', HRel w S' μ (frzCell H g).2 ∧ Ev ℓ w S μ w S' μ ∧ VRel w S' μ k v (frzCell H g).1 ∧ SameBox H (frzCell H g).2 := by
 cases g with
 | hdr nm es top lo len =>
  obtain ⟨S', a1, a2, a3, a4⟩ := pureCell_rel ℓ hH hv
  exact ⟨S', a1, a2, .pure _ _ a3, a4⟩
 | _ => exact ⟨S, hH, .refl _ _ _ _, hv, .refl H⟩
theorem frzCells_rel (ℓ : Nat) : ∀ {gs : List GV} {vs : List Value} {S : Nat → Prop} {H : Heap} {k : Nat}, HRel w S μ H → CRel w S μ k vs gs →
  ∃ S', HRel w S' μ (frzCells H gs).2 ∧ Ev ℓ w S μ w S' μ ∧ CRel w S' μ k vs (frzCells H gs).1 ∧ SameBox H (frzCells H gs).2
 | [], vs, S, H, k, hH, hc => by cases hc; exact ⟨S, hH, .refl _ _ _ _, .nil, .refl H⟩
 | g :: gs, vs, S, H, k, hH, hc => by
  cases hc with
  | cons h1 h2 h3 =>
  obtain ⟨S1, a1, a2, a3, a4⟩ := frzCell_rel ℓ hH h2
  have h3' : CRel w S1 μ k _ gs := h3.mono a2.sub (fun _ _ => rfl) (fun _ _ h => h) (fun _ _ _ _ h => h) (Nat.le_refl _)
  obtain ⟨S2, b1, b2, b3, b4⟩ := frzCells_rel ℓ a1 h3'
  exact ⟨S2, b1, a2.trans b2, .cons h1 (a3.mono b2.sub (fun _ _ => rfl) (fun _ _ h => h) (fun _ _ _ _ h => h) (Nat.le_refl _)) b3, a4.trans b4⟩
theorem frzVal_rel (ℓ : Nat) (hH : HRel w S μ H) {k : Nat} {v : Value} {g : GV} (hv : VRel w S μ k v g) :
  ∃ S', HRel w S' μ (frzVal H g).2 ∧ Ev ℓ w S μ w S' μ ∧ VRel w S' μ k v (frzVal H g).1 ∧ SameBox H (frzVal H g).2 := by
 cases g with
 | agg l =>
  obtain ⟨vs, rfl, hc⟩ := hv.cells
  obtain ⟨S', a1, a2, a3, a4⟩ := frzCells_rel ℓ hH hc
  exact ⟨S', a1, a2, mkAgg_rel' a3, a4⟩
 | _ => exact frzCell_rel ℓ hH hv
theorem frzVals_rel (ℓ : Nat) : ∀ {gs : List GV} {f : Nat → Value} {S : Nat → Prop} {H : Heap} {k : Nat}, HRel w S μ H → (∀ j, j < gs.length → VRel w S μ k (f j) (gs.getD j gdead)) →
  ∃ S', HRel w S' μ (frzVals H gs).2 ∧ Ev ℓ w S μ w S' μ ∧ (∀ j, j < gs.length → VRel w S' μ k (f j) ((frzVals H gs).1.getD j gdead)) ∧ SameBox H (frzVals H gs).2 ∧ (frzVals H gs).1.length = gs.length
 | [], f, S, H, k, hH, hv => ⟨S, hH, .refl _ _ _ _, fun j hj => by simp at hj, .refl H, rfl⟩
 | g :: gs, f, S, H, k, hH, hv => by
  obtain ⟨S1, a1, a2, a3, a4⟩ := frzVal_rel ℓ hH (show VRel w S μ k (f 0) g from hv 0 (by simp))
  have hmono : ∀ {S1 S2 : Nat → Prop} {v : Value} {g : GV}, (∀ b, S1 b → S2 b) → VRel w S1 μ k v g → VRel w S2 μ k v g := fun hs h => h.mono hs (fun _ _ => rfl) (fun _ _ h => h) (fun _ _ _ _ h => h) (Nat.le_refl _)
  obtain ⟨S2, b1, b2, b3, b4, b5⟩ := frzVals_rel ℓ (gs := gs) (f := fun j => f (j + 1)) a1 (fun j hj => hmono a2.sub (by simpa using hv (j + 1) (by simpa using hj)))
  refine ⟨S2, b1, a2.trans b2, fun j hj => ?_, a4.trans b4, congrArg (· + 1) b5⟩
  cases j with
  | zero => exact hmono b2.sub (by simpa [frzVals] using a3)
  | succ j => simpa [frzVals] using b3 j (by simpa using hj)
theorem flatPL_get : ∀ {l : List PV}, flatPL l = true → ∀ j, flatP (l.getD j .dead) = true
 | [], _, j => by simp [flatP]
 | g :: r, h, j => by
  simp only [flatPL, Bool.and_eq_true] at h
  cases j with
  | zero => simpa using h.1
  | succ j => simpa using flatPL_get h.2 j
theorem PRep.flat {v : Value} {p : PV} (h : PRep w S v p) (hf : flatP p = true) : PRep w' S' v p := by
 induction h with
 | int k n => exact .int k n
 | bool b => exact .bool b
 | str s => exact .str s
 | slice0 a cap => exact .slice0 a cap
 | slice b o cap es l f hb he hes hf' h1 _ hc ih =>
  cases l with
  | nil => exact .slice0 _ _
  | cons x r => simp [flatP] at hf
 | agg vs l h h1 _ ih => exact .agg vs l h h1 fun j hj => ih j hj (flatPL_get (by simpa only [flatP] using hf) j)
 | tuple vs l h _ ih => exact .tuple vs l h fun j hj => ih j hj (flatPL_get (by simpa only [flatP] using hf) j)
 | fn f => exact .fn f
 | nilp => exact .nilp
 | nilf => exact .nilf
 | nilm => exact .nilm
 | nili => exact .nili
 | iface t v p _ ih => exact .iface t v p (ih (by simpa only [flatP] using hf))
 | fmap f b clock ms l h1 h2 h3 h4 => simp [flatP] at hf
 | dead v => exact .dead v
theorem VRel.flat {k k' : Nat} {v : Value} {g : GV} (h : VRel w S μ k v g) (hf : flatG g = true) : VRel w' S' μ' k' v g := by
 cases g with
 | pure p => exact .pure _ _ (h.pv.flat (by simpa only [flatG] using hf))
 | nils => cases h with | nils a => exact .nils a
 | _ => simp [flatG] at hf
theorem CRel.flat {k k' : Nat} {vs : List Value} {gs : List GV} (h : CRel w S μ k vs gs) (hf : flatGL gs = true) : CRel w' S' μ' k' vs gs := by
 induction h with
 | nil => exact .nil
 | cons h1 h _ ih =>
  simp only [flatGL, Bool.and_eq_true] at hf
  exact .cons h1 (h.flat hf.1) (ih hf.2)
def okArg (q : Option Nm) : GV → Prop
 | .pure _ | .nils => True
 | .func _ a c => (allPure a).isSome = true ∧ (allPure c).isSome = true
 | .bptr nm _ => q = some nm
 | _ => False
theorem okArg.none {q : Option Nm} {g : GV} (h : okArg none g) : okArg q g := by
 cases g with
 | bptr nm off => cases h
 | _ => exact h
theorem borBox_ok : ∀ {l : List GV} {q : Option Nm}, borBox l = some q → ∀ g ∈ l, okArg q g
 | [], q, _, g, hg => by simp at hg
 | x :: r, q, h, g, hg => by
  simp only [borBox] at h
  split at h
  ·cases h
  ·rename_i q' hr
   have ih := borBox_ok hr
   split at h
   ·cases h
    rcases List.mem_cons.1 hg with rfl | hg
    ·trivial
    ·exact ih g hg
   ·cases h
    rcases List.mem_cons.1 hg with rfl | hg
    ·trivial
    ·exact ih g hg
   ·split at h
    ·rename_i hc
     cases h
     rcases List.mem_cons.1 hg with rfl | hg
     ·simpa only [okArg, Bool.and_eq_true] using hc
     ·exact ih g hg
    ·cases h
   ·rename_i nm off
    split at h
    ·cases h
     rcases List.mem_cons.1 hg with rfl | hg
     ·rfl
     ·exact (ih g hg).none
    ·rename_i nm'
     split at h
     ·rename_i e
      cases h
      rcases List.mem_cons.1 hg with rfl | hg
      ·simp [okArg, e]
      ·exact ih g hg
     ·cases h
   ·cases h
theorem allPure_get : ∀ {l : List GV}, (allPure l).isSome = true → ∀ j, ∃ p, l.getD j gdead = .pure p
 | [], _, j => ⟨.dead, by simp [gdead]⟩
 | g :: r, h, j => by
  cases g with
  | pure p =>
   have h2 : (allPure r).isSome = true := by
    simp only [allPure] at h
    split at h
    ·rename_i ps hps; rw [hps]; rfl
    ·cases h
   cases j with
   | zero => exact ⟨p, by simp⟩
   | succ j => simpa using allPure_get h2 j
  | _ => simp [allPure] at h
theorem okArg_rel {q : Option Nm} {k : Nat} {v : Value} {g : GV} (h : VRel w S μ k v g) (ho : okArg q g) (hS : ∀ b, S b → S' b) (hm : ∀ nm b, q = some nm → μ nm 0 = some b → μ' nm 0 = some b) : VRel w S' μ' k v g := by
 have hp : ∀ {v p}, PRep w S v p → PRep w S' v p := fun h => h.mono hS (fun _ _ => rfl)
 have hl : ∀ {l : List GV} {f : Nat → Value}, (allPure l).isSome = true → (∀ j, j < l.length → VRel w S μ k (f j) (l.getD j gdead)) → ∀ j, j < l.length → VRel w S' μ' k (f j) (l.getD j gdead) := fun {l f} h hv j hj => by
  obtain ⟨p, e⟩ := allPure_get h j
  have := hv j hj
  rw [e] at this ⊢
  exact .pure _ _ (hp this.pv)
 cases h with
 | pure v p h => exact .pure _ _ (hp h)
 | nils a => exact .nils a
 | func f a c la lc h1 h2 h3 h4 => exact .func f a c la lc h1 h2 (hl ho.1 h3) (hl ho.2 h4)
 | bptr nm off b h1 h2 => exact .bptr nm off b h1 (hm nm b ho h2)
 | _ => exact ho.elim
theorem emptyH_length (H : Heap) : (emptyH H).length = H.length := by simp [emptyH]
theorem flatRows_get : ∀ {l : List (List PV)}, flatRows l = true → ∀ i j, flatP ((l.getD i []).getD j .dead) = true
 | [], _, i, j => by simp [flatP]
 | g :: r, h, i, j => by
  simp only [flatRows, Bool.and_eq_true] at h
  cases i with
  | zero => simpa using flatPL_get h.1 j
  | succ i => simpa using flatRows_get h.2 i j
theorem lentIns_spec {H0 : Heap} {L : Nat} : ∀ (ks : List Nat) (H H' : Heap), ks.Nodup → L < H.length → lentIns H0 L ks H = some H' →
  H'.length = H.length ∧ (∀ k ∈ ks, ∃ es rows vf, H0.get (L, k) = some (.arr es rows vf false) ∧ flatRows rows = true ∧ H'.get (L, k) = some (.arr es rows vf false) ∧ H.get (L, k) = none) ∧
   ∀ nm : Nm, (∀ k ∈ ks, nm ≠ (L, k)) → H'.get nm = H.get nm
 | [], H, H', _, _, h => by
  simp only [lentIns, Option.some.injEq] at h; subst h
  exact ⟨rfl, fun k hk => by simp at hk, fun _ _ => rfl⟩
 | k :: ks, H, H', hn, hl, h => by
  obtain ⟨n1, n2⟩ := List.nodup_cons.1 hn
  simp only [lentIns] at h
  split at h
  ·rename_i es rows vf h1 h2
   split at h
   ·rename_i hf
    obtain ⟨q1, q2, q3⟩ := lentIns_spec ks _ H' n2 (by rw [Heap.length_set]; exact hl) h
    have hne : ∀ k' ∈ ks, ((L, k) : Nm) ≠ (L, k') := fun k' hk' e => by
     have := (Prod.mk.inj e).2
     subst this; exact n1 hk'
    refine ⟨q1.trans (Heap.length_set _ _ _), fun k' hk' => ?_, fun nm hnm => ?_⟩
    ·rcases List.mem_cons.1 hk' with rfl | hk'
     ·refine ⟨es, rows, vf, h1, hf, ?_, h2⟩
      rw [q3 _ hne]
      exact Heap.get_set _ hl
     ·obtain ⟨es', rows', vf', x1, x2, x3, x4⟩ := q2 k' hk'
      refine ⟨es', rows', vf', x1, x2, x3, ?_⟩
      rw [Heap.get_set_other _ (Ne.symm (hne k' hk'))] at x4
      exact x4
    ·rw [q3 nm fun k' hk' => hnm k' (List.mem_cons_of_mem _ hk')]
     exact Heap.get_set_other _ (hnm k (List.mem_cons_self ..))
   ·cases h
  ·cases h
theorem lent1_rel {k L : Nat} {names : List Nat} (hm : ∀ q t b, q ∈ names → μ (L, q) t = some b → μ' (L, q) t = some b) {v : Value} {g : GV} (h : VRel w S μ k v g) (hl : lent1 L g = true) (hr : ∀ q ∈ refs1 L g, q ∈ names) : VRel w S' μ' k v g := by
 cases h with
 | pure v p h => exact .pure _ _ (h.flat (by simpa only [lent1] using hl))
 | nils a => exact .nils a
 | hdr nm es top lo len cap b n e h1 h2 h3 h4 h5 h6 =>
  have e1 : nm.1 = L := by simpa only [lent1, decide_eq_true_eq] using hl
  have e2 : nm = (L, nm.2) := Prod.ext e1 rfl
  refine .hdr nm es top lo len cap b n e h1 ?_ h3 h4 h5 h6
  rw [e2] at h2 ⊢
  exact hm _ _ _ (hr _ (by simp [refs1, e1])) h2
 | _ => simp [lent1] at hl
theorem lentL_get {L : Nat} : ∀ {l : List GV}, lentL L l = true → ∀ j, j < l.length → lent1 L (l.getD j gdead) = true
 | [], _, j, hj => by simp at hj
 | g :: r, h, j, hj => by
  simp only [lentL, Bool.and_eq_true] at h
  cases j with
  | zero => simpa using h.1
  | succ j => simpa using lentL_get h.2 j (by simpa using hj)
theorem lentLL_get {L : Nat} : ∀ {l : List GV}, lentLL L l = true → ∀ j, j < l.length → lent2 L (l.getD j gdead) = true
 | [], _, j, hj => by simp at hj
 | g :: r, h, j, hj => by
  simp only [lentLL, Bool.and_eq_true] at h
  cases j with
  | zero => simpa using h.1
  | succ j => simpa using lentLL_get h.2 j (by simpa using hj)
theorem lent2_rel {k L : Nat} {names : List Nat} (hm : ∀ q t b, q ∈ names → μ (L, q) t = some b → μ' (L, q) t = some b) {v : Value} {g : GV} (h : VRel w S μ k v g) (hl : lent2 L g = true) (hr : ∀ q ∈ refs2 L g, q ∈ names) : VRel w S' μ' k v g := by
 cases g with
 | agg l =>
  cases h with
  | agg vs _ h1 h2 h3 =>
   refine .agg vs l h1 h2 fun j hj => lent1_rel hm (h3 j hj) (lentL_get (by simpa only [lent2] using hl) j hj) fun q hq => hr q ?_
   have e2 : l.getD j gdead = l[j] := by simp [List.getD_eq_getElem?_getD, hj]
   rw [e2] at hq
   exact List.mem_flatMap.2 ⟨l[j], List.getElem_mem hj, hq⟩
 | func f a c => simp [lent2, lent1] at hl
 | _ => exact lent1_rel hm h (by simpa only [lent2] using hl) (by simpa only [refs2] using hr)
theorem lentV_rel {k L : Nat} {names : List Nat} (hm : ∀ q t b, q ∈ names → μ (L, q) t = some b → μ' (L, q) t = some b) {v : Value} {g : GV} (h : VRel w S μ k v g) (hl : lentV L g = true) (hr : ∀ q ∈ refs L g, q ∈ names) : VRel w S' μ' k v g := by
 cases g with
 | tuple l =>
  cases h with
  | tuple vs _ h1 h2 =>
   refine .tuple vs l h1 fun j hj => lent2_rel hm (h2 j hj) (lentLL_get (by simpa only [lentV] using hl) j hj) fun q hq => hr q ?_
   have e2 : l.getD j gdead = l[j] := by simp [List.getD_eq_getElem?_getD, hj]
   rw [e2] at hq
   exact List.mem_flatMap.2 ⟨l[j], List.getElem_mem hj, hq⟩
 | _ => exact lent2_rel hm h (by simpa only [lentV] using hl) (by simpa only [refs] using hr)
theorem lentEnd_ok {n0 : Nat} {H0 Hm H' : Heap} {v0 v : GV} {u : Value} (h0 : HRel w S' μ' H0) (hm : HRel w S μ Hm) (hp : 0 < Hm.length) (hS : ∀ b, S b → b < n0) (hlt : ∀ nm t b, μ nm t = some b → b < n0)
  (hnew : ∀ nm t b, Hm.get nm = none → μ' nm t = some b → n0 ≤ b) (hv : VRel w S' μ' (Hm.length - 1) u v0) (h : lentEnd H0 v0 Hm = some (v, H')) :
  ∃ μ2, VRel w S μ2 (Hm.length - 1) u v ∧ HRel w S μ2 H' ∧ (∀ nm t b, μ nm t = some b → μ2 nm t = some b) ∧ (∀ nm t b, μ2 nm t = some b → b < n0 → μ nm t = some b) ∧ H'.length = Hm.length := by
 unfold lentEnd at h
 split at h
 ·rename_i hlent
  split at h
  ·rename_i H1 hins
   simp only [Option.some.injEq, Prod.mk.injEq] at h
   obtain ⟨rfl, rfl⟩ := h
   generalize hL : Hm.length - 1 = L at *
   generalize hks : dedup (refs L v0) = ks at *
   have hnd : ks.Nodup := hks ▸ nodup_dedup _
   obtain ⟨q1, q2, q3⟩ := lentIns_spec ks Hm H1 hnd (by omega) hins
   let μ2 : Mu := fun nm t => if nm.1 = L ∧ nm.2 ∈ ks then μ' nm t else μ nm t
   have e1 : ∀ k t, k ∈ ks → μ2 (L, k) t = μ' (L, k) t := fun k t hk => if_pos ⟨rfl, hk⟩
   have e2 : ∀ nm : Nm, (∀ k ∈ ks, nm ≠ (L, k)) → ∀ t, μ2 nm t = μ nm t := fun nm hn t => if_neg fun hc => hn nm.2 hc.2 (Prod.ext hc.1 rfl)
   have cases' : ∀ nm : Nm, (∃ k ∈ ks, nm = (L, k)) ∨ ∀ k ∈ ks, nm ≠ (L, k) := fun nm => by
    by_cases hc : nm.1 = L ∧ nm.2 ∈ ks
    ·exact .inl ⟨nm.2, hc.2, Prod.ext hc.1 rfl⟩
    ·exact .inr fun k hk e => hc (by subst e; exact ⟨rfl, hk⟩)
   have old : ∀ nm t b, μ nm t = some b → ∀ k ∈ ks, nm ≠ (L, k) := fun nm t b hb k hk e => by
    subst e
    obtain ⟨x, hx⟩ := hm.bnd _ _ _ hb
    obtain ⟨_, _, _, _, _, _, x4⟩ := q2 k hk
    rw [x4] at hx; cases hx
   have fresh : ∀ k t b, k ∈ ks → μ' (L, k) t = some b → n0 ≤ b := fun k t b hk hb => by
    obtain ⟨_, _, _, _, _, _, x4⟩ := q2 k hk
    exact hnew _ _ _ x4 hb
   have up : ∀ nm t b, μ nm t = some b → μ2 nm t = some b := fun nm t b hb => by rw [e2 nm (old nm t b hb)]; exact hb
   refine ⟨μ2, ?_, ⟨fun nm x hx t b hb => ?_, fun nm t b hb => ?_, fun nm nm' t t' b h1 h2 => ?_, fun nm t b hb => ?_, hm.slt, hm.glb⟩, up, fun nm t b hb hlt => ?_, q1⟩
   ·exact lentV_rel (names := ks) (fun q t b hq hb => by rw [e1 q t hq]; exact hb) hv hlent fun q hq => by rw [← hks]; exact (mem_dedup _).2 hq
   ·rcases cases' nm with ⟨k, hk, rfl⟩ | hn
    ·obtain ⟨es, rows, vf, x1, x2, x3, x4⟩ := q2 k hk
     rw [x3] at hx; cases hx
     rw [e1 k t hk] at hb
     obtain ⟨h0', h1', h2', ⟨b0, h3'⟩, h4'⟩ := h0.blk _ _ x1 t b hb
     refine ⟨h0', h1', h2', ⟨b0, by rw [e1 k _ hk]; exact h3'⟩, fun top b hb' => ?_⟩
     rw [e1 k _ hk] at hb'
     obtain ⟨g1, g2, g3, g4⟩ := h4' top b hb'
     refine ⟨g1, g2, fun _ hs => by have := hS b hs; have := fresh k top b hk hb'; omega, fun hv => ⟨fun hr => (by cases hr), fun i j hi hj => ?_⟩⟩
     obtain ⟨u', u1, u2, u3⟩ := (g4 hv).2 i j hi hj
     exact ⟨u', u1, u2, u3.flat (flatRows_get x2 i j)⟩
    ·rw [q3 nm hn] at hx
     rw [e2 nm hn] at hb
     exact (hm.blk nm x hx t b hb).mono (fun _ h => h) (fun _ _ => rfl) (fun _ _ h => h) (fun n t b _ h => up n t b h) (fun t => e2 nm hn t) (fun _ _ _ => rfl) (fun _ _ _ h => h)
   ·rcases cases' nm with ⟨k, hk, rfl⟩ | hn
    ·obtain ⟨es, rows, vf, x1, x2, x3, x4⟩ := q2 k hk
     exact ⟨_, x3⟩
    ·rw [e2 nm hn] at hb
     obtain ⟨x, hx⟩ := hm.bnd _ _ _ hb
     exact ⟨x, by rw [q3 nm hn]; exact hx⟩
   ·rcases cases' nm with ⟨k, hk, rfl⟩ | hn
    ·rw [e1 k t hk] at h1
     rcases cases' nm' with ⟨k', hk', rfl⟩ | hn'
     ·rw [e1 k' t' hk'] at h2
      exact h0.disj _ _ _ _ _ h1 h2
     ·rw [e2 nm' hn'] at h2
      have := fresh k t b hk h1
      have := hlt _ _ _ h2
      omega
    ·rw [e2 nm hn] at h1
     rcases cases' nm' with ⟨k', hk', rfl⟩ | hn'
     ·rw [e1 k' t' hk'] at h2
      have := fresh k' t' b hk' h2
      have := hlt _ _ _ h1
      omega
     ·rw [e2 nm' hn'] at h2
      exact hm.disj _ _ _ _ _ h1 h2
   ·rcases cases' nm with ⟨k, hk, rfl⟩ | hn
    ·rw [e1 k t hk] at hb; exact h0.lt _ _ _ hb
    ·rw [e2 nm hn] at hb; exact hm.lt _ _ _ hb
   ·rcases cases' nm with ⟨k, hk, rfl⟩ | hn
    ·rw [e1 k t hk] at hb
     have := fresh k t b hk hb
     omega
    ·rw [e2 nm hn] at hb; exact hb
  ·cases h
 ·cases h
theorem borrow_ok (K : Ctx) {rec : Rec} (hrec : RecOk K.P rec) {f : FuncId} {args : List GV} {c : Nat} {Hf H' : Heap} {v : GV} (h : gborrow K rec f args c H = some (v, H')) {vs : Array Value} (hH : HRel w S μ H)
  {S1 : Nat → Prop} (hf : HRel w S1 μ Hf) (hfb : ∀ nm cs, H.get nm = some (.box cs) → Hf.get nm = some (.box cs))
  (hvs : vs.size = args.length) (hrel : ∀ j, j < args.length → VRel w S1 μ (H.length - 1) (vs.getD j undef) (args.getD j gdead)) :
  (callFunc f vs).run K.P w = .ok (.enter f vs) w ∧ CallsIn (Fw none) 0 K.P f vs w (Done (H.length - 1) H.length w S μ v H') := by
 have main : ∀ (q : Option Nm) (H0 H0' Hm : Heap) (v0 : GV), borBox args = some q → H0.length = H.length → HRel w (fun b => b < w.heap.size ∧ ∀ nm, q = some nm → μ nm 0 ≠ some b) (fun n t => if q = some n ∧ t = 0 then μ n t else none) H0 →
   (∀ nm, q = some nm → (∃ cs, H.get nm = some (.box cs)) ∧ Hm.get nm ≠ none) → gcall0 K rec f args c H0 = some (v0, H0') → lentEnd H0' v0 Hm = some (v, H') → Hm.length = H.length →
   (∀ w' S' μ', HRel w' S' μ' H0' → Ev (H.length - 1) w (fun b => b < w.heap.size ∧ ∀ nm, q = some nm → μ nm 0 ≠ some b) (fun n t => if q = some n ∧ t = 0 then μ n t else none) w' S' μ' → HRel w' S μ Hm) →
   (callFunc f vs).run K.P w = .ok (.enter f vs) w ∧ CallsIn (Fw none) 0 K.P f vs w (Done (H.length - 1) H.length w S μ v H') := by
  intro q H0 H0' Hm v0 hq hl0 hH0 hbx hg hend hml hres
  have hbox : ∀ nm b, q = some nm → μ nm 0 = some b → ¬ S b ∧ ¬ S1 b := fun nm b e hm => by
   obtain ⟨⟨cs, hcs⟩, _⟩ := hbx nm e
   constructor
   ·obtain ⟨b', _, _, h1, h2, _⟩ := hH.blk _ _ hcs _ _ hm
    rw [hm] at h1; cases h1; exact h2
   ·obtain ⟨b', _, _, h1, h2, _⟩ := hf.blk _ _ (hfb _ _ hcs) _ _ hm
    rw [hm] at h1; cases h1; exact h2
  obtain ⟨r1, r2⟩ := call_ok0 K hrec hg hH0 hvs (fun j hj => by
   have hm : args.getD j gdead ∈ args := by
    have : args.getD j gdead = args[j] := by simp [List.getD_eq_getElem?_getD, hj]
    rw [this]; exact List.getElem_mem hj
   rw [hl0]
   exact okArg_rel (hrel j hj) (borBox_ok hq _ hm) (fun b hb => ⟨hf.slt b hb, fun nm e hm => (hbox nm b e hm).2 hb⟩) (fun nm b e hm => by rw [if_pos ⟨e, rfl⟩]; exact hm))
  have hp : 0 < H.length := by
   unfold gcall0 at hg
   split at hg
   ·cases hg
   ·split at hg
    ·cases hg
    ·split at hg
     ·cases hg
     ·rename_i hc
      simp only [Bool.or_eq_true, decide_eq_true_eq, not_or] at hc
      omega
  refine ⟨r1, CallsIn.mono r2 fun e w' hd => ?_⟩
  obtain ⟨u, S', μ', d1, d2, d3, d4, d5⟩ := hd
  rw [hl0] at d4
  have k1 := hres w' S' μ' d3 d4
  rw [show H0'.length - 1 = Hm.length - 1 by omega] at d2
  obtain ⟨μ2, z1, z2, z3, z4, z5⟩ := lentEnd_ok (n0 := w.heap.size) d3 k1 (by omega) hH.slt hH.lt (fun nm t b hn hb => by
   rcases Nat.lt_or_ge b w.heap.size with hlt | hge
   ·exfalso
    obtain ⟨nm', t', h'⟩ := d4.own nm t b hb hlt
    have h'' : (if q = some nm' ∧ t' = 0 then μ nm' t' else none) = some b := h'
    split at h''
    ·rename_i hc
     obtain ⟨⟨cs, hcs⟩, hne⟩ := hbx nm' hc.1
     have hb' := d4.mu nm' t' b (by have := Heap.get_lt hcs; omega) h'
     have := d3.disj _ _ _ _ _ hb hb'
     subst this
     exact hne hn
    ·cases h''
   ·exact hge) d2 hend
  refine ⟨u, S, μ2, d1, by rw [show H'.length - 1 = Hm.length - 1 by omega]; exact z1, z2, ?_, by omega⟩
  exact ⟨d4.os, d4.tape, d4.out, d4.size, fun _ h => h, fun b hb ho => d4.same b hb (.inl ⟨hb, fun nm e hm => by
   rcases ho with ho | ho
   ·exact (hbox nm b e hm).1 ho
   ·exact ho _ _ hm⟩), d4.shp, d4.lp, fun nm t b _ h => z3 nm t b h, fun nm t b h hlt => ⟨nm, t, z4 nm t b h hlt⟩, fun _ h _ => .inl h⟩
 unfold gborrow at h
 split at h
 ·cases h
 ·rename_i hq
  split at h
  ·rename_i v0 H0' hg
   refine main none (emptyH H) H0' H v0 hq (emptyH_length H) ⟨fun nm x hx t b hb => ?_, fun nm t b hb => ?_, fun nm nm' t t' b h1 h2 => ?_, fun nm t b hb => ?_, fun b hb => hb.1, hH.glb.mono (fun b hb => ⟨hH.slt b hb, fun nm e => by cases e⟩) (fun _ _ => rfl)⟩ (fun nm e => by cases e) hg h rfl fun w' S' μ' h3 h4 => ?_
   ·simp at hb
   ·simp at hb
   ·simp at h1
   ·simp at hb
   ·have hsame : ∀ b, b < w.heap.size → w'.heap[b]? = w.heap[b]? := fun b hb => h4.same b hb (.inl ⟨hb, fun nm e => by cases e⟩)
    exact ⟨fun nm x hx t b hb => (hH.blk nm x hx t b hb).mono (fun _ h => h) (fun b hb => hsame b (hH.slt b hb)) h4.shp (fun _ _ _ _ h => h) (fun _ => rfl) (fun t b hm => hsame b (hH.lt _ _ _ hm)) (fun _ _ _ h => h),
     hH.bnd, hH.disj, fun nm t b h => Nat.lt_of_lt_of_le (hH.lt nm t b h) h4.size, fun b h => Nat.lt_of_lt_of_le (hH.slt b h) h4.size, hH.glb.mono (fun _ h => h) (fun b hb => hsame b (hH.slt b hb))⟩
  ·cases h
 ·rename_i nm hq
  split at h
  ·rename_i cs hbx
   have hlt : nm.1 < H.length := Heap.get_lt hbx
   split at h
   ·cases h
   ·rename_i hcs
    have hcs : flatGL cs = true := by simpa using hcs
    split at h
    ·rename_i v0 H0' hg
     split at h
     ·rename_i cs' hbx'
      split at h
      ·rename_i hfl
       have hset : ((emptyH H).set nm (.box cs)).get nm = some (.box cs) := Heap.get_set _ (by rw [emptyH_length]; exact hlt)
       have hm0 : ∀ n t b, (if (some nm : Option Nm) = some n ∧ t = 0 then μ n t else none) = some b → n = nm ∧ t = 0 ∧ μ nm 0 = some b := fun n t b hb => by
        split at hb
        ·rename_i hc
         obtain ⟨c1, c2⟩ := hc
         cases c1; subst c2
         exact ⟨rfl, rfl, hb⟩
        ·cases hb
       refine main (some nm) _ H0' _ v0 hq (by rw [Heap.length_set, emptyH_length]) ⟨fun n x hx t b hb => ?_, fun n t b hb => ?_, fun n n' t t' b h1 h2 => ?_, fun n t b hb => ?_, fun b hb => hb.1, hH.glb.mono (fun b hb => ⟨hH.slt b hb, fun n e hm => by
         cases e
         obtain ⟨b', _, _, g1, g2, _⟩ := hH.blk _ _ hbx _ _ hm
         rw [hm] at g1; cases g1; exact g2 hb⟩) (fun _ _ => rfl)⟩ (fun n e => by cases e; exact ⟨⟨cs, hbx⟩, by rw [Heap.get_set _ hlt]; simp⟩) hg h (by rw [Heap.length_set]) fun w' S' μ' h3 h4 => ?_
       ·obtain ⟨rfl, rfl, hb2⟩ := hm0 n t b hb
        rw [hset] at hx; cases hx
        obtain ⟨b', c1, e1, g1, g2, g3, g4⟩ := hH.blk _ _ hbx _ _ hb2
        refine ⟨b', c1, e1, by show (if (some n : Option Nm) = some n ∧ (0 : Nat) = 0 then μ n 0 else none) = some b'; rw [if_pos ⟨rfl, rfl⟩]; exact g1, fun hs => hs.2 n rfl g1, g3, g4.flat hcs⟩
       ·obtain ⟨rfl, rfl, hb2⟩ := hm0 n t b hb
        exact ⟨_, hset⟩
       ·exact (hm0 _ _ _ h1).1.trans (hm0 _ _ _ h2).1.symm
       ·obtain ⟨rfl, rfl, hb2⟩ := hm0 n t b hb
        exact hH.lt _ _ _ hb2
       ·have hsame : ∀ b, b < w.heap.size → μ nm 0 ≠ some b → w'.heap[b]? = w.heap[b]? := fun b hb hn => h4.same b hb (.inl ⟨hb, fun n e => by cases e; exact hn⟩)
        have hSb : ∀ b, S b → μ nm 0 ≠ some b := fun b hb hm => by
         obtain ⟨b', _, _, g1, g2, _⟩ := hH.blk _ _ hbx _ _ hm
         rw [hm] at g1; cases g1; exact g2 hb
        have hw : ∀ b, S b → w'.heap[b]? = w.heap[b]? := fun b hb => hsame b (hH.slt b hb) (hSb b hb)
        refine ⟨fun n x hx t b hb => ?_, fun n t b hb => ?_, hH.disj, fun n t b h => Nat.lt_of_lt_of_le (hH.lt n t b h) h4.size, fun b h => Nat.lt_of_lt_of_le (hH.slt b h) h4.size, hH.glb.mono (fun _ h => h) hw⟩
        ·by_cases e : n = nm
         ·subst e
          rw [Heap.get_set _ hlt] at hx; cases hx
          obtain ⟨b', c1, e1, g1, g2, g3, g4⟩ := hH.blk _ _ hbx _ _ hb
          have hmu : μ' n 0 = some b' := h4.mu n 0 b' (by omega) (by show (if (some n : Option Nm) = some n ∧ (0 : Nat) = 0 then μ n 0 else none) = some b'; rw [if_pos ⟨rfl, rfl⟩]; exact g1)
          obtain ⟨b2, c2, e2, k1, k2, k3, k4⟩ := h3.blk _ _ hbx' _ _ hmu
          rw [hmu] at k1; cases k1
          exact ⟨b', c2, e2, g1, g2, k3, k4.flat hfl⟩
         ·rw [Heap.get_set_other _ e] at hx
          exact (hH.blk n x hx t b hb).mono (fun _ h => h) hw h4.shp (fun _ _ _ _ h => h) (fun _ => rfl) (fun t b hm => hsame b (hH.lt _ _ _ hm) fun h => e (hH.disj _ _ _ _ _ hm h)) (fun _ _ _ h => h)
        ·obtain ⟨x, hx⟩ := hH.bnd n t b hb
         by_cases e : n = nm
         ·subst e; exact ⟨_, Heap.get_set _ hlt⟩
         ·exact ⟨x, by rw [Heap.get_set_other _ e]; exact hx⟩
      ·cases h
     ·cases h
    ·cases h
  ·cases h
theorem emptyArg_inv {args : List GV} {vs : Array Value} {k : Nat} (h : emptyArg args = true) (hvs : vs.size = args.length) (hrel : ∀ j, j < args.length → VRel w S μ k (vs.getD j undef) (args.getD j gdead)) : ∃ a cap, vs = #[.slice a 0 cap] := by
 have one : ∀ g : GV, args = [g] → (∃ a cap, vs.getD 0 undef = .slice a 0 cap) → ∃ a cap, vs = #[.slice a 0 cap] := fun g e ⟨a, cap, h0⟩ => by
  subst e
  refine ⟨a, cap, ?_⟩
  have hs : vs.size = 1 := hvs
  apply Array.ext (by simp [hs])
  intro i h1 h2
  have : i = 0 := by simp at h2; omega
  subst this
  simpa [Array.getD_eq_getD_getElem?, hs] using h0
 unfold emptyArg at h
 split at h
 ·refine one _ rfl ?_
  have := hrel 0 (by simp)
  simp only [List.getD_cons_zero] at this
  generalize vs.getD 0 undef = x at this ⊢
  cases this with
  | nils a => exact ⟨a, 0, rfl⟩
 ·refine one _ rfl ?_
  have := hrel 0 (by simp)
  simp only [List.getD_cons_zero] at this
  obtain ⟨a, cap, e, _⟩ := this.pv.slice_inv
  exact ⟨a, cap, e⟩
 ·cases h
theorem call_ok (K : Ctx) (hK : CtxOk K) {rec : Rec} (hrec : RecOk K.P rec) {f : FuncId} {args : List GV} {c : Nat} {H' : Heap} {v : GV} (h : gcall K rec f args c H = some (v, H')) {vs : Array Value} (hH : HRel w S μ H)
  (hvs : vs.size = args.length) (hrel : ∀ j, j < args.length → VRel w S μ (H.length - 1) (vs.getD j undef) (args.getD j gdead)) :
  (callFunc f vs).run K.P w = .ok (.enter f vs) w ∧ CallsIn (Fw none) 0 K.P f vs w (Done (H.length - 1) H.length w S μ v H') := by
 have hcase : (∃ e, K.cln f = true ∧ K.ext f = some e ∧ H.length ≠ 0 ∧ e args H = some (v, H')) ∨ ((K.cln f = true → K.ext f = none) ∧ gcallN K rec f args c H = some (v, H')) := by
  unfold gcall at h
  split at h
  ·rename_i hc
   split at h
   ·rename_i e he
    split at h
    ·cases h
    ·rename_i h0
     exact .inl ⟨e, hc, he, h0, h⟩
   ·rename_i he
    exact .inr ⟨fun _ => he, h⟩
  ·rename_i hc
   exact .inr ⟨fun h => absurd h hc, h⟩
 rcases hcase with ⟨e, hc, he, h0, h⟩ | ⟨hx, h⟩
 ·exact hK.ext f e hc he w S μ H H' args v vs h (by omega) hH hvs hrel
 unfold gcallN at h
 split at h
 ·rename_i hc
  simp only [Bool.and_eq_true] at hc
  simp only [Option.some.injEq, Prod.mk.injEq] at h
  obtain ⟨rfl, rfl⟩ := h
  obtain ⟨a, cap, rfl⟩ := emptyArg_inv hc.2 hvs hrel
  obtain ⟨c1, c2⟩ := hK.cln f hc.1 (hx hc.1) w a cap (hH.glb.mono hH.slt (fun _ _ => rfl))
  refine ⟨c1, CallsIn.mono c2 fun e w' hd => ?_⟩
  obtain ⟨⟨a', rfl⟩, d1, d2, d3, d4, d5⟩ := hd
  have hsh : ∀ b x, w.shape? b = some x → w'.shape? b = some x := fun b x hx => by
   have hb : b < w.heap.size := by
    unfold World.shape? at hx
    rcases Nat.lt_or_ge b w.heap.size with h | h
    ·exact h
    ·rw [Array.getElem?_eq_none h] at hx; cases hx
   unfold World.shape? at hx ⊢
   rw [d5 b hb]; exact hx
  refine ⟨_, S, μ, rfl, .nils _, ?_, ⟨d1, d2, d3, d4, fun _ h => h, fun b hb _ => d5 b hb, hsh, fun b r hr => ⟨r, by rw [d5 b (Array.getElem?_eq_some_iff.1 hr).1]; exact hr⟩, fun _ _ _ _ h => h, fun nm t b h _ => ⟨nm, t, h⟩, fun _ h _ => .inl h⟩, rfl⟩
  exact ⟨fun nm x hx t b hb => (hH.blk nm x hx t b hb).mono (fun _ h => h) (fun b hb => d5 b (hH.slt b hb)) hsh (fun _ _ _ _ h => h) (fun _ => rfl) (fun t b hm => d5 b (hH.lt _ _ _ hm)) (fun _ _ _ h => h),
   hH.bnd, hH.disj, fun nm t b h => Nat.lt_of_lt_of_le (hH.lt nm t b h) d4, fun b h => Nat.lt_of_lt_of_le (hH.slt b h) d4, hH.glb.mono (fun _ h => h) (fun b hb => d5 b (hH.slt b hb))⟩
 split at h
 ·obtain ⟨S1, a1, a2, a3, a4, a5⟩ := frzVals_rel (H.length - 1) hH hrel
  refine borrow_ok K hrec h hH a1 a4.2.1 (by simpa using hvs.trans a5.symm) (fun j hj => ?_)
  have hj' : j < (frzVals H args).1.length := by simpa using hj
  have e : (((frzVals H args).1.map canon).getD j gdead) = canon ((frzVals H args).1.getD j gdead) := by simp [List.getD_eq_getElem?_getD, hj']
  rw [e]
  exact canon_rel (a3 j (by omega))
 split at h
 ·obtain ⟨S1, a1, a2, a3, a4, a5⟩ := frzVals_rel (H.length - 1) hH hrel
  obtain ⟨b1, b2⟩ := call_ok0 K hrec h a1 (hvs.trans a5.symm) (fun j hj => by rw [a4.1]; exact a3 j (by omega))
  refine ⟨b1, CallsIn.mono b2 fun e w' hd => ?_⟩
  obtain ⟨u, S2, μ2, d1, d2, d3, d4, d5⟩ := hd
  rw [a4.1] at d4 d5
  exact ⟨u, S2, μ2, d1, d2, d3, a2.trans d4, d5⟩
 ·exact call_ok0 K hrec h hH hvs hrel
end
end
section
section
variable {w w' : World} {S S' : Nat → Prop} {μ μ' : Mu} {H : Heap} {P : Program} {ℓ base : Nat} {r : Option Nat}
theorem HRel.loopTurn (hH : HRel w S μ H) {nm : Nm} {l : GLoop} {b : Nat} {q : Loop} {x : LoopState} {p : Option GX} (hg : H.get nm = some (.loop l)) (hm : μ nm 0 = some b) (hb : w.heap[b]? = some (.loop q)) (hp : p ≠ some .normal) :
  HRel (w.putObj b (.loop { q with state := x, pending := p.map jumpOf })) S μ (H.set nm (.loop { l with state := x, pending := p })) ∧
   Ev ℓ w S μ (w.putObj b (.loop { q with state := x, pending := p.map jumpOf })) S μ := by
 obtain ⟨b', q', h1, h2, h3, q1, q2, q3, q5, q6, q7, q8, q9⟩ := hH.blk _ _ hg _ _ hm
 rw [hm] at h1; simp only [Option.some.injEq] at h1; subst h1
 rw [hb] at h3; simp only [Option.some.injEq, Obj.loop.injEq] at h3; subst h3
 have hlt : b < w.heap.size := (Array.getElem?_eq_some_iff.1 hb).1
 have hne : ∀ b', S b' → b' ≠ b := fun b' h e => h2 (e ▸ h)
 have hoth : ∀ b' : Nat, b' ≠ b → (w.putObj b (.loop { q with state := x, pending := p.map jumpOf })).heap[b']? = w.heap[b']? := fun b' e => World.putObj_heap_other e
 have hsh : ∀ b' y, w.shape? b' = some y → (w.putObj b (.loop { q with state := x, pending := p.map jumpOf })).shape? b' = some y := fun b' y h => by
  unfold World.shape? at h ⊢
  by_cases e : b' = b
  ·subst e; rw [hb] at h; simp at h
  ·rw [hoth b' e]; exact h
 refine hH.turn ℓ (Heap.get_lt hg) rfl rfl rfl (by rw [World.putObj_size]; exact Nat.le_refl _) (fun _ h => h) (fun b h => .inl h) (fun b' h => by rw [World.putObj_size]; exact hH.slt b' h) (fun k hk ho => ?_) hsh (fun b' r h => ?_)
  (fun n t _ => rfl) (fun t b h => h) (fun t b h => .inl ⟨t, h⟩) (fun t b' h => by rw [World.putObj_size]; exact hH.lt _ _ _ h)
  ⟨b, _, hm, h2, World.putObj_heap_same hlt, rfl, rfl, hp, q5, q6, q7, q8, fun t => (q9 t).mono (fun _ h => h) (fun b' h => hoth b' (hne b' h)) hsh (fun _ _ _ _ h => h) (Nat.le_refl _)⟩
 ·refine hoth k fun e => ?_
  subst e
  rcases ho with ho | ho
  ·exact h2 ho
  ·exact ho 0 hm
 ·by_cases e : b' = b
  ·subst e; exact ⟨_, World.putObj_heap_same hlt⟩
  ·exact ⟨r, by rw [hoth b' e]; exact h⟩
theorem fold_size (l : List (Tmp × Value)) : ∀ (tmps : Array Value), (l.foldl (fun tmps x => tmps.setIfInBounds x.1 x.2) tmps).size = tmps.size := by
 induction l with
 | nil => intro tmps; rfl
 | cons x l ih => intro tmps; rw [List.foldl_cons, ih]; simp
theorem params_ok {k nt : Nat} : ∀ (ts : List Tmp) (gs : List GV) (vs : List Value) (s s' : Slots) (tmps : Array Value), (∀ t, VRel w S μ k (tmps.getD t undef) (look s t)) → tmps.size = nt →
  vs.length = gs.length → (∀ j, j < gs.length → VRel w S μ k (vs.getD j undef) (gs.getD j gdead)) → putParams s nt ts gs = some s' →
  ts.length = gs.length ∧ ∀ t, VRel w S μ k (((ts.zip vs).foldl (fun tmps x => tmps.setIfInBounds x.1 x.2) tmps).getD t undef) (look s' t)
 | [], [], vs, s, s', tmps, hs, hn, hl, hv, h => by
  simp only [putParams, Option.some.injEq] at h; subst h
  exact ⟨rfl, by simpa using hs⟩
 | t0 :: ts, g :: gs, [], s, s', tmps, hs, hn, hl, hv, h => by simp at hl
 | t0 :: ts, g :: gs, v :: vs, s, s', tmps, hs, hn, hl, hv, h => by
  simp only [putParams] at h
  split at h
  ·rename_i hlt
   obtain ⟨a, b⟩ := params_ok ts gs vs _ s' (tmps.setIfInBounds t0 v) (fun t => by
    rw [look_cons]
    have := put_getD ⟨tmps, []⟩ t0 v t (by rw [show (Act.mk tmps []).tmps.size = tmps.size from rfl, hn]; exact hlt)
    simp only [Act.put] at this
    rw [this]
    split
    ·simpa using hv 0 (by simp)
    ·exact hs t) (by simp [hn]) (by simpa using hl) (fun j hj => by simpa using hv (j + 1) (by simpa using hj)) h
   exact ⟨by simp [a], b⟩
  ·cases h
 | [], g :: gs, vs, s, s', tmps, hs, hn, hl, hv, h => by simp [putParams] at h
 | t0 :: ts, [], vs, s, s', tmps, hs, hn, hl, hv, h => by simp [putParams] at h
theorem set_cons {fr : Fr} {nm : Nm} {x : Blk} (h : nm.1 ≠ H.length) : Heap.set (fr :: H) nm x = fr :: Heap.set H nm x := by
 show (if nm.1 = H.length then _ else _) = _
 rw [if_neg h]
theorem round_ok {rec : Rec} (hrec : RecOk P rec) {nm : Nm} {args : List GV} {H' : Heap} {v : GV} (h : ground rec nm args H = some (v, H')) {vs : Array Value} (hH : HRel w S μ H) {k b : Nat} (hk : k = H.length - 1) (hp : 0 < H.length)
  (hm : μ nm 0 = some b) (hvs : vs.size = args.length) (hrel : ∀ j, j < args.length → VRel w S μ k (vs.getD j undef) (args.getD j gdead)) :
  ∃ q : Loop, w.heap[b]? = some (.loop q) ∧ vs.size = q.params.size ∧
   RoundIn (Fw r) 0 P b q.fn ((q.params.zip vs).foldl (fun tmps (t, a) => tmps.setIfInBounds t a) q.tmps) q.assign q.body w (Done (H.length - 1) H.length w S μ v H') := by
 subst hk
 unfold ground at h
 split at h
 ·rename_i l hg
  have hnl : nm.1 < H.length := Heap.get_lt hg
  obtain ⟨b', q, h1, h2, h3, q1, q2, q3, q5, q6, q7, q8, q9⟩ := hH.blk _ _ hg _ _ hm
  rw [hm] at h1; simp only [Option.some.injEq] at h1; subst h1
  refine ⟨q, h3, ?_⟩
  split at h
  ·rename_i hready
   split at h
   ·rename_i s hpar
    have hargs : ∀ j, j < (args.map canon).length → VRel w S μ H.length (vs.toList.getD j undef) ((args.map canon).getD j gdead) := fun j hj => by
     have hj' : j < args.length := by simpa using hj
     have e : (args.map canon).getD j gdead = canon (args.getD j gdead) := by simp [List.getD_eq_getElem?_getD, hj']
     rw [e, ← agetD]
     exact canon_rel ((hrel j hj').up (by omega))
    obtain ⟨p1, p2⟩ := params_ok l.params _ vs.toList l.slots s q.tmps (fun t => (q9 t).up (by omega)) q8 (by simpa using hvs) hargs hpar
    have hps : vs.size = q.params.size := by rw [q5]; simp at p1; simp [hvs, p1]
    refine ⟨hps, ?_⟩
    have hfold : ((q.params.zip vs).foldl (fun tmps (t, a) => tmps.setIfInBounds t a) q.tmps) = (l.params.zip vs.toList).foldl (fun tmps x => tmps.setIfInBounds x.1 x.2) q.tmps := by
     rw [← Array.foldl_toList, Array.toList_zip, q5]
    rw [hfold]
    have hst : StOk w.heap.size (some b) w S μ ⟨s, [] :: H, l.nt⟩ { tmps := (l.params.zip vs.toList).foldl (fun tmps x => tmps.setIfInBounds x.1 x.2) q.tmps, defers := [] } :=
     ⟨hH.push, p2, by rw [← q8]; exact fold_size _ _, by simp, Nat.le_refl _, ⟨fun d hd => by simp at hd, .nil⟩, fun l hl => by cases hl; exact ⟨q, h3⟩⟩
    split at h
    ·rename_i st hra
     have hwa := hrec _ _ _ _ _ hra _ _ w S μ _ hst
     split at h
     ·rename_i fr H1 hh1
      split at h
      ·rename_i l1 hg1
       split at h
       ·cases h
       rename_i hready1
       have hready1 : l1.state = .ready := Classical.not_not.1 hready1
       split at h
       ·rename_i e st' hrb
        split at h
        ·rename_i fr2 H2 hh2
         split at h
         ·rename_i l2 hg2
          refine roundIn_of_wpIn trivial ?_
          rw [q6]
          refine wpIn_mono hwa fun e' a1 w1 hq => ?_
          obtain ⟨e1, e2, e3, S1, μ1, e4, e5⟩ := hq
          simp only [exitOf] at e1; subst e1
          simp only [List.length_cons, Nat.add_sub_cancel] at e2 e5
          simp only [Exit.then]
          have hlen1 : H1.length = H.length := by rw [hh1] at e2; simpa using e2
          have hm1 : μ1 nm 0 = some b := e5.mu nm 0 b (by omega) hm
          have hH1 : HRel w1 S1 μ1 (fr :: H1) := hh1 ▸ e4.heap
          have hg1' : Heap.get (fr :: H1) nm = some (.loop l1) := by rw [get_cons, if_neg (by omega)]; exact hg1
          obtain ⟨b1, r1, k1, k2, k3, s1, s2, s3, s5, s6, s7, s8, s9⟩ := hH1.blk _ _ hg1' _ _ hm1
          rw [hm1] at k1; simp only [Option.some.injEq] at k1; subst k1
          refine ⟨_, run_beginRound k3 (s1.trans hready1), ?_⟩
          obtain ⟨t1, t2⟩ := HRel.loopTurn (ℓ := H.length) hH1 (x := .busy) (p := l1.pending) hg1' hm1 k3 s3
          have hpend : ({ r1 with state := .busy, pending := l1.pending.map jumpOf } : Loop) = { r1 with state := .busy } := by rw [← s2]
          rw [hpend] at t1 t2
          rw [set_cons (by omega)] at t1
          have hst2 : StOk w.heap.size (some b) (w1.putObj b (.loop { r1 with state := .busy })) S1 μ1 ⟨st.s, fr :: Heap.set H1 nm (.loop { l1 with state := .busy }), l.nt⟩ a1 := by
           refine ⟨t1, fun t => ?_, ?_, by simp, Nat.le_trans e4.low t2.size, e4.defs.ev t2, round_ev e4.round t2⟩
           ·have := slots_ev (k' := H.length) e4.slots hH1 t2 (by rw [hh1]; simp [hlen1]) (by rw [hh1]; simp [hlen1]) t
            simpa [Heap.length_set, hlen1] using this
           ·rw [e4.nt]; exact e3
          have hwb := hrec _ _ _ _ _ hrb _ _ _ S1 μ1 _ hst2
          rw [q7]
          refine wpIn_mono hwb fun e' a2 w2 hq => ?_
          obtain ⟨f1, f2, f3, S2, μ2, f4, f5⟩ := hq
          simp only [List.length_cons, Nat.add_sub_cancel, Heap.length_set] at f2 f5
          rw [hlen1] at f2 f5
          have hlen2 : H2.length = H.length := by rw [hh2] at f2; simpa using f2
          have hm2 : μ2 nm 0 = some b := f5.mu nm 0 b (by omega) hm1
          have hH2 : HRel w2 S2 μ2 (fr2 :: H2) := hh2 ▸ f4.heap
          have hg2' : Heap.get (fr2 :: H2) nm = some (.loop l2) := by rw [get_cons, if_neg (by omega)]; exact hg2
          obtain ⟨b2, r2, m1, m2, m3, n1, n2, n3, n5, n6, n7, n8, n9⟩ := hH2.blk _ _ hg2' _ _ hm2
          rw [hm2] at m1; simp only [Option.some.injEq] at m1; subst m1
          have fin : ∀ (x : LoopState) (p : Option GX) (bo : Bool), p ≠ some .normal → v = .pure (.bool bo) → H' = Heap.set H2 nm (.loop { l2 with state := x, pending := p }) →
            Done (H.length - 1) H.length w S μ v H' (.returned (.bool bo)) (w2.putObj b (.loop { r2 with state := x, pending := p.map jumpOf })) := by
           intro x p bo hpn hv hH'
           subst hv; subst hH'
           obtain ⟨u1, u2⟩ := HRel.loopTurn (ℓ := H.length) hH2 (x := x) (p := p) hg2' hm2 m3 hpn
           rw [set_cons (by omega)] at u1
           have d1 := drop_heap u1
           have d2 := drop_ev (ℓ := H.length - 1) (L := (Heap.set H2 nm (.loop { l2 with state := x, pending := p })).length) u1 (by rw [Heap.length_set]; omega)
           exact ⟨.bool bo, _, _, rfl, .pure _ _ (.bool bo), d1, ((((e5.trans (t2.level (by omega))).trans f5).trans (u2.level (by omega))).level (by omega)).trans d2, by rw [Heap.length_set]; exact hlen2⟩
          cases e with
          | normal =>
           simp only [exitOf] at f1; subst f1
           simp only [Option.some.injEq, Prod.mk.injEq] at h
           exact ⟨_, _, run_endRound none m3, fin .ready none true (by simp) h.1.symm h.2.symm⟩
          | ret =>
           simp only [exitOf] at f1; subst f1
           simp only [Option.some.injEq, Prod.mk.injEq] at h
           exact ⟨_, _, run_endRound (some .ret) m3, fin .done (some .ret) false (by simp) h.1.symm h.2.symm⟩
          | exit id =>
           simp only [exitOf] at f1; subst f1
           simp only [Option.some.injEq, Prod.mk.injEq] at h
           exact ⟨_, _, run_endRound (some (.exit id)) m3, fin .done (some (.exit id)) false (by simp) h.1.symm h.2.symm⟩
         ·cases h
        ·cases h
       ·cases h
      ·cases h
     ·cases h
    ·cases h
   ·cases h
  ·cases h
 ·cases h
end
end
section
section
variable {w w' : World} {S S' : Nat → Prop} {μ μ' : Mu} {H : Heap} {P : Program} {ℓ base : Nat} {r : Option Nat}
theorem Fr.get_del (q p : Nat) : ∀ f : Fr, (f.del q).get p = if p = q then none else f.get p
  | [] => by simp [Fr.del, Fr.get]
  | (k, b) :: r => by
    unfold Fr.del
    split
    · rename_i h
      rw [Fr.get_del q p r]
      by_cases e : p = q
      · simp [e]
      · have e2 : ¬ p = k := fun x => e (x.trans h.symm)
        simp [e, e2, Fr.get]
    · rename_i h
      simp only [Fr.get, Fr.get_del q p r]
      by_cases e : p = k
      · have e2 : ¬ p = q := fun x => h (x.symm.trans e)
        simp [e, e2]
        intro x; exact absurd x.symm h
      · simp [e]
theorem get_delAll (p : Nat) : ∀ (l : List Nat) (f : Fr), (delAll l f).get p = if p ∈ l then none else f.get p
 | [], f => by simp [delAll]
 | q :: r, f => by
  rw [delAll, get_delAll p r]
  by_cases h : p ∈ r
  ·simp [h]
  ·simp only [h, if_false, Fr.get_del, List.mem_cons, or_false]
theorem noRefL_get {nm : Nm} : ∀ {l : List GV}, noRefL nm l = true → ∀ j, noRef nm (l.getD j gdead) = true
 | [], _, j => by simp [gdead, noRef]
 | g :: r, h, j => by
  simp only [noRefL, Bool.and_eq_true] at h
  cases j with
  | zero => simpa using h.1
  | succ j => simpa using noRefL_get h.2 j
theorem noRefLL_get {nm : Nm} : ∀ {l : List (List GV)}, noRefLL nm l = true → ∀ i j, noRef nm ((l.getD i []).getD j gdead) = true
 | [], _, i, j => by simp [gdead, noRef]
 | g :: r, h, i, j => by
  simp only [noRefLL, Bool.and_eq_true] at h
  cases i with
  | zero => simpa using noRefL_get h.1 j
  | succ i => simpa using noRefLL_get h.2 i j
theorem VRel.forget {ks : List Nm} {v : Value} {g : GV} (hm : ∀ n t b, n.1 ≤ ℓ → n ∉ ks → μ n t = some b → μ' n t = some b) (h : VRel w S μ ℓ v g) (hn : ∀ k ∈ ks, noRef k g = true) : VRel w S μ' ℓ v g := by
 induction h with
 | pure v p h => exact .pure v p h
 | pptr b o cs f hb hf h1 hr => exact .pptr b o cs f hb hf h1 hr
 | lptr b o cs f hb hf h1 _ ih => exact .lptr b o cs f hb hf h1 fun j hj => ih j hj fun k hk => noRefL_get (by simpa only [noRef] using hn k hk) j
 | nils a => exact .nils a
 | lits b o cap es l f hb he hes hf h1 _ hcap ih => exact .lits b o cap es l f hb he hes hf h1 (fun i j hi hj => ih i j hi hj fun k hk => noRefLL_get (by simpa only [noRef] using hn k hk) i j) hcap
 | bptr nm off b h1 h2 => exact .bptr nm off b h1 (hm _ _ _ h1 (fun hk => by have := hn nm hk; simp [noRef] at this) h2)
 | eptr nm es top i off b h1 h2 => exact .eptr nm es top i off b h1 (hm _ _ _ h1 (fun hk => by have := hn nm hk; simp [noRef] at this) h2)
 | hdr nm es top lo len cap b n e h1 h2 hc ht hs hn' => exact .hdr nm es top lo len cap b n e h1 (hm _ _ _ h1 (fun hk => by have := hn nm hk; simp [noRef] at this) h2) hc ht hs hn'
 | agg vs l h h1 _ ih => exact .agg vs l h h1 fun j hj => ih j hj fun k hk => noRefL_get (by simpa only [noRef] using hn k hk) j
 | tuple vs l h _ ih => exact .tuple vs l h fun j hj => ih j hj fun k hk => noRefL_get (by simpa only [noRef] using hn k hk) j
 | func f a c la lc h1 h2 _ _ ih1 ih2 =>
  have h3 : ∀ k ∈ ks, noRefL k la = true ∧ noRefL k lc = true := fun k hk => by simpa only [noRef, Bool.and_eq_true] using hn k hk
  exact .func f a c la lc h1 h2 (fun j hj => ih1 j hj fun k hk => noRefL_get (h3 k hk).1 j) (fun j hj => ih2 j hj fun k hk => noRefL_get (h3 k hk).2 j)
 | yield nm b h1 h2 => exact .yield nm b h1 (hm _ _ _ h1 (fun hk => by have := hn nm hk; simp [noRef] at this) h2)
 | map nm b h1 h2 => exact .map nm b h1 (hm _ _ _ h1 (fun hk => by have := hn nm hk; simp [noRef] at this) h2)
 | rhdr nm es i len cap b h1 h2 h3 => exact .rhdr nm es i len cap b h1 (hm _ _ _ h1 (fun hk => by have := hn nm hk; simp [noRef] at this) h2) h3
 | rptr nm es i j off b h1 h2 => exact .rptr nm es i j off b h1 (hm _ _ _ h1 (fun hk => by have := hn nm hk; simp [noRef] at this) h2)
theorem CRel.forget {ks : List Nm} {vs : List Value} {gs : List GV} (hm : ∀ n t b, n.1 ≤ ℓ → n ∉ ks → μ n t = some b → μ' n t = some b) (h : CRel w S μ ℓ vs gs) (hn : ∀ k ∈ ks, noRefL k gs = true) : CRel w S μ' ℓ vs gs := by
 induction h with
 | nil => exact .nil
 | cons h1 h _ ih =>
  have h3 : ∀ k ∈ ks, _ := fun k hk => by simpa only [noRefL, Bool.and_eq_true] using hn k hk
  exact .cons h1 (h.forget hm fun k hk => (h3 k hk).1) (ih fun k hk => (h3 k hk).2)
theorem noRefE_get {nm : Nm} : ∀ {l : List (PV × GV)}, noRefE nm l = true → ∀ j (h : j < l.length), noRef nm l[j].2 = true
 | [], _, j, h => by simp at h
 | e :: r, hn, j, h => by
  simp only [noRefE, Bool.and_eq_true] at hn
  cases j with
  | zero => simpa using hn.1
  | succ j => simpa using noRefE_get hn.2 j (by simpa using h)
theorem BlkRel.forget {ks : List Nm} {nm : Nm} {x : Blk} (hm : ∀ n t b, n.1 ≤ nm.1 → n ∉ ks → μ n t = some b → μ' n t = some b) (ho : ∀ t, μ' nm t = μ nm t) (hn : ∀ k ∈ ks, noRefB k x = true) (h : BlkRel w S μ nm x)
  (hne : ks ≠ []) : BlkRel w S μ' nm x := by
 cases x with
 | gone => trivial
 | box cs =>
  obtain ⟨b, c, e, h1, h2, h3, h4⟩ := h
  exact ⟨b, c, e, by rw [ho]; exact h1, h2, h3, h4.forget hm hn⟩
 | arr es elems vf ro =>
  obtain ⟨h0, h1, h2, ⟨b0, h3⟩, h4⟩ := h
  exact ⟨h0, h1, h2, ⟨b0, by rw [ho]; exact h3⟩, fun top b hb' => h4 top b (by rw [ho] at hb'; exact hb')⟩
 | map es =>
  obtain ⟨b, ms, clock, h1, h2, h3, h4, h5⟩ := h
  refine ⟨b, ms, clock, by rw [ho]; exact h1, h2, h3, h4, fun j hj => ?_⟩
  obtain ⟨m, m1, m2, m3⟩ := h5 j hj
  exact ⟨m, m1, m2, m3.forget hm fun k hk => noRefE_get (hn k hk) j hj⟩
 | loop l =>
  obtain ⟨k, hk⟩ := List.exists_mem_of_ne_nil _ hne
  have := hn k hk
  simp [noRefB] at this
 | mat es rows n => exact MatRel.mono (fun _ h => h) (fun _ _ => rfl) ho (fun _ _ _ => rfl) (fun _ _ _ h => h) h
theorem noRefF_get {nm : Nm} {k : Nat} {x : Blk} : ∀ {f : Fr}, noRefF nm f = true → f.get k = some x → noRefB nm x = true
  | [], _, h => by simp [Fr.get] at h
  | (q, b) :: r, hn, h => by
    simp only [noRefF, Bool.and_eq_true] at hn
    simp only [Fr.get] at h
    split at h
    · cases h; exact hn.1
    · exact noRefF_get hn.2 h
theorem noRefS_look {nm : Nm} (t : Nat) : ∀ {s : Slots}, noRefS nm s = true → noRef nm (look s t) = true
  | [], _ => by simp [look, gdead, noRef]
  | (q, v) :: r, hn => by
    simp only [noRefS, Bool.and_eq_true] at hn
    rw [look_cons]
    split
    · exact hn.1
    · exact noRefS_look t hn.2
theorem deadKeys_spec {L : Nat} {s : Slots} {fr : Fr} : ∀ (f : Fr) (k : Nat), k ∈ deadKeys L s fr f → noRefS (L, k) s = true ∧ noRefF (L, k) fr = true
 | [], k, h => by simp [deadKeys] at h
 | x :: r, k, h => by
  simp only [deadKeys] at h
  split at h
  ·rename_i hc
   simp only [Bool.and_eq_true] at hc
   rcases List.mem_cons.1 h with rfl | h
   ·exact ⟨hc.1.2, hc.2⟩
   ·exact deadKeys_spec r k h
  ·exact deadKeys_spec r k h
theorem gcol_ok {st st' : GSt} {a : Act} (h : StOk base r w S μ st a) (hs : gcol st = some st') :
  st'.h.length = st.h.length ∧ st'.nt = st.nt ∧ ∃ μ', StOk base r w S μ' st' a ∧ Ev (st'.h.length - 2) w S μ w S μ' := by
 unfold gcol at hs
 split at hs
 ·rename_i fr H hh
  split at hs
  ·cases hs
  ·rename_i h0
   simp only [Option.some.injEq] at hs; subst hs
   generalize hd : deadKeys H.length st.s fr fr = dead
   have hH : HRel w S μ (fr :: H) := hh ▸ h.heap
   have hsp : ∀ k ∈ dead, noRefS (H.length, k) st.s = true ∧ noRefF (H.length, k) fr = true := fun k hk => deadKeys_spec fr k (by rw [hd]; exact hk)
   let gone : List Nm := dead.map fun k => (H.length, k)
   have hgone : ∀ n ∈ gone, n.1 = H.length ∧ n.2 ∈ dead := fun n hn => by
    obtain ⟨k, hk, e⟩ := List.mem_map.1 hn
    subst e; exact ⟨rfl, hk⟩
   have hgone' : ∀ n : Nm, n.1 = H.length → n.2 ∈ dead → n ∈ gone := fun n h1 h2 => List.mem_map.2 ⟨n.2, h2, Prod.ext h1.symm rfl⟩
   let μ1 : Mu := fun n t => if n ∈ gone then none else μ n t
   have a1 : ∀ n t b, μ1 n t = some b → n ∉ gone ∧ μ n t = some b := fun n t b hn => by
    simp only [μ1] at hn
    split at hn
    ·cases hn
    ·exact ⟨by assumption, hn⟩
   have b1 : ∀ n t, n ∉ gone → μ1 n t = μ n t := fun n t hn => by simp only [μ1]; rw [if_neg hn]
   have hgets : ∀ n : Nm, n ∉ gone → Heap.get (delAll dead fr :: H) n = Heap.get (fr :: H) n := fun n hn => by
    simp only [get_cons]
    split
    ·rename_i hl
     rw [get_delAll, if_neg fun hm => hn (hgone' n hl hm)]
    ·rfl
   have hE : Ev (H.length + 1 - 2) w S μ w S μ1 := ⟨rfl, rfl, rfl, Nat.le_refl _, fun _ h => h, fun _ _ _ => rfl, fun _ _ h => h, fun b r h => ⟨r, h⟩, fun n t b hl hm => by
     rw [b1 _ _ (fun h => by have := (hgone _ h).1; omega)]; exact hm, fun n t b hm _ => ⟨n, t, (a1 _ _ _ hm).2⟩, fun b hb _ => .inl hb⟩
   refine ⟨by simp [hh], rfl, μ1, ⟨⟨fun n x hx t b hb => ?_, fun n t b hb => ?_, fun n n' t t' b h1 h2 => hH.disj _ _ _ _ _ (a1 _ _ _ h1).2 (a1 _ _ _ h2).2, fun n t b hb => hH.lt _ _ _ (a1 _ _ _ hb).2, hH.slt, hH.glb⟩, fun t => ?_, h.nt, by simp, h.low, h.defs.ev hE, h.round⟩, by simpa using hE⟩
   ·obtain ⟨c2, c3⟩ := a1 _ _ _ hb
    rw [hgets n c2] at hx
    have hx0 := hH.blk n x hx t b c3
    by_cases hne : gone = []
    ·exact hx0.mono (fun _ h => h) (fun _ _ => rfl) (fun _ _ h => h) (fun n' t' b' hn hm => by rw [b1 _ _ (by rw [hne]; simp)]; exact hm) (fun t => b1 _ _ c2) (fun _ _ _ => rfl) (fun _ _ _ h => h)
    ·by_cases hl : n.1 = H.length
     ·refine hx0.forget (ks := gone) (fun n' t' b' hn hng hm => by rw [b1 _ _ hng]; exact hm) (fun t => b1 _ _ c2) (fun k hk => ?_) hne
      obtain ⟨k1, k2⟩ := hgone k hk
      rw [get_cons, if_pos hl] at hx
      have := (hsp k.2 k2).2
      rw [show ((H.length, k.2) : Nm) = k from Prod.ext k1.symm rfl] at this
      exact noRefF_get this hx
     ·have hlt : n.1 < H.length := by
       rw [get_cons, if_neg hl] at hx
       exact Heap.get_lt hx
      refine hx0.mono (fun _ h => h) (fun _ _ => rfl) (fun _ _ h => h) (fun n' t' b' hn hm => ?_) (fun t => b1 _ _ c2) (fun _ _ _ => rfl) (fun _ _ _ h => h)
      rw [b1 _ _ (fun h => by have := (hgone _ h).1; omega)]; exact hm
   ·obtain ⟨c2, c3⟩ := a1 _ _ _ hb
    obtain ⟨x, hx⟩ := hH.bnd n t b c3
    exact ⟨x, by show Heap.get (delAll dead fr :: H) n = some x; rw [hgets n c2]; exact hx⟩
   ·have hv := h.slots t
    rw [hh] at hv
    refine hv.forget (ks := gone) (fun n t b _ hn hm => by rw [b1 _ _ hn]; exact hm) fun k hk => ?_
    obtain ⟨k1, k2⟩ := hgone k hk
    have := (hsp k.2 k2).1
    rw [show ((H.length, k.2) : Nm) = k from Prod.ext k1.symm rfl] at this
    exact noRefS_look t this
 ·cases hs
theorem gnext_ok (K : Ctx) {fn : FuncId} {c : Code} {st st' : GSt} {a : Act} (h : StOk base r w S μ st a) (hs : gnext K fn c st = some st') :
  st'.h.length + 1 = st.h.length ∧ st'.nt = st.nt ∧ ∃ S' μ', StOk base r w S' μ' st' a ∧ Ev (st'.h.length - 2) w S μ w S' μ' := by
 unfold gnext at hs
 split at hs
 ·split at hs
  ·rename_i st1 h1
   obtain ⟨q1, q2, S', μ', q3, q4⟩ := gscope_ok h h1
   obtain ⟨p1, p2, μ2, p3, p4⟩ := gcol_ok q3 hs
   exact ⟨by omega, p2.trans q2, S', μ2, p3, (q4.level (by omega)).trans p4⟩
  ·cases hs
 ·obtain ⟨q1, q2, S', μ', q3, q4⟩ := gscope_ok h hs
  exact ⟨q1, q2, S', μ', q3, q4.level (by omega)⟩
theorem altKey_inj {j k k' : Nat} (h : altKey j k = altKey j k') : k = k' := by unfold altKey at h; omega
theorem altKey_sub (j k : Nat) : altKey j k - (j + 1) * 1000000000000 = k := by unfold altKey; omega
theorem altKey_le (j k : Nat) : (j + 1) * 1000000000000 ≤ altKey j k := by unfold altKey; omega
theorem allFree_get {H : Heap} {l j : Nat} : ∀ {ks : List Nat}, allFree H l j ks = true → ∀ k ∈ ks, H.get (l, altKey j k) = none
 | [], _, k, hk => by simp at hk
 | q :: r, h, k, hk => by
  simp only [allFree, Bool.and_eq_true] at h
  rcases List.mem_cons.1 hk with rfl | hk
  ·simpa using h.1
  ·exact allFree_get h.2 k hk
theorem allNew_get {H : Heap} {L : Nat} {f0 : Fr} : ∀ {ks : List Nat}, allNew H L f0 ks = true → ∀ k ∈ ks, H.get (L, k) = none ∧ noRefF (L, k) f0 = true
 | [], _, k, hk => by simp at hk
 | q :: r, h, k, hk => by
  simp only [allNew, Bool.and_eq_true] at h
  rcases List.mem_cons.1 hk with rfl | hk
  ·exact ⟨by simpa using h.1.1, h.1.2⟩
  ·exact allNew_get h.2 k hk
theorem insAll_spec {f0 : Fr} {l j : Nat} : ∀ (ks : List Nat) (H H' : Heap), ks.Nodup → l < H.length → insAll f0 l j ks H = some H' →
  H'.length = H.length ∧ (∀ k ∈ ks, ∃ es rows vf ro, f0.get k = some (.arr es rows vf ro) ∧ H'.get (l, altKey j k) = some (.arr es rows vf ro) ∧ altKey j k < tyBase) ∧ ∀ nm : Nm, (∀ k ∈ ks, nm ≠ (l, altKey j k)) → H'.get nm = H.get nm
 | [], H, H', _, _, h => by
  simp only [insAll, Option.some.injEq] at h; subst h
  exact ⟨rfl, fun k hk => by simp at hk, fun _ _ => rfl⟩
 | k :: ks, H, H', hn, hl, h => by
  obtain ⟨n1, n2⟩ := List.nodup_cons.1 hn
  simp only [insAll] at h
  split at h
  ·rename_i es rows vf ro h1
   split at h
   case isFalse => cases h
   rename_i hty
   obtain ⟨q1, q2, q3⟩ := insAll_spec ks _ H' n2 (by rw [Heap.length_set]; exact hl) h
   have hne : ∀ k' ∈ ks, ((l, altKey j k) : Nm) ≠ (l, altKey j k') := fun k' hk' e => by
    have := altKey_inj (Prod.mk.inj e).2
    subst this; exact n1 hk'
   refine ⟨q1.trans (Heap.length_set _ _ _), fun k' hk' => ?_, fun nm hnm => ?_⟩
   ·rcases List.mem_cons.1 hk' with rfl | hk'
    ·refine ⟨es, rows, vf, ro, h1, ?_⟩
     rw [q3 _ hne]
     exact ⟨Heap.get_set _ hl, by simpa [tyOk] using hty⟩
    ·exact q2 k' hk'
   ·rw [q3 nm fun k' hk' => hnm k' (List.mem_cons_of_mem _ hk')]
    exact Heap.get_set_other _ (hnm k (List.mem_cons_self ..))
  ·cases h
theorem lift1_rel {k L l j : Nat} {names : List Nat} (hlk : l ≤ k) (h1 : ∀ q t b, q ∈ names → μ (L, q) t = some b → μ' (l, altKey j q) t = some b) (h2 : ∀ nm t b, nm.1 ≠ L → μ nm t = some b → μ' nm t = some b) {v : Value} {g g' : GV}
  (h : VRel w S μ k v g) (hl : lift1 L l j g = some g') (hr : ∀ q ∈ refs1 L g, q ∈ names) : VRel w S μ' k v g' := by
 cases h with
 | pure v p h => simp only [lift1, Option.some.injEq] at hl; subst hl; exact .pure _ _ h
 | nils a => simp only [lift1, Option.some.injEq] at hl; subst hl; exact .nils a
 | hdr nm es top lo len cap b n e q1 q2 q3 q4 q5 q6 =>
  simp only [lift1] at hl
  split at hl
  ·rename_i e1
   simp only [Option.some.injEq] at hl; subst hl
   have e2 : nm = (L, nm.2) := Prod.ext e1 rfl
   refine .hdr _ es top lo len cap b n e hlk ?_ q3 q4 q5 q6
   rw [e2] at q2
   exact h1 _ _ _ (hr _ (by simp [refs1, e1])) q2
  ·rename_i e1
   simp only [Option.some.injEq] at hl; subst hl
   exact .hdr nm es top lo len cap b n e q1 (h2 _ _ _ e1 q2) q3 q4 q5 q6
 | _ => simp [lift1] at hl
theorem liftL_get {L l j : Nat} : ∀ {gs gs' : List GV}, liftL L l j gs = some gs' → gs'.length = gs.length ∧ ∀ i, i < gs.length → lift1 L l j (gs.getD i gdead) = some (gs'.getD i gdead)
 | [], gs', h => by simp only [liftL, Option.some.injEq] at h; subst h; exact ⟨rfl, fun i hi => by simp at hi⟩
 | g :: r, gs', h => by
  simp only [liftL] at h
  split at h
  ·rename_i g' r' h1 h2
   simp only [Option.some.injEq] at h; subst h
   obtain ⟨q1, q2⟩ := liftL_get h2
   refine ⟨by simp [q1], fun i hi => ?_⟩
   cases i with
   | zero => simpa using h1
   | succ i => simpa using q2 i (by simpa using hi)
  ·cases h
theorem lift_ok {H0 H1 H' : Heap} {b v1 v : GV} {u : Value} (hH : HRel w S μ H0) (hv : VRel w' S' μ' (H1.length - 1) u v1) (h1 : HRel w' S' μ' H1) (he : Ev (H0.length - 1) w S μ w' S' μ') (hl1 : H1.length = H0.length) (h : glift H0 b (v1, H1) = some (v, H')) :
  ∃ μ2, VRel w' S' μ2 (H'.length - 1) u v ∧ HRel w' S' μ2 H' ∧ Ev (H0.length - 1) w S μ w' S' μ2 ∧ H'.length = H0.length := by
 unfold glift at h
 split at h
 ·rename_i nm off f0 Hr hhd
  simp only at hhd
  subst hhd
  simp only at h
  generalize hks : dedup (refs Hr.length v1) = ks at h
  have hnd : ks.Nodup := hks ▸ nodup_dedup _
  generalize hj : (if allFree (f0 :: Hr) nm.1 0 ks then 0 else 1) = j at h
  split at h
  ·rename_i hc
   simp only [Bool.and_eq_true, decide_eq_true_eq] at hc
   obtain ⟨⟨⟨c1, c2⟩, c3⟩, c4⟩ := hc
   split at h
   ·rename_i v' H2 hlv hins
    simp only [Option.some.injEq, Prod.mk.injEq] at h
    obtain ⟨rfl, rfl⟩ := h
    generalize hl : nm.1 = l at *
    obtain ⟨q1, q2, q3⟩ := insAll_spec ks _ H2 hnd (by simp; omega) hins
    have hnew := fun k hk => (allNew_get c3 k hk)
    have hfree := fun k hk => allFree_get c4 k hk
    let isT : Nm → Prop := fun n => n.1 = l ∧ (j + 1) * 1000000000000 ≤ n.2 ∧ n.2 - (j + 1) * 1000000000000 ∈ ks
    let μ2 : Mu := fun n t => if n.1 = l ∧ (j + 1) * 1000000000000 ≤ n.2 ∧ n.2 - (j + 1) * 1000000000000 ∈ ks then μ' (Hr.length, n.2 - (j + 1) * 1000000000000) t else if n.1 = Hr.length ∧ n.2 ∈ ks then none else μ' n t
    have tgt : ∀ k t, k ∈ ks → μ2 (l, altKey j k) t = μ' (Hr.length, k) t := fun k t hk => by
     have hc : l = l ∧ (j + 1) * 1000000000000 ≤ altKey j k ∧ altKey j k - (j + 1) * 1000000000000 ∈ ks := ⟨rfl, altKey_le j k, by rw [altKey_sub]; exact hk⟩
     have e : μ2 (l, altKey j k) t = μ' (Hr.length, altKey j k - (j + 1) * 1000000000000) t := if_pos hc
     rw [e, altKey_sub]
    have tcase : ∀ n : Nm, (∃ k ∈ ks, n = (l, altKey j k)) ∨ ((∀ k ∈ ks, n ≠ (l, altKey j k)) ∧ ∀ t, μ2 n t = if n.1 = Hr.length ∧ n.2 ∈ ks then none else μ' n t) := fun n => by
     by_cases hc : n.1 = l ∧ (j + 1) * 1000000000000 ≤ n.2 ∧ n.2 - (j + 1) * 1000000000000 ∈ ks
     ·refine .inl ⟨_, hc.2.2, Prod.ext hc.1 ?_⟩
      have := hc.2.1
      simp only [altKey]; omega
     ·refine .inr ⟨fun k hk e => hc ?_, fun t => ?_⟩
      ·subst e; exact ⟨rfl, altKey_le j k, by rw [altKey_sub]; exact hk⟩
      ·simp only [μ2]; rw [if_neg hc]
    have hnt : ∀ n t b, μ' n t = some b → ∀ k ∈ ks, n ≠ (l, altKey j k) := fun n t b hb k hk e => by
     obtain ⟨x, hx⟩ := h1.bnd _ _ _ hb
     rw [e, hfree k hk] at hx; cases hx
    have up : ∀ n t b, ¬ (n.1 = Hr.length ∧ n.2 ∈ ks) → μ' n t = some b → μ2 n t = some b := fun n t b hn hb => by
     rcases tcase n with ⟨k, hk, e⟩ | ⟨_, e⟩
     ·exact absurd e (hnt n t b hb k hk)
     ·rw [e, if_neg hn]; exact hb
    have old : ∀ n t b, (∀ k ∈ ks, n ≠ (l, altKey j k)) → μ2 n t = some b → ¬ (n.1 = Hr.length ∧ n.2 ∈ ks) ∧ μ' n t = some b := fun n t b hn hb => by
     rcases tcase n with ⟨k, hk, e⟩ | ⟨_, e⟩
     ·exact absurd e (hn k hk)
     ·rw [e] at hb
      split at hb
      ·cases hb
      ·exact ⟨by assumption, hb⟩
    have hget : ∀ n : Nm, (∀ k ∈ ks, n ≠ (l, altKey j k)) → ¬ (n.1 = Hr.length ∧ n.2 ∈ ks) → H2.get n = Heap.get (f0 :: Hr) n := fun n hn hs => by
     rw [q3 n hn]
     simp only [get_cons]
     split
     ·rename_i hl'
      rw [get_delAll, if_neg fun hm => hs ⟨hl', hm⟩]
     ·rfl
    have hlen : H2.length = Hr.length + 1 := by simpa using q1
    have hL0 : H0.length = Hr.length + 1 := by simpa using hl1.symm
    refine ⟨μ2, ?_, ⟨fun n x hx t b hb => ?_, fun n t b hb => ?_, fun n n' t t' b g1 g2 => ?_, fun n t b hb => ?_, h1.slt, h1.glb⟩, ?_, by omega⟩
    ·rw [show H2.length - 1 = Hr.length by omega]
     have hv' : VRel w' S' μ' Hr.length u v1 := by simpa using hv
     have k1 : ∀ q t b, q ∈ ks → μ' (Hr.length, q) t = some b → μ2 (l, altKey j q) t = some b := fun q t b hq hb => by rw [tgt q t hq]; exact hb
     have k2 : ∀ n t b, n.1 ≠ Hr.length → μ' n t = some b → μ2 n t = some b := fun n t b hn hb => up n t b (fun h => hn h.1) hb
     have hin : ∀ q ∈ refs Hr.length v1, q ∈ ks := fun q hq => by rw [← hks]; exact (mem_dedup _).2 hq
     cases v1 with
     | agg l1 =>
      simp only [liftV] at hlv
      split at hlv
      ·rename_i cs hcs
       simp only [Option.some.injEq] at hlv; subst hlv
       obtain ⟨z1, z2⟩ := liftL_get hcs
       cases hv' with
       | agg vs _ g1 g2 g3 =>
        refine .agg vs cs (by omega) (fun i hi => g2 i (by omega)) fun i hi => ?_
        have hi' : i < l1.length := by omega
        refine lift1_rel (by omega) k1 k2 (g3 i hi') (z2 i hi') fun q hq => hin q ?_
        have e2 : l1.getD i gdead = l1[i] := by simp [List.getD_eq_getElem?_getD, hi']
        rw [e2] at hq
        exact List.mem_flatMap.2 ⟨l1[i], List.getElem_mem hi', hq⟩
      ·cases hlv
     | tuple l1 => simp [liftV, lift1] at hlv
     | func f a c => simp [liftV, lift1] at hlv
     | _ => exact lift1_rel (by omega) k1 k2 hv' (by simpa only [liftV] using hlv) (by simpa only [refs, refs2] using hin)
    ·rcases tcase n with ⟨k, hk, rfl⟩ | ⟨hn, _⟩
     ·obtain ⟨es, rows, vf, ro, x1, x2, x5⟩ := q2 k hk
      rw [x2] at hx; cases hx
      rw [tgt k t hk] at hb
      obtain ⟨z0, z1, z2, ⟨b0, z3⟩, z4⟩ := h1.blk (Hr.length, k) _ (by rw [get_cons, if_pos rfl]; exact x1) t b hb
      exact ⟨z0, z1, z2, ⟨b0, by rw [tgt k _ hk]; exact z3⟩, fun top b hb' => by
       obtain ⟨y1, ⟨c, e, y2⟩, y3⟩ := z4 top b (by rw [tgt k _ hk] at hb'; exact hb')
       exact ⟨y1, ⟨c, _, by rw [tyE_low (nm := (l, altKey j k)) x5]; exact y2⟩, y3⟩⟩
     ·obtain ⟨ns, hb'⟩ := old n t b hn hb
      rw [hget n hn ns] at hx
      have hx0 := h1.blk n x hx t b hb'
      have ho : ∀ t, μ2 n t = μ' n t := fun t => by
       rcases tcase n with ⟨k, hk, e⟩ | ⟨_, e⟩
       ·exact absurd e (hn k hk)
       ·rw [e, if_neg ns]
      let gone : List Nm := ks.map fun k => (Hr.length, k)
      have hgm : ∀ n : Nm, n ∉ gone → ¬ (n.1 = Hr.length ∧ n.2 ∈ ks) := fun n hn h => hn (List.mem_map.2 ⟨n.2, h.2, Prod.ext h.1.symm rfl⟩)
      by_cases hne : gone = []
      ·exact hx0.mono (fun _ h => h) (fun _ _ => rfl) (fun _ _ h => h) (fun n' t' b' _ hm => up _ _ _ (hgm _ (by rw [hne]; simp)) hm) ho (fun _ _ _ => rfl) (fun _ _ _ h => h)
      ·by_cases hl2 : n.1 = Hr.length
       ·refine hx0.forget (ks := gone) (fun n' t' b' _ hng hm => up _ _ _ (hgm _ hng) hm) ho (fun k hk => ?_) hne
        obtain ⟨q, hq, rfl⟩ := List.mem_map.1 hk
        rw [get_cons, if_pos hl2] at hx
        exact noRefF_get (hnew q hq).2 hx
       ·have hlt : n.1 < Hr.length := by
         rw [get_cons, if_neg hl2] at hx
         exact Heap.get_lt hx
        exact hx0.mono (fun _ h => h) (fun _ _ => rfl) (fun _ _ h => h) (fun n' t' b' hn' hm => up _ _ _ (fun h => by have := h.1; omega) hm) ho (fun _ _ _ => rfl) (fun _ _ _ h => h)
    ·rcases tcase n with ⟨k, hk, rfl⟩ | ⟨hn, _⟩
     ·obtain ⟨es, rows, vf, ro, x1, x2, x5⟩ := q2 k hk
      exact ⟨_, x2⟩
     ·obtain ⟨ns, hb'⟩ := old n t b hn hb
      obtain ⟨x, hx⟩ := h1.bnd _ _ _ hb'
      exact ⟨x, by rw [hget n hn ns]; exact hx⟩
    ·rcases tcase n with ⟨k, hk, rfl⟩ | ⟨hn, _⟩
     ·rw [tgt k t hk] at g1
      rcases tcase n' with ⟨k', hk', rfl⟩ | ⟨hn', _⟩
      ·rw [tgt k' t' hk'] at g2
       have := (Prod.mk.inj (h1.disj _ _ _ _ _ g1 g2)).2
       rw [this]
      ·obtain ⟨ns, g2'⟩ := old n' t' b hn' g2
       have := h1.disj _ _ _ _ _ g1 g2'
       exact absurd ⟨by rw [← this], by rw [← this]; exact hk⟩ ns
     ·obtain ⟨ns, g1'⟩ := old n t b hn g1
      rcases tcase n' with ⟨k', hk', rfl⟩ | ⟨hn', _⟩
      ·rw [tgt k' t' hk'] at g2
       have := h1.disj _ _ _ _ _ g1' g2
       exact absurd ⟨by rw [this], by rw [this]; exact hk'⟩ ns
      ·obtain ⟨_, g2'⟩ := old n' t' b hn' g2
       exact h1.disj _ _ _ _ _ g1' g2'
    ·rcases tcase n with ⟨k, hk, rfl⟩ | ⟨hn, _⟩
     ·rw [tgt k t hk] at hb; exact h1.lt _ _ _ hb
     ·exact h1.lt _ _ _ (old n t b hn hb).2
    ·refine ⟨he.os, he.tape, he.out, he.size, he.sub, he.same, he.shp, he.lp, fun n t b hnl hb => ?_, fun n t b hb hlt => ?_, he.snew⟩
     ·refine up n t b (fun hs => ?_) (he.mu n t b hnl hb)
      obtain ⟨x, hx⟩ := hH.bnd _ _ _ hb
      have := (hnew n.2 hs.2).1
      rw [show ((Hr.length, n.2) : Nm) = n from Prod.ext hs.1.symm rfl, hx] at this
      cases this
     ·rcases tcase n with ⟨k, hk, rfl⟩ | ⟨hn, _⟩
      ·rw [tgt k t hk] at hb
       exact he.own _ _ _ hb hlt
      ·exact he.own _ _ _ (old n t b hn hb).2 hlt
   ·cases h
  ·cases h
 ·cases h
theorem drop_name {f0 : Fr} {Hr : Heap} {q : Nat} (h : HRel w S μ (f0 :: Hr)) (hn : noRefF (Hr.length, q) f0 = true) :
  HRel w S (fun n t => if n = (Hr.length, q) then none else μ n t) (delAll [q] f0 :: Hr) := by
 have hup : ∀ n t b, n ≠ (Hr.length, q) → μ n t = some b → (fun n t => if n = ((Hr.length, q) : Nm) then none else μ n t) n t = some b := fun n t b hne hb => by
  simp only [if_neg hne]; exact hb
 have hdn : ∀ n t b, (fun n t => if n = ((Hr.length, q) : Nm) then none else μ n t) n t = some b → n ≠ (Hr.length, q) ∧ μ n t = some b := fun n t b hb => by
  by_cases e : n = (Hr.length, q)
  ·simp [e] at hb
  ·simp only [if_neg e] at hb; exact ⟨e, hb⟩
 have hget : ∀ n : Nm, n ≠ (Hr.length, q) → Heap.get (delAll [q] f0 :: Hr) n = Heap.get (f0 :: Hr) n := fun n hne => by
  simp only [get_cons]
  split
  ·rename_i hl
   rw [get_delAll, if_neg]
   simp only [List.mem_singleton]
   intro e; exact hne (Prod.ext hl e)
  ·rfl
 refine ⟨fun n x hx t b hb => ?_, fun n t b hb => ?_, fun n n' t t' b h1 h2 => ?_, fun n t b hb => ?_, h.slt, h.glb⟩
 ·obtain ⟨hne, hb⟩ := hdn n t b hb
  rw [hget n hne] at hx
  have hx0 := h.blk n x hx t b hb
  by_cases hl : n.1 = Hr.length
  ·refine hx0.forget (ks := [(Hr.length, q)]) (fun n' t' b' _ hng hm => hup _ _ _ (by simpa using hng) hm) (fun t => if_neg hne) (fun k hk => ?_) (by simp)
   simp only [List.mem_singleton] at hk
   subst hk
   rw [get_cons, if_pos hl] at hx
   exact noRefF_get hn hx
  ·have hlt : n.1 < Hr.length := by
    rw [get_cons, if_neg hl] at hx
    exact Heap.get_lt hx
   refine BlkRel.mono (nm := n) (fun _ h => h) (fun _ _ => rfl) (fun _ _ h => h) (fun n' t' b' hn' hm => hup n' t' b' (fun e => ?_) hm) (fun t => if_neg hne) (fun _ _ _ => rfl) (fun _ _ _ h => h) hx0
   subst e
   have : Hr.length ≤ n.1 := hn'
   omega
 ·obtain ⟨hne, hb⟩ := hdn n t b hb
  obtain ⟨y, hy⟩ := h.bnd _ _ _ hb
  exact ⟨y, by rw [hget n hne]; exact hy⟩
 ·exact h.disj _ _ _ _ _ (hdn _ _ _ h1).2 (hdn _ _ _ h2).2
 ·exact h.lt _ _ _ (hdn _ _ _ hb).2
theorem adopt {nm : Nm} {top b : Nat} {x : Blk} (hH : HRel w S μ H) (hl : nm.1 < H.length) (hno : ∀ n t, μ n t ≠ some b) (hb : b < w.heap.size) (hS : ¬ S b) (hx : BlkRel w S (μ.upd nm top b) nm x) (hnew : ∀ b', μ nm top ≠ some b') :
  HRel w S (μ.upd nm top b) (H.set nm x) := by
 have hcase : ∀ n t b', μ.upd nm top b n t = some b' → (n = nm ∧ t = top ∧ b' = b) ∨ (μ n t = some b' ∧ b' ≠ b) := fun n t b' h => by
  by_cases e : n = nm ∧ t = top
  ·obtain ⟨rfl, rfl⟩ := e
   rw [Mu.upd_self] at h; cases h; exact .inl ⟨rfl, rfl, rfl⟩
  ·have h2 : μ.upd nm top b n t = μ n t := by unfold Mu.upd; rw [if_neg e]
   rw [h2] at h
   exact .inr ⟨h, fun e2 => hno n t (e2 ▸ h)⟩
 have hmm : ∀ n t b', μ n t = some b' → μ.upd nm top b n t = some b' := fun n t b' h => by
  by_cases e : n = nm ∧ t = top
  ·obtain ⟨rfl, rfl⟩ := e; exact absurd h (hnew _)
  ·unfold Mu.upd; rw [if_neg e]; exact h
 refine ⟨fun n y hy t b' hb' => ?_, fun n t b' hb' => ?_, fun n n' t t' b' h1 h2 => ?_, fun n t b' hb' => ?_, hH.slt, hH.glb⟩
 ·by_cases e : n = nm
  ·subst e
   rw [Heap.get_set _ hl] at hy
   cases hy; exact hx
  ·rw [Heap.get_set_other _ e] at hy
   rw [Mu.upd_other μ _ _ _ e] at hb'
   exact (hH.blk n y hy t b' hb').mono (fun _ h => h) (fun _ _ => rfl) (fun _ _ h => h) (fun n t b _ h => hmm n t b h) (fun t => Mu.upd_other μ _ _ _ e) (fun _ _ _ => rfl) (fun _ _ _ h => h)
 ·by_cases e : n = nm
  ·subst e; exact ⟨x, Heap.get_set _ hl⟩
  ·rw [Mu.upd_other μ _ _ _ e] at hb'
   obtain ⟨y, hy⟩ := hH.bnd _ _ _ hb'
   exact ⟨y, by rw [Heap.get_set_other _ e]; exact hy⟩
 ·rcases hcase _ _ _ h1 with ⟨rfl, rfl, e1⟩ | ⟨g1, e1⟩
  ·rcases hcase _ _ _ h2 with ⟨e2, _, _⟩ | ⟨g2, e2⟩
   ·exact e2.symm
   ·exact absurd e1 e2
  ·rcases hcase _ _ _ h2 with ⟨_, _, e2⟩ | ⟨g2, e2⟩
   ·exact absurd e2 e1
   ·exact hH.disj _ _ _ _ _ g1 g2
 ·rcases hcase _ _ _ hb' with ⟨_, _, rfl⟩ | ⟨g, _⟩
  ·exact hb
  ·exact hH.lt _ _ _ g
theorem liftRow_ok {H0 H1 H' : Heap} {b v1 v : GV} {u vb : Value} {key : Nat} (hH : HRel w S μ H0) (hvb : VRel w S μ (H0.length - 1) vb b) (hv : VRel w' S' μ' (H1.length - 1) u v1) (h1 : HRel w' S' μ' H1) (he : Ev (H0.length - 1) w S μ w' S' μ') (hl1 : H1.length = H0.length)
  (h : gliftRow H0 b key (v1, H1) = some (v, H')) :
  ∃ μ2, VRel w' S' μ2 (H'.length - 1) u v ∧ HRel w' S' μ2 H' ∧ Ev (H0.length - 1) w S μ w' S' μ2 ∧ H'.length = H0.length := by
 unfold gliftRow at h
 split at h
 ·rename_i nm off nm2 es top lo len f0 Hr hv1 hhd
  simp only at hhd hv1
  subst hhd; subst hv1
  split at h
  ·rename_i hc
   simp only [Bool.and_eq_true, decide_eq_true_eq] at hc
   obtain ⟨⟨⟨c1, c2⟩, c3⟩, c4⟩ := hc
   obtain ⟨k1, k2⟩ := allNew_get c4 nm2.2 (by simp)
   have enm : nm2 = (Hr.length, nm2.2) := Prod.ext c1 rfl
   split at h
   ·rename_i es' elems vf hg
    split at h
    ·rename_i hcond
     obtain ⟨rfl, hvf, rfl, rfl, rfl, hpos0⟩ := hcond
     split at h
     ·rename_i i H2 hadd
      simp only [Option.some.injEq, Prod.mk.injEq] at h
      obtain ⟨rfl, rfl⟩ := h
      cases hv with
      | hdr _ _ _ _ _ cap b n e p1 p2 p3 p4 p5 p6 =>
      have hga : Heap.get (f0 :: Hr) nm2 = some (.arr es' elems vf false) := by rw [get_cons, if_pos c1]; exact hg
      obtain ⟨g0, g1, g2, g3, g4⟩ := h1.blk _ _ hga _ _ p2
      obtain ⟨t1, t2, t3, t4⟩ := g4 _ b p2
      have t5 := (t4 hvf).2
      have hrr : RowRel w' S' b es' elems := ⟨(by obtain ⟨c, e, t2⟩ := t2; exact ⟨c, _, t2⟩), t3 rfl, t5⟩
      have hd := drop_name (q := nm2.2) h1 k2
      let μ1 : Mu := fun n t => if n = ((Hr.length, nm2.2) : Nm) then none else μ' n t
      have hd : HRel w' S' μ1 (delAll [nm2.2] f0 :: Hr) := hd
      have hmu1 : ∀ n t b, n.1 ≤ H0.length - 1 → μ n t = some b → μ1 n t = some b := fun n t b hn hb => by
       have hne : n ≠ (Hr.length, nm2.2) := fun e => by
        obtain ⟨y, hy⟩ := hH.bnd _ _ _ hb
        rw [e, k1] at hy; cases hy
       show (if n = ((Hr.length, nm2.2) : Nm) then none else μ' n t) = some b
       rw [if_neg hne]; exact he.mu n t b hn hb
      have hvb1 : VRel w' S' μ1 (H0.length - 1) vb (.bptr nm off) := hvb.mono he.sub (fun b hb => he.same b (hH.slt b hb) (.inl hb)) he.shp (fun n t b hn hb => hmu1 n t b hn hb) (Nat.le_refl _)
      obtain ⟨rows, n', hl, rfl, m, rfl⟩ := addRow_some g0 hd hvb1 hadd
      have hno : ∀ n t, μ1 n t ≠ some b := fun n t hb => by
       by_cases e : n = (Hr.length, nm2.2)
       ·simp [μ1, e] at hb
       ·simp only [μ1, if_neg e] at hb
        exact e ((h1.disj _ _ _ _ _ hb p2).trans enm)
      have hbl : b < w'.heap.size := h1.lt _ _ _ p2
      have had := adopt (nm := (nm.1, key)) (top := rix rows.length) (x := .mat es' (rows ++ [elems]) n') hd hl hno hbl (t3 rfl) (m.push (hno _) hrr g1) (fun b' hb' => by have := m.bnd _ _ hb'; omega)
      refine ⟨_, ?_, had, ?_, ?_⟩
      ·rw [Nat.zero_mul]
       exact .rhdr _ es' _ _ cap b (by rw [Heap.length_set]; simp at hl ⊢; omega) (Mu.upd_self _ _ _ _) (by omega)
      ·refine ⟨he.os, he.tape, he.out, he.size, he.sub, he.same, he.shp, he.lp, fun n t b' hn hb' => ?_, fun n t b' hb' hs => ?_, he.snew⟩
       ·have := hmu1 n t b' hn hb'
        by_cases e : n = (nm.1, key) ∧ t = rix rows.length
        ·obtain ⟨rfl, rfl⟩ := e
         have := m.bnd _ _ this; omega
        ·unfold Mu.upd; rw [if_neg e]; exact this
       ·by_cases e : n = (nm.1, key) ∧ t = rix rows.length
        ·obtain ⟨rfl, rfl⟩ := e
         rw [Mu.upd_self] at hb'; cases hb'
         exact he.own _ _ _ p2 hs
        ·have h2 : μ1.upd (nm.1, key) (rix rows.length) b n t = μ1 n t := by unfold Mu.upd; rw [if_neg e]
         rw [h2] at hb'
         by_cases e2 : n = (Hr.length, nm2.2)
         ·simp [μ1, e2] at hb'
         ·simp only [μ1, if_neg e2] at hb'
          exact he.own _ _ _ hb' hs
      ·rw [Heap.length_set]; simp at hl1 ⊢; omega
     ·cases h
    ·cases h
   ·cases h
  ·cases h
 ·cases h
end
end
section
section
variable {w w' : World} {S S' : Nat → Prop} {μ μ' : Mu} {H : Heap} {P : Program} {ℓ base : Nat} {r : Option Nat}
theorem gcallF_ok (K : Ctx) (hK : CtxOk K) {rec : Rec} (hrec : RecOk K.P rec) {f : GV} {fv : Value} {args : List GV} {c : Nat} {H' : Heap} {v : GV} (h : gcallF K rec f args c H = some (v, H')) (hf : VRel w S μ (H.length - 1) fv f)
  {vs : Array Value} (hH : HRel w S μ H) (hvs : vs.size = args.length) (hrel : ∀ j, j < args.length → VRel w S μ (H.length - 1) (vs.getD j undef) (args.getD j gdead)) :
  ∃ d f' args', (Deferred.ofValue fv vs).run K.P w = .ok d w ∧ (invoke d.target d.args).run K.P w = .ok (.enter f' args') w ∧ CallsIn (Fw none) 0 K.P f' args' w (Done (H.length - 1) H.length w S μ v H') := by
 unfold gcallF at h
 split at h
 ·rename_i f'
  have := hf.pv
  cases this
  obtain ⟨h1, h2⟩ := call_ok K hK hrec h hH hvs hrel
  exact ⟨{ target := .fn (.func f') #[], args := #[] ++ vs }, f', vs, rfl, by simp only [invoke, Array.empty_append, Array.append_empty]; exact h1, h2⟩
 ·rename_i f' first cap
  cases hf with
  | func _ a cc _ _ e1 e2 e3 e4 =>
  obtain ⟨h1, h2⟩ := call_ok K hK hrec h (vs := (a ++ vs) ++ cc) hH (by simp [e1, e2, hvs]) (fun j hj => by
   simp only [List.length_append] at hj
   have e : ((a ++ vs) ++ cc).getD j undef = if j < a.size then a.getD j undef else if j < a.size + vs.size then vs.getD (j - a.size) undef else cc.getD (j - (a.size + vs.size)) undef := by
    simp only [Array.getD_eq_getD_getElem?, Array.getElem?_append, Array.size_append]
    by_cases c1 : j < a.size
    ·simp [c1, show j < a.size + vs.size by omega]
    ·by_cases c2 : j < a.size + vs.size
     ·simp [c1, c2]
     ·simp [c1, c2]
   have e' : (first ++ args ++ cap).getD j gdead = if j < first.length then first.getD j gdead else if j < first.length + args.length then args.getD (j - first.length) gdead else cap.getD (j - (first.length + args.length)) gdead := by
    simp only [List.getD_eq_getElem?_getD, List.getElem?_append, List.length_append]
    by_cases c1 : j < first.length
    ·simp [c1, show j < first.length + args.length by omega]
    ·by_cases c2 : j < first.length + args.length
     ·simp [c1, c2]
     ·simp [c1, c2]
   rw [e, e', e1, hvs]
   split
   ·exact e3 j (by omega)
   ·split
    ·exact hrel _ (by omega)
    ·exact e4 _ (by omega))
  exact ⟨{ target := .fn (.func f') cc, args := a ++ vs }, f', (a ++ vs) ++ cc, rfl, by simp only [invoke]; exact h1, h2⟩
 ·cases h
theorem upon_done {o : Oper} {a : Act} {f : FuncId} {args : Array Value} {v : GV} {H' : Heap} {next : Act → World → Prop} {Q : Exit → Act → World → Prop} (hc : CallsIn (Fw none) 0 P f args w (Done (H.length - 1) H.length w S μ v H'))
  (hn : ∀ u w' S' μ', VRel w' S' μ' (H'.length - 1) u v → HRel w' S' μ' H' → Ev (H.length - 1) w S μ w' S' μ' → H'.length = H.length → next (a.put o.dst u) w') :
  o.uponIn (Fw r) 0 P a next Q (.ok (.enter f args) w) := by
 rw [Oper.uponIn_enter]
 refine ⟨fun h => (by cases h), CallsIn.fw (CallsIn.mono hc fun e w' hd => ?_)⟩
 obtain ⟨u, S', μ', rfl, h1, h2, h3, h4⟩ := hd
 exact hn u w' S' μ' h1 h2 h3 h4
theorem upon_round {o : Oper} {a : Act} {b : Nat} {f : FuncId} {tmps : Array Value} {assign body : Code} {v : GV} {H' : Heap} {next : Act → World → Prop} {Q : Exit → Act → World → Prop}
  (hc : RoundIn (Fw r) 0 P b f tmps assign body w (Done (H.length - 1) H.length w S μ v H'))
  (hn : ∀ u w' S' μ', VRel w' S' μ' (H'.length - 1) u v → HRel w' S' μ' H' → Ev (H.length - 1) w S μ w' S' μ' → H'.length = H.length → next (a.put o.dst u) w') :
  o.uponIn (Fw r) 0 P a next Q (.ok (.round b f tmps assign body) w) := by
 rw [Oper.uponIn_round]
 refine ⟨fun h => (by cases h), hc.mono fun e w' hd => ?_⟩
 obtain ⟨u, S', μ', rfl, h1, h2, h3, h4⟩ := hd
 exact hn u w' S' μ' h1 h2 h3 h4
theorem step_ok (K : Ctx) (hK : CtxOk K) {rec : Rec} (hrec : RecOk K.P rec) {fn : FuncId} {o : Oper} {a : Act} {s : Slots} {v : GV} {H' : Heap} (hH : HRel w S μ H) (hp : 0 < H.length)
  (hs : ∀ t, VRel w S μ (H.length - 1) (a.tmps.getD t undef) (look s t)) (h : gstep K rec fn o s H = some (v, H')) {next : Act → World → Prop} {Q : Exit → Act → World → Prop}
  (hn : ∀ u w' S' μ', VRel w' S' μ' (H'.length - 1) u v → HRel w' S' μ' H' → Ev (H.length - 1) w S μ w' S' μ' → H'.length = H.length → next (a.put o.dst u) w') :
  o.wpIn (Fw r) 0 K.P a w next Q := by
 refine ⟨fun _ _ => trivial, ?_⟩
 unfold gstep at h
 split at h
 ·rename_i f args hgo
  obtain ⟨dst, op, type, pos, after, guard⟩ := o
  unfold goCalls at hgo
  simp only at hgo
  split at hgo
  ·rename_i f0 args0 ats
   simp only [Option.some.injEq, Prod.mk.injEq] at hgo
   obtain ⟨rfl, rfl⟩ := hgo
   rw [Oper.semAt_eq _ _ _ (fun c => by simp)]
   have hfv := ev_rel hH.glb hs f0
   obtain ⟨g1, g2⟩ := evs_rel hH.glb hs args0
   have core : ∀ (v1 : GV) (H1 : Heap), gcallee K rec (ev s f0) (args0.toList.map (ev s)) (dst.getD 0) H = some (v1, H1) →
     (∀ u w' S' μ', VRel w' S' μ' (H1.length - 1) u v1 → HRel w' S' μ' H1 → Ev (H.length - 1) w S μ w' S' μ' → H1.length = H.length → next (a.put dst u) w') →
     Oper.uponIn (Fw r) 0 K.P { dst := dst, op := .call { callee := .value f0, args := args0, argTypes := ats }, type := type, pos := pos, after := after, guard := guard } a next Q
      ((execOp a.eval { dst := dst, op := .call { callee := .value f0, args := args0, argTypes := ats }, type := type, pos := pos, after := after, guard := guard }).run K.P w) := by
    clear h hn
    intro v1 H1 h hn
    unfold gcallee at h
    split at h
    ·rename_i nm hev
     rw [hev] at hfv
     generalize hfe : a.eval f0 = fv at hfv
     cases hfv with
     | yield _ b hl hm =>
     obtain ⟨q, r1, r2, r3⟩ := round_ok (r := r) hrec h hH rfl hp hm (vs := args0.map a.eval) g1 g2
     have hrun : (execOp a.eval { dst := dst, op := .call { callee := .value f0, args := args0, argTypes := ats }, type := type, pos := pos, after := after, guard := guard }).run K.P w
       = .ok (.round b q.fn ((q.params.zip (args0.map a.eval)).foldl (fun tmps (t, a) => tmps.setIfInBounds t a) q.tmps) q.assign q.body) w := by
      simp only [execOp, resolve, hfe, Deferred.ofValue, Sem.run_bind, Sem.run_pure, Result.andThen_ok, invoke, Array.empty_append]
      exact run_yield r1 r2
     rw [hrun]
     exact upon_round r3 hn
    ·obtain ⟨d, f', args', r1, r2, r3⟩ := gcallF_ok K hK hrec h hfv hH (vs := args0.map a.eval) g1 g2
     have hrun : (execOp a.eval { dst := dst, op := .call { callee := .value f0, args := args0, argTypes := ats }, type := type, pos := pos, after := after, guard := guard }).run K.P w
       = .ok (.enter f' args') w := by
      simp only [execOp, resolve, Sem.run_bind, r1, Result.andThen_ok, r2]
     rw [hrun]
     exact upon_done r3 hn
   simp only at h
   split at h
   ·exact core _ _ h hn
   ·split at h
    ·rename_i x hx
     obtain ⟨v1, H1⟩ := x
     refine core _ _ hx fun u w' S' μ' k1 k2 k3 k4 => ?_
     split at h
     ·obtain ⟨μ2, z1, z2, z3, z4⟩ := lift_ok hH k1 k2 k3 k4 h
      exact hn u w' S' μ2 z1 z2 z3 z4
     ·rename_i tb _ _ _ _ _
      obtain ⟨μ2, z1, z2, z3, z4⟩ := liftRow_ok hH (hs tb) k1 k2 k3 k4 h
      exact hn u w' S' μ2 z1 z2 z3 z4
    ·cases h
  ·cases hgo
 ·rename_i hgo
  have hok := gop_sound (ℓ := H.length - 1) K hK hH hs hgo h
  rw [Oper.semAt_eq _ _ _ (fun c e => by unfold gop at h; rw [e] at h; cases h)]
  obtain ⟨nx, u, w', S', μ', hr, hnx, hv, hh, he, hl⟩ := hok
  rw [hr]
  rcases hnx with rfl | ⟨rfl, rfl⟩
  ·rw [Oper.uponIn_value]; exact hn u w' S' μ' hv hh he hl
  ·rw [Oper.uponIn_skip]; exact hn undef w' S' μ' hv hh he hl
theorem gops_ok (K : Ctx) (hK : CtxOk K) {rec : Rec} (hrec : RecOk K.P rec) {fn : FuncId} {ops : Array Oper} {Q : Exit → Act → World → Prop} {st' : GSt} :
  ∀ (rest : List Oper) (i : Nat) (st : GSt) (a : Act) (w : World) (S : Nat → Prop) (μ : Mu), ops.toList.drop i = rest → gops K rec fn ops.toList rest st = some st' → StOk base r w S μ st a →
  (∀ a' w' S' μ', StOk base r w' S' μ' st' a' → Ev (st.h.length - 1) w S μ w' S' μ' → st'.h.length = st.h.length → st'.nt = st.nt → Q .normal a' w') →
  wpOpsIn (Fw r) 0 K.P ops Q (List.range' i rest.length) a w
 | [], i, st, a, w, S, μ, hd, h, hst, hq => by
  simp only [gops, Option.some.injEq] at h; subst h
  exact hq a w S μ hst (.refl _ _ _ _) rfl rfl
 | o :: rest, i, st, a, w, S, μ, hd, h, hst, hq => by
  have hi : ops[i]? = some o := by
   have : (ops.toList.drop i)[0]? = some o := by rw [hd]; rfl
   rw [List.getElem?_drop] at this
   simpa using this
  have hd' : ops.toList.drop (i + 1) = rest := by
   have : (ops.toList.drop i).drop 1 = rest := by rw [hd]; rfl
   rwa [List.drop_drop] at this
  rw [List.length_cons, List.range'_succ]
  simp only [wpOpsIn, hi]
  simp only [gops] at h
  split at h
  ·rename_i hw
   have hwant := wanted_ok hst.slots hw
   simp only [Array.toArray_toList] at hwant
   rw [hwant]
   simp only [Bool.false_eq_true, if_false]
   refine ⟨fun _ _ => trivial, ?_⟩
   split at h
   ·rename_i st1 hput
    obtain ⟨p1, p2, p3, p4, p5⟩ := put_slots hst.slots hst.nt undef_rel rfl rfl hput
    refine gops_ok K hK hrec rest (i + 1) st1 _ w S μ hd' h ⟨p4 ▸ hst.heap, fun t => by rw [p4]; exact p1 t, by rw [p2, p3], p4 ▸ hst.pos, hst.low, p5 ▸ hst.defs, hst.round⟩ fun a' w' S' μ' q1 q2 q3 q4 => ?_
    rw [p4] at q2 q3
    exact hq a' w' S' μ' q1 q2 q3 (q4.trans p3)
   ·cases h
  ·rename_i hw
   have hwant := wanted_ok hst.slots hw
   simp only [Array.toArray_toList] at hwant
   rw [hwant]
   simp only [if_true]
   split at h
   ·rename_i v H1 hstep
    split at h
    ·rename_i st1 hput
     refine step_ok K hK hrec hst.heap hst.pos hst.slots hstep fun u w' S' μ' hv hh he hl => ?_
     have hs' : ∀ t, VRel w' S' μ' (H1.length - 1) (a.tmps.getD t undef) (look st.s t) := by
      rw [hl]; exact slots_ev hst.slots hst.heap he (Nat.le_refl _) (Nat.le_refl _)
     obtain ⟨p1, p2, p3, p4, p5⟩ := put_slots (st := { st with h := H1 }) hs' hst.nt hv rfl rfl hput
     simp only at p4
     refine gops_ok K hK hrec rest (i + 1) st1 _ w' S' μ' hd' h ⟨p4 ▸ hh, fun t => by rw [p4]; exact p1 t, by rw [p2, p3], by rw [p4, hl]; exact hst.pos, Nat.le_trans hst.low he.size, p5 ▸ hst.defs.ev he, round_ev hst.round he⟩
      fun a' w'' S'' μ'' q1 q2 q3 q4 => ?_
     rw [p4, hl] at q2 q3
     exact hq a' w'' S'' μ'' q1 (he.trans q2) q3 (q4.trans p3)
    ·cases h
   ·cases h
  ·cases h
end
end
section
theorem least {p : Nat → Prop} (h : ∃ m, p m) : ∃ m, p m ∧ ∀ k, p k → m ≤ k := by
 obtain ⟨m, hm⟩ := h
 induction m using Nat.strongRecOn with
 | _ m ih =>
  by_cases hx : ∃ k, k < m ∧ p k
  ·obtain ⟨k, hk, hpk⟩ := hx
   exact ih k hk hpk
  ·exact ⟨m, hm, fun k hk => Nat.le_of_not_lt fun hlt => hx ⟨k, hlt, hk⟩⟩
section
variable {F : Fence} {n : Nat} {P : Program} {Q : Exit → Act → World → Prop} {a : Act} {w : World}
theorem stepR_scope {b : Frame} {k : List Item} {cs : List Frame} {c : Code} : step P (lone (b.atR a (.code (.scope c) :: k)) cs w) = .next (lone (b.atR a (.code c :: .inScope c :: k)) cs w) :=
 step_lone_go (by simp [stepG, stepG.exec, Frame.atR])
theorem stepR_inScope {b : Frame} {k : List Item} {cs : List Frame} {c : Code} : step P (lone (b.atR a (.inScope c :: k)) cs w) = .next (lone (b.atR a k) cs w) :=
 step_lone_go (by simp [stepG, stepG.exec, Frame.atR])
theorem wpIn_scope {c : Code} (hg : ∀ l a w, ¬ Q (.goto l) a w) (h : c.wpIn F n P Q a w) : (Code.scope c).wpIn F n P Q a w := by
 intro b k cs hro hb hr
 have h0 : (lone (b.atR a (.code (.scope c) :: k)) cs w).fenced P F := fenced_calm hb hr rfl
 obtain ⟨e, a₁, w₁, hq, harr⟩ := h b (.inScope c :: k) cs hro hb hr
 cases e with
 | normal => exact ⟨.normal, a₁, w₁, hq, .head h0 stepR_scope (StepsIn.trans harr (.one (fenced_calm hb hr rfl) stepR_inScope))⟩
 | exit id' =>
  have hx : exitTo id' (.inScope c :: k) = exitTo id' k := by simp [exitTo]
  exact ⟨.exit id', a₁, w₁, hq, fun k' hk => .head h0 stepR_scope (harr.1 k' (by rw [hx]; exact hk)),
   fun hr' hk => let ⟨k₁, h1, h2⟩ := harr.2 hr' (by rw [hx]; exact hk); ⟨k₁, h1, .head h0 stepR_scope h2⟩⟩
 | goto l => exact absurd hq (hg _ _ _)
 | ret => exact ⟨_, a₁, w₁, hq, .of_steps (.one h0 stepR_scope) harr⟩
 | panic ch => exact ⟨_, a₁, w₁, hq, .of_steps (.one h0 stepR_scope) harr⟩
 | outgrown => exact ⟨_, a₁, w₁, hq, .of_steps (.one h0 stepR_scope) harr⟩
end
def DrawRule (K : Ctx) : Prop := ∀ rec, RecOk K.P rec → ∀ fn id ops st e st', gbody K rec fn (.region id ops true) st = some (e, st') → ∀ base r w S μ a, StOk base r w S μ st a →
 (Code.region id ops true).wpIn (Fw r) 0 K.P (Post base r st w S μ e st') a w
section
variable {w w1 : World} {S S1 : Nat → Prop} {μ μ1 : Mu} {base : Nat} {r : Option Nat} {st st1 st' : GSt} {a a1 : Act} {e : GX}
theorem Post.of {e' : Exit} (he : Ev (st.h.length - 2) w S μ w1 S1 μ1) (hl : st1.h.length = st.h.length) (hn : st1.nt = st.nt) {a' : Act} {w' : World} (h : Post base r st1 w1 S1 μ1 e st' e' a' w') : Post base r st w S μ e st' e' a' w' := by
 obtain ⟨q1, q2, q3, S', μ', q4, q5⟩ := h
 rw [hl] at q5
 exact ⟨q1, q2.trans hl, q3.trans hn, S', μ', q4, he.trans q5⟩
theorem Post.refl (h : StOk base r w S μ st a) : Post base r st w S μ e st (exitOf e) a w := ⟨rfl, rfl, rfl, S, μ, h, .refl _ _ _ _⟩
theorem StOk.push (h : StOk base r w S μ st a) (ks : Option (List Nat)) : StOk base r w S μ { st with s := keepO ks st.s, h := [] :: st.h } a :=
 ⟨h.heap.push, fun t => by
  have hp := h.pos
  have : ∀ t, VRel w S μ (st.h.length - 1) (a.tmps.getD t undef) (look (keepO ks st.s) t) := by
   intro t
   cases ks with
   | none => exact h.slots t
   | some l => exact keep_slots h.slots l t
  exact (this t).up (by simp), h.nt, by simp, h.low, h.defs, h.round⟩
theorem loop_ok (K : Ctx) {n : Nat} (ih : ∀ m, m ≤ n → RecOk K.P (gexec K m)) {fn : FuncId} {c : Code} (h : gexec K (n + 1) fn (.loop c) st = some (e, st')) (hst : StOk base r w S μ st a) :
  (Code.loop c).wpIn (Fw r) 0 K.P (Post base r st w S μ e st') a w := by
 let p : Act → World → Nat → Prop := fun a1 w1 m => m ≤ n + 1 ∧ ∃ st1 S1 μ1, gexec K m fn (.loop c) st1 = some (e, st') ∧ StOk base r w1 S1 μ1 st1 a1 ∧ Ev (st.h.length - 2) w S μ w1 S1 μ1 ∧ st1.h.length = st.h.length ∧ st1.nt = st.nt
 have hmin : ∀ a1 w1, (∃ m, p a1 w1 m) → ∃ m, p a1 w1 m ∧ ∀ k, p a1 w1 k → m ≤ k := fun a1 w1 h => least h
 classical
 let meas : Act → World → Nat := fun a1 w1 => if hx : ∃ m, p a1 w1 m then Classical.choose (hmin a1 w1 hx) else 0
 have hmeas : ∀ a1 w1, (hx : ∃ m, p a1 w1 m) → p a1 w1 (meas a1 w1) ∧ ∀ k, p a1 w1 k → meas a1 w1 ≤ k := fun a1 w1 hx => by
  have := Classical.choose_spec (hmin a1 w1 hx)
  simp only [meas, dif_pos hx]
  exact this
 refine wpIn_loop (fun a1 w1 => ∃ m, p a1 w1 m) meas ⟨n + 1, Nat.le_refl _, st, S, μ, h, hst, .refl _ _ _ _, rfl, rfl⟩ fun a1 w1 hI => ?_
 obtain ⟨hp, _⟩ := hmeas a1 w1 hI
 generalize hm0 : meas a1 w1 = m at hp
 obtain ⟨hle, st1, S1, μ1, hg, hst1, hev, hl, hnt⟩ := hp
 cases m with
 | zero => simp [gexec] at hg
 | succ m =>
  have hg' : gbody K (gexec K m) fn (.loop c) st1 = some (e, st') := hg
  simp only [gbody] at hg'
  have hrec := ih m (by omega)
  split at hg'
  ·rename_i st2 hc
   split at hg'
   ·rename_i st3 hsc
    have hwp := hrec fn c _ _ _ hc base r w1 S1 μ1 a1 (hst1.push _)
    refine wpIn_mono hwp fun e' a2 w2 hq => ?_
    obtain ⟨q1, q2, q3, S2, μ2, q4, q5⟩ := hq
    simp only [exitOf] at q1; subst q1
    simp only [List.length_cons, Nat.add_sub_cancel] at q2 q5
    simp only [Exit.then]
    obtain ⟨s1, s2, S3, μ3, s3, s4⟩ := gnext_ok K q4 hsc
    have hpp : p a2 w2 m := ⟨by omega, st3, S3, μ3, hg', s3, (hev.trans (q5.level (by omega))).trans (s4.level (by omega)), by omega, by rw [s2, q3]; exact hnt⟩
    obtain ⟨_, hm2⟩ := hmeas a2 w2 ⟨m, hpp⟩
    exact ⟨⟨m, hpp⟩, Nat.lt_of_le_of_lt (hm2 m hpp) (by omega)⟩
   ·cases hg'
  ·rename_i e2 st2 hne hc
   split at hg'
   ·rename_i st3 hsc
    simp only [Option.some.injEq, Prod.mk.injEq] at hg'
    obtain ⟨rfl, rfl⟩ := hg'
    have hwp := hrec fn c _ _ _ hc base r w1 S1 μ1 a1 (hst1.push _)
    refine wpIn_mono hwp fun e' a2 w2 hq => ?_
    obtain ⟨q1, q2, q3, S2, μ2, q4, q5⟩ := hq
    simp only [List.length_cons, Nat.add_sub_cancel] at q2 q5
    obtain ⟨s1, s2, S3, μ3, s3, s4⟩ := gscope_ok q4 hsc
    have hpost : Post base r st w S μ e2 st3 e' a2 w2 := ⟨q1, by omega, by rw [s2, q3]; exact hnt, S3, μ3, s3, (hev.trans (q5.level (by omega))).trans (s4.level (by omega))⟩
    cases e2 with
    | normal => exact absurd rfl hne
    | exit id => simp only [exitOf] at q1; subst q1; exact hpost
    | ret => simp only [exitOf] at q1; subst q1; exact hpost
   ·cases hg'
  ·cases hg'
theorem range_ok (K : Ctx) (hK : CtxOk K) {rec : Rec} (hrec : RecOk K.P rec) {fn : FuncId} {f : Operand} {ps : Array Tmp} {assign body : Code} (h : gbody K rec fn (.rangeFunc f ps assign body) st = some (e, st')) (hst : StOk base r w S μ st a) :
  (Code.rangeFunc f ps assign body).wpIn (Fw r) 0 K.P (Post base r st w S μ e st') a w := by
 have hpos := hst.pos
 refine wpIn_rangeFunc fun fn' _ => ?_
 simp only [gbody] at h
 split at h
 ·rename_i nm H1 hnew
  obtain ⟨rfl, hl, hg, rfl⟩ := gnewAt_some hnew
  split at h
  ·rename_i v H2 hcall
   split at h
   ·rename_i l hgl
    split at h
    ·cases h
    ·rename_i hbusy
     have laid : ∃ (b : Nat) (mark : List Deferred) (w1 : World) (μ1 : Mu), (Instr.enterLoop fn' a.tmps ps assign body r).run K.P w = .ok (b, mark) w1 ∧
       HRel w1 S μ1 (st.h.set (st.h.length - 1, 10000000 + firstRegion body) (.loop { slots := st.s, nt := st.nt, params := ps.toList, assign := assign, body := body, fn := fn, state := .ready, pending := none })) ∧
       Ev (st.h.length - 1) w S μ w1 S μ1 ∧ μ1 (st.h.length - 1, 10000000 + firstRegion body) 0 = some b ∧ DefOk base w1 S μ1 (mark ++ a.defers) := by
      have blk : ∀ (w0 : World) (hH0 : HRel w0 S μ st.h) (hE0 : Ev (st.h.length - 1) w S μ w0 S μ) (q : Loop), q.state = .ready → q.pending = none → q.params = ps → q.assign = assign → q.body = body → q.tmps = a.tmps →
        BlkRel (w0.alloc (.loop q)) S (μ.upd (st.h.length - 1, 10000000 + firstRegion body) 0 w0.heap.size) (st.h.length - 1, 10000000 + firstRegion body)
         (.loop { slots := st.s, nt := st.nt, params := ps.toList, assign := assign, body := body, fn := fn, state := .ready, pending := none }) := by
       intro w0 hH0 hE0 q a1 a2 a3 a4 a5 a6
       refine ⟨w0.heap.size, q, Mu.upd_self _ _ _ _, fun hs => by have := hH0.slt _ hs; omega, alloc_new _ _, a1, by rw [a2]; rfl, by simp, by rw [a3], a4, a5, by rw [a6]; exact hst.nt, fun t => ?_⟩
       have h1 := hE0.val hst.heap.slt (Nat.le_refl _) (hst.slots t)
       rw [a6]
       exact h1.mono (fun _ h => h) (fun b hb => alloc_heap _ _ b (hH0.slt b hb)) (alloc_shp _ _) (fun n t b _ h => noNew hH0 hg _ _ n t b h) (Nat.le_refl _)
      cases r with
      | none =>
       obtain ⟨s1, s2⟩ := hst.heap.skip (st.h.length - 1) (.deferred (some []))
       obtain ⟨n1, n2⟩ := s1.new (st.h.length - 1) hg hl (.loop { state := .ready, pending := none, fn := fn', tmps := a.tmps, params := ps, assign, body, defers := w.heap.size }) 0 _ (blk _ s1 s2 _ rfl rfl rfl rfl rfl rfl)
       rw [World.size_alloc] at n1 n2
       have hd := hst.defs.ev (s2.trans n2)
       refine ⟨_, _, _, _, run_enterLoop_outer fn' a.tmps ps assign body, n1, s2.trans n2, Mu.upd_self _ _ _ _, ⟨fun d hdm => ?_, ?_⟩⟩
       ·rcases List.mem_append.1 hdm with hdm | hdm
        ·simp only [List.mem_singleton] at hdm; subst hdm
         refine ⟨w.heap.size, rfl, hst.low, ?_, fun hs => ?_, fun nm t hm => ?_⟩
         ·rw [alloc_heap _ _ _ (by rw [alloc_size]; omega)]; exact alloc_new _ _
         ·have := hst.heap.slt _ hs; omega
         ·by_cases en : nm = (st.h.length - 1, 10000000 + firstRegion body)
          ·subst en
           by_cases et : t = 0
           ·subst et; rw [Mu.upd_self] at hm; simp at hm
           ·rw [Mu.upd_top _ _ _ et] at hm
            have := hst.heap.lt _ _ _ hm; omega
          ·rw [Mu.upd_other _ _ _ _ en] at hm
           have := hst.heap.lt _ _ _ hm; omega
        ·exact hd.each d hdm
       ·refine List.pairwise_cons.2 ⟨fun d hdm => ?_, hd.apart⟩
        obtain ⟨q, g1, g2, g3, _⟩ := hst.defs.each d hdm
        have hlt : q < w.heap.size := (Array.getElem?_eq_some_iff.1 g3).1
        intro e
        rw [g1] at e
        simp only [Target.collected.injEq] at e
        omega
      | some l0 =>
       obtain ⟨q0, hq0⟩ := hst.round l0 rfl
       obtain ⟨n1, n2⟩ := hst.heap.new (st.h.length - 1) hg hl (.loop { state := .ready, pending := none, fn := fn', tmps := a.tmps, params := ps, assign, body, defers := q0.defers }) 0 _ (blk _ hst.heap (.refl _ _ _ _) _ rfl rfl rfl rfl rfl rfl)
       exact ⟨_, _, _, _, run_enterLoop_inner hq0 fn' a.tmps ps assign body, n1, n2, Mu.upd_self _ _ _ _, hst.defs.ev n2⟩
     obtain ⟨b, mark, w1, μ1, e1, hH1, hE1, hm1, hD1⟩ := laid
     have hlen1 : (st.h.set (st.h.length - 1, 10000000 + firstRegion body) (.loop { slots := st.s, nt := st.nt, params := ps.toList, assign := assign, body := body, fn := fn, state := .ready, pending := none })).length = st.h.length := Heap.length_set _ _ _
     have hs1 := slots_ev (k' := st.h.length - 1) hst.slots hst.heap hE1 (Nat.le_refl _) (Nat.le_refl _)
     obtain ⟨d, f', args', r1, r2, r3⟩ := gcallF_ok K hK hrec hcall (by rw [hlen1]; exact ev_rel hH1.glb hs1 f) (vs := #[.func (.yield b) #[] #[]]) hH1 rfl (fun j hj => by
      have : j = 0 := by simp at hj; omega
      subst this
      rw [hlen1]
      exact .yield _ b (Nat.le_refl _) hm1)
     refine ⟨b, mark, w1, d, w1, f', args', w1, e1, ?_, fun _ _ => trivial, r2, fun h => (by cases h), CallsIn.fw (CallsIn.mono r3 fun en w3 hd => ?_)⟩
     ·simp only [resolve, rangeCall, List.map_toArray, List.map_cons, List.map_nil, Act.eval]; exact r1
     ·obtain ⟨u, S3, μ3, rfl, c1, c2, c3, c4⟩ := hd
      rw [hlen1] at c3 c4
      have hm3 : μ3 (st.h.length - 1, 10000000 + firstRegion body) 0 = some b := c3.mu _ _ _ (Nat.le_refl _) hm1
      obtain ⟨b3, q, k1, k2, k3, s1, s2, s3, s5, s6, s7, s8, s9⟩ := c2.blk _ _ hgl _ _ hm3
      rw [hm3] at k1; simp only [Option.some.injEq] at k1; subst k1
      obtain ⟨t1, t2⟩ := HRel.loopTurn (ℓ := st.h.length - 1) c2 (x := .exhausted) (p := l.pending) hgl hm3 k3 s3
      have hpend : ({ q with state := .exhausted, pending := l.pending.map jumpOf } : Loop) = { q with state := .exhausted } := by rw [← s2]
      rw [hpend] at t1 t2
      obtain ⟨pend, hpd⟩ : ∃ p, p = q.pending := ⟨_, rfl⟩
      refine ⟨pend, _, (run_endLoop k3 (by rw [s1]; exact hbusy)).trans (by rw [hpd]), ?_⟩
      have hpendl : ({ l with state := .exhausted, pending := l.pending } : GLoop) = { l with state := .exhausted } := rfl
      rw [hpendl] at t1
      have hEall := (hE1.trans c3).trans t2
      have hfin : StOk base r (w3.putObj b (.loop { q with state := .exhausted })) S3 μ3 { st with h := H2.set (st.h.length - 1, 10000000 + firstRegion body) (.loop { l with state := .exhausted }) } { a with defers := mark ++ a.defers } := by
       refine ⟨t1, fun t => ?_, hst.nt, by simp only [Heap.length_set]; omega, Nat.le_trans hst.low hEall.size, (hD1.ev c3).ev t2, round_ev hst.round hEall⟩
       simp only [Heap.length_set, c4]
       exact slots_ev (k' := st.h.length - 1) hst.slots hst.heap hEall (Nat.le_refl _) (Nat.le_refl _) t
      have hp2 := hpd.trans s2
      clear hpd
      split at h
      ·rename_i hpn
       simp only [Option.some.injEq, Prod.mk.injEq] at h
       obtain ⟨rfl, rfl⟩ := h
       have hp3 : pend = none := by rw [hp2, hpn]; rfl
       subst hp3
       exact ⟨rfl, by simp only [Heap.length_set]; exact c4, rfl, S3, μ3, hfin, hEall.level (by omega)⟩
      ·rename_i e2 hpn
       simp only [Option.some.injEq, Prod.mk.injEq] at h
       obtain ⟨rfl, rfl⟩ := h
       rw [hpn] at s3
       have hp3 : pend = some (jumpOf e2) := by rw [hp2, hpn]; rfl
       subst hp3
       have hpost : Post base r st w S μ e2 { st with h := H2.set (st.h.length - 1, 10000000 + firstRegion body) (.loop { l with state := .exhausted }) } (exitOf e2) { a with defers := mark ++ a.defers } (w3.putObj b (.loop { q with state := .exhausted })) :=
        ⟨rfl, by simp only [Heap.length_set]; exact c4, rfl, S3, μ3, hfin, hEall.level (by omega)⟩
       cases e2 with
       | normal => exact absurd rfl s3
       | exit id => exact wpIn_exit hpost
       | ret => exact wpIn_ret hpost
   ·cases h
  ·cases h
 ·cases h
theorem gexec_ok (K : Ctx) (hK : CtxOk K) (hD : DrawRule K) : ∀ n, RecOk K.P (gexec K n) := by
  intro n
  induction n using Nat.strongRecOn with
  | _ n ih =>
    intro fn c st e st' h base r w S μ a hst
    cases n with
    | zero => simp [gexec] at h
    | succ n =>
      have hrec := ih n (Nat.lt_succ_self n)
      cases c with
      | loop c => exact loop_ok K (fun m hm => ih m (by omega)) h hst
      | rangeFunc f ps assign body => exact range_ok K hK hrec h hst
      | skip =>
        simp only [gexec, gbody, Option.some.injEq, Prod.mk.injEq] at h
        obtain ⟨rfl, rfl⟩ := h
        exact wpIn_skip (Post.refl hst)
      | label l =>
        simp only [gexec, gbody, Option.some.injEq, Prod.mk.injEq] at h
        obtain ⟨rfl, rfl⟩ := h
        exact wpIn_label (Post.refl hst)
      | exit id =>
        simp only [gexec, gbody, Option.some.injEq, Prod.mk.injEq] at h
        obtain ⟨rfl, rfl⟩ := h
        exact wpIn_exit (Post.refl (e := .exit id) hst)
      | ret =>
        simp only [gexec, gbody, Option.some.injEq, Prod.mk.injEq] at h
        obtain ⟨rfl, rfl⟩ := h
        exact wpIn_ret (Post.refl (e := .ret) hst)
      | region id ops draws =>
        cases draws with
        | true => exact hD _ hrec fn id ops st e st' h base r w S μ a hst
        | false =>
          simp only [gexec, gbody] at h
          split at h
          · rename_i st1 hops
            simp only [Option.some.injEq, Prod.mk.injEq] at h
            obtain ⟨rfl, rfl⟩ := h
            refine wpIn_region ?_
            have := gops_ok K hK hrec (fn := fn) (ops := ops) (Q := Post base r st w S μ .normal st1) ops.toList 0 st a w S μ rfl hops hst fun a' w' S' μ' q1 q2 q3 q4 => ⟨rfl, q3, q4, S', μ', q1, q2.level (by omega)⟩
            rw [List.range_eq_range']
            simpa using this
          · cases h
      | seq x y =>
        simp only [gexec, gbody] at h
        refine wpIn_seq ?_
        split at h
        · rename_i st1 hx
          refine wpIn_mono (hrec fn x st _ _ hx base r w S μ a hst) fun e' a1 w1 hq => ?_
          obtain ⟨q1, q2, q3, S1, μ1, q4, q5⟩ := hq
          simp only [exitOf] at q1; subst q1
          simp only [Exit.then]
          exact wpIn_mono (hrec fn y st1 _ _ h base r w1 S1 μ1 a1 q4) fun e' a2 w2 hq => Post.of q5 q2 q3 hq
        · rename_i hne
          have hx : gexec K n fn x st = some (e, st') := h
          refine wpIn_mono (hrec fn x st _ _ hx base r w S μ a hst) fun e' a1 w1 hq => ?_
          have q1 := hq.1
          cases e with
          | normal => exact absurd hx (hne st')
          | exit id => simp only [exitOf] at q1; subst q1; exact hq
          | ret => simp only [exitOf] at q1; subst q1; exact hq
      | cond c x y =>
        simp only [gexec, gbody] at h
        split at h
        · rename_i b hb
          have hc := ev_rel hst.heap.glb hst.slots c
          rw [hb] at hc
          refine wpIn_cond hc.bool_inv ?_
          cases b with
          | true => exact hrec fn x st _ _ (by simpa using h) base r w S μ a hst
          | false => exact hrec fn y st _ _ (by simpa using h) base r w S μ a hst
        · cases h
      | block id c =>
        simp only [gexec, gbody] at h
        refine wpIn_block ?_
        split at h
        · rename_i id' st1 hc
          refine wpIn_mono (hrec fn c st _ _ hc base r w S μ a hst) fun e' a1 w1 hq => ?_
          have q1 := hq.1
          simp only [exitOf] at q1; subst q1
          simp only [Exit.inBlock]
          split at h
          · rename_i hid
            simp only [Option.some.injEq, Prod.mk.injEq] at h
            obtain ⟨rfl, rfl⟩ := h
            rw [if_pos hid]
            obtain ⟨_, q⟩ := hq
            exact ⟨rfl, q⟩
          · rename_i hid
            simp only [Option.some.injEq, Prod.mk.injEq] at h
            obtain ⟨rfl, rfl⟩ := h
            rw [if_neg hid]; exact hq
        · rename_i hne
          have hx : gexec K n fn c st = some (e, st') := h
          refine wpIn_mono (hrec fn c st _ _ hx base r w S μ a hst) fun e' a1 w1 hq => ?_
          have q1 := hq.1
          cases e with
          | exit id => exact absurd hx (hne id st')
          | normal => simp only [exitOf] at q1; subst q1; exact hq
          | ret => simp only [exitOf] at q1; subst q1; exact hq
      | scope c =>
        simp only [gexec, gbody] at h
        refine wpIn_scope (fun l a w hq => by
          have := hq.1
          cases e <;> simp [exitOf] at this) ?_
        refine wpIn_mono (hrec fn c st _ _ h base r w S μ a hst) fun e' a1 w1 hq => ?_
        have q1 := hq.1
        cases e with
        | normal => simp only [exitOf] at q1; subst q1; exact hq
        | exit id => simp only [exitOf] at q1; subst q1; exact hq
        | ret => simp only [exitOf] at q1; subst q1; exact hq
      | _ => simp [gexec, gbody] at h
end
end
section
section
variable (K : Ctx) {fn : FuncId} {o : Oper}
theorem ev_congr {s s' : Slots} {x : Operand} (h : ∀ t, x = .tmp t → look s t = look s' t) : ev s x = ev s' x := by
 cases x with
 | tmp t => exact h t rfl
 | _ => rfl
theorem mem_tmpsOf {l : List Operand} {t : Nat} (h : Operand.tmp t ∈ l) : t ∈ tmpsOf l := by
 unfold tmpsOf
 exact List.mem_filterMap.2 ⟨_, h, rfl⟩
theorem evs_congr {s s' : Slots} {l : List Operand} (h : ∀ x ∈ l, ev s x = ev s' x) : l.map (ev s) = l.map (ev s') := List.map_congr_left h
theorem evps_congr {s s' : Slots} {l : List (Nat × Operand)} (h : ∀ x ∈ l.map (·.2), ev s x = ev s' x) : l.map (evp s) = l.map (evp s') :=
 List.map_congr_left fun x hx => by simp only [evp]; rw [h x.2 (List.mem_map.2 ⟨x, hx, rfl⟩)]
theorem gop_congr {s s' : Slots} {H : Heap} (h : ∀ t, t ∈ depsO K fn o → look s t = look s' t) : gop K fn o s H = gop K fn o s' H := by
 have hev : ∀ x ∈ o.op.operands.toList, ev s x = ev s' x := fun x hx => ev_congr fun t ht => h t (by
  unfold depsO
  exact List.mem_append_left _ (List.mem_append_left _ (mem_tmpsOf (ht ▸ hx))))
 have hup : ∀ d t, o.dst = some d → K.up fn d = .box t → look s t = look s' t := fun d t hd hu => h t (by
  unfold depsO
  refine List.mem_append_left _ (List.mem_append_right _ ?_)
  simp [hd, hu])
 clear h
 obtain ⟨dst, op, type, pos, after, guard⟩ := o
 simp only at hev hup
 unfold gop
 cases op <;> simp only [Op.operands, Array.toList_append, List.mem_append, Array.toList_map] at hev <;> try rfl
 case move x => simp only [hev x (by simp)]
 case assign x => simp only [hev x (by simp)]
 case pick c x y => simp only [hev c (by simp), hev x (by simp), hev y (by simp)]
 case box t x => simp only [hev x (by simp)]
 case build t ps => simp only [evps_congr hev]
 case buildSlice t n ps => simp only [evps_congr hev]
 case load t a => simp only [hev a (by simp)]
 case store t a x => simp only [hev a (by simp), hev x (by simp)]
 case nilCheck x => simp only [hev x (by simp)]
 case binOp op t x y d => simp only [gbinN, hev x (by simp), hev y (by simp)]
 case unOp op t x => simp only [hev x (by simp)]
 case convert a b x => simp only [hev x (by simp)]
 case makeFunc f a c =>
  cases f with
  | func f =>
   have h1 : a.toList.map (ev s) = a.toList.map (ev s') := evs_congr fun x hx => hev x (.inl hx)
   have h2 : c.toList.map (ev s) = c.toList.map (ev s') := evs_congr fun x hx => hev x (.inr hx)
   simp only [h1, h2]
  | _ => rfl
 case makeMap t r => cases r <;> rfl
 case makeSlice t l c => simp only [hev l (by simp), hev c (by simp)]
 case slice t x lo hi mx =>
  have h1 : lo.map (ev s) = lo.map (ev s') := by cases lo <;> simp_all
  have h2 : hi.map (ev s) = hi.map (ev s') := by cases hi <;> simp_all
  have h3 : mx.map (ev s) = mx.map (ev s') := by cases mx <;> simp_all
  simp only [hev x (by simp), h1, h2, h3]
 case fieldAddr t x f => simp only [hev x (by simp)]
 case field t x f => simp only [hev x (by simp)]
 case indexAddr t x i => simp only [hev x (by simp), hev i (by simp)]
 case index t x i => simp only [hev x (by simp), hev i (by simp)]
 case lookup t x k ok => simp only [hev x (by simp), hev k (by simp)]
 case mapUpdate t m k v => simp only [hev m (by simp), hev k (by simp), hev v (by simp)]
 case insert t m k v => simp only [hev m (by simp), hev k (by simp), hev v (by simp)]
 case extract t i => simp only [hev t (by simp)]
 case call c =>
  have hargs : ∀ x ∈ c.args.toList, ev s x = ev s' x := fun x hx => hev x (by simp [Call.operands, hx])
  have hget : ∀ (i : Nat) x, c.args[i]? = some x → ev s x = ev s' x := fun i x hx => hargs x (by
   have := Array.mem_of_getElem? hx
   exact Array.mem_toList_iff.2 this)
  obtain ⟨callee, args, argTypes⟩ := c
  simp only at hargs hget
  cases callee with
  | builtin b =>
   cases b <;> simp only <;> try rfl
   ·
    cases h1 : argTypes[0]? with
    | none => rfl
    | some t =>
    cases h2 : args[0]? with
    | none => rfl
    | some x =>
    cases h3 : args[1]? with
    | none => rfl
    | some y =>
    cases h4 : dst with
    | none => rfl
    | some d =>
    have hu : upLevel H s (K.up fn d) = upLevel H s' (K.up fn d) := by
     unfold upLevel
     cases hk : K.up fn d with
     | scopes n => rfl
     | box q => simp only; rw [hup d q h4 hk]
    have hu2 : upBox s (K.up fn d) = upBox s' (K.up fn d) := by
     unfold upBox
     cases hk : K.up fn d with
     | scopes n => rfl
     | box q => simp only; rw [hup d q h4 hk]
    simp only [hget 0 x h2, hget 1 y h3, hu, hu2]
   ·
    cases h1 : argTypes[0]? with
    | none => rfl
    | some t =>
    cases h2 : args[0]? with
    | none => rfl
    | some x => simp only [hget 0 x h2]
   ·
    cases h1 : argTypes[0]? with
    | none => rfl
    | some t =>
    cases h2 : args[0]? with
    | none => rfl
    | some x => simp only [hget 0 x h2]
   ·rw [evs_congr hargs]
   ·rw [evs_congr hargs]
   ·rcases h1 : args.toList with _ | ⟨x, _ | ⟨y, r⟩⟩
    ·rfl
    ·have e1 := hargs x (by rw [h1]; simp)
     simp only [e1]
    ·rfl
   ·rcases h1 : args.toList with _ | ⟨x, _ | ⟨y, _ | ⟨z, r⟩⟩⟩
    ·rfl
    ·rfl
    ·have e1 := hargs x (by rw [h1]; simp)
     have e2 := hargs y (by rw [h1]; simp)
     rcases h2 : argTypes.toList with _ | ⟨pt, _ | ⟨it, _ | ⟨q, r⟩⟩⟩
     ·rfl
     ·rfl
     ·show gunsafeStr K pt H (ev s x) (ev s y) = gunsafeStr K pt H (ev s' x) (ev s' y)
      rw [e1, e2]
     ·rfl
    ·rfl
  | value f => rfl
  | invoke r m => rfl
theorem opPure_both {s : Slots} {H H' : Heap} {v : GV} (hp : opPure K fn o = true) (h : gop K fn o s H = some (v, H')) : H' = H ∧ (opR o = false → ∀ H2, gop K fn o s H2 = some (v, H2)) := by
 obtain ⟨dst, op, type, pos, after, guard⟩ := o
 unfold opPure at hp
 unfold opR
 unfold gop at h ⊢
 cases op <;> simp only at hp h ⊢ <;> try (cases hp; done)
 case makeFunc f a c =>
  cases f <;> simp only at h ⊢
  case func =>
   simp only [Option.some.injEq, Prod.mk.injEq] at h
   exact ⟨h.2.symm, fun _ H2 => by rw [h.1]⟩
  all_goals cases h
 case buildSlice t n ps =>
  repeat' split at h
  all_goals try (cases h; done)
  all_goals try (exfalso; simp_all; done)
  all_goals
   simp only [Option.some.injEq, Prod.mk.injEq] at h
   obtain ⟨rfl, rfl⟩ := h
   refine ⟨rfl, fun _ H2 => ?_⟩
   simp_all
 case build t ps =>
  repeat' split at h
  all_goals try (cases h; done)
  all_goals
   simp only [Option.some.injEq, Prod.mk.injEq] at h
   obtain ⟨rfl, rfl⟩ := h
   refine ⟨rfl, fun _ H2 => ?_⟩
   simp_all
 case load =>
  repeat' split at h
  all_goals try (cases h; done)
  simp only [Option.some.injEq, Prod.mk.injEq] at h
  exact ⟨h.2.symm, fun h => by cases h⟩
 case lookup =>
  repeat' split at h
  all_goals try (cases h; done)
  simp only [Option.some.injEq, Prod.mk.injEq] at h
  exact ⟨h.2.symm, fun h => by cases h⟩
 case call c =>
  obtain ⟨callee, args, argTypes⟩ := c
  cases callee with
  | builtin b =>
   cases b <;> simp only at hp h ⊢ <;> try (cases hp; done)
   all_goals
    repeat' split at h
    all_goals try (cases h; done)
    simp only [Option.some.injEq, Prod.mk.injEq] at h
    obtain ⟨rfl, rfl⟩ := h
    refine ⟨rfl, fun hr H2 => ?_⟩
    first | (cases hr; done) | simp_all
  | value f =>
   simp only at hp h ⊢
   split at h
   ·rename_i g hg
    simp only [Option.some.injEq, Prod.mk.injEq] at h
    obtain ⟨rfl, rfl⟩ := h
    exact ⟨rfl, fun _ H2 => by first | rfl | simp [hg]⟩
   ·cases h
  | invoke r m => cases hp
 all_goals
  repeat' split at h
  all_goals try (cases h; done)
  all_goals
   simp only [Option.some.injEq, Prod.mk.injEq] at h
   obtain ⟨rfl, rfl⟩ := h
   refine ⟨rfl, fun _ H2 => ?_⟩
   first | rfl | simp_all
theorem opPure_heap {s : Slots} {H H' : Heap} {v : GV} (hp : opPure K fn o = true) (h : gop K fn o s H = some (v, H')) : H' = H := (opPure_both K hp h).1
theorem gstep_pure {K : Ctx} (ht : ∀ f, K.tab f = true → K.cln f = true ∧ K.ext f = some (extTab f)) {rec : Rec} {fn : FuncId} {o : Oper} {s : Slots} {H H' : Heap} {v : GV} (hp : opPure K fn o = true) (hH : 0 < H.length)
  (h : gop K fn o s H = some (v, H')) : gstep K rec fn o s H = some (v, H') := by
 obtain ⟨dst, op, type, pos, after, guard⟩ := o
 unfold gstep
 cases hgo : goCalls ⟨dst, op, type, pos, after, guard⟩ with
 | none => exact h
 | some x =>
  obtain ⟨f, args⟩ := x
  unfold goCalls at hgo
  simp only at hgo
  split at hgo
  ·rename_i f0 args0 ats
   simp only [Option.some.injEq, Prod.mk.injEq] at hgo
   obtain ⟨rfl, rfl⟩ := hgo
   unfold gop at h
   simp only at h
   split at h
   ·rename_i g hg
    simp only [Option.some.injEq, Prod.mk.injEq] at h
    obtain ⟨rfl, rfl⟩ := h
    unfold tabF at hg
    try simp only at hg
    split at hg
    ·rename_i f1 args1 ats1 d he
     split at hg
     ·rename_i hc
      simp only [Option.some.injEq] at hg; subst hg
      simp only [Op.call.injEq, Call.mk.injEq, Callee.value.injEq] at he
      obtain ⟨rfl, rfl, rfl⟩ := he
      simp only [Bool.and_eq_true, Option.isNone_iff_eq_none] at hc
      obtain ⟨⟨h1, h2⟩, h3⟩ := hc
      have ha : args0 = #[] := by simpa using h1
      subst ha
      obtain ⟨t1, t2⟩ := ht _ h2
      have hl : ¬ H = [] := fun e => by rw [e] at hH; simp at hH
      simp [h3, ev, gcallee, gcallF, gcall, t1, t2, extTab, hl]
     ·cases hg
    ·cases hg
   ·cases h
  ·cases hgo
theorem opPure_any {s : Slots} {H H' H2 : Heap} {v : GV} (hp : opPure K fn o = true) (hr : opR o = false) (h : gop K fn o s H = some (v, H')) : gop K fn o s H2 = some (v, H2) := (opPure_both K hp h).2 hr H2
end
end
section
structure TS where
 s : Slots
 b : Heap
 f : Heap
def putS (s : Slots) : Option Tmp → GV → Slots
 | none, _ => s
 | some d, v => (d, v) :: s
theorem put_some {st st' : GSt} {d : Option Tmp} {v : GV} (h : st.put d v = some st') : st'.s = putS st.s d v ∧ st'.h = st.h ∧ st'.nt = st.nt ∧ ∀ t, d = some t → t < st.nt := by
 cases d with
 | none => simp only [GSt.put, Option.some.injEq] at h; subst h; exact ⟨rfl, rfl, rfl, fun t h => by cases h⟩
 | some d =>
  simp only [GSt.put] at h
  split at h
  ·rename_i hd
   simp only [Option.some.injEq] at h; subst h
   exact ⟨rfl, rfl, rfl, fun t h => by cases h; exact hd⟩
  ·cases h
section
variable (K : Ctx) (rec : Rec) (fn : FuncId) (all : List Oper) (pre : Array Nat) (st0 : GSt)
def dkind (o : Oper) (x : TS) : Option (Nat × GV × Heap) :=
 match wantedG all x.s o with
 | some false => some (0, gundef, x.f)
 | some true =>
  if opPure K fn o then (match gop K fn o x.s x.b with | some (v, _) => some (1, v, x.f) | none => none)
  else (match gstep K rec fn o x.s x.f with | some (v, H) => some (if isAlloc o then 2 else 3, v, H) | none => none)
 | none => none
def dT : Nat → TS
 | 0 => ⟨st0.s, st0.h, st0.h⟩
 | j + 1 =>
  match all[j]? with
  | some o => (match dkind K rec fn all o (dT j) with | some (k, v, H) => ⟨putS (dT j).s o.dst v, if k = 3 then H else (dT j).b, H⟩ | none => dT j)
  | none => dT j
def dk (j : Nat) : Nat := match all[j]? with | some o => (match dkind K rec fn all o (dT K rec fn all st0 j) with | some (k, _, _) => k | none => 0) | none => 0
def dv (j : Nat) : GV := match all[j]? with | some o => (match dkind K rec fn all o (dT K rec fn all st0 j) with | some (_, v, _) => v | none => gdead) | none => gdead
structure StepOk (nt j : Nat) (o : Oper) : Prop where
 kind : dkind K rec fn all o (dT K rec fn all st0 j) = some (dk K rec fn all st0 j, dv K rec fn all st0 j, (dT K rec fn all st0 (j + 1)).f)
 dst : ∀ d, o.dst = some d → d < nt
 ww : dk K rec fn all st0 j = 3 → ∀ x, x < j → dk K rec fn all st0 x = 3 → (pre.getD j 0).testBit x = true
 rw : dk K rec fn all st0 j = 1 → opR o = true → ∀ x, x < j → dk K rec fn all st0 x = 3 → (pre.getD j 0).testBit x = true ∨ sameAt K fn o (dT K rec fn all st0 j).s (dv K rec fn all st0 j) (dT K rec fn all st0 x).b = true
 wr : dk K rec fn all st0 j = 3 → ∀ q, q < j → dk K rec fn all st0 q = 1 → ∀ oq, all[q]? = some oq → opR oq = true →
  (pre.getD j 0).testBit q = true ∨ sameAt K fn oq (dT K rec fn all st0 q).s (dv K rec fn all st0 q) (dT K rec fn all st0 (j + 1)).f = true
theorem dT_succ {j : Nat} {o : Oper} {k : Nat} {v : GV} {H : Heap} (ho : all[j]? = some o) (hk : dkind K rec fn all o (dT K rec fn all st0 j) = some (k, v, H)) :
  dT K rec fn all st0 (j + 1) = ⟨putS (dT K rec fn all st0 j).s o.dst v, if k = 3 then H else (dT K rec fn all st0 j).b, H⟩ ∧ dk K rec fn all st0 j = k ∧ dv K rec fn all st0 j = v := by
 refine ⟨?_, ?_, ?_⟩
 ·simp only [dT, ho, hk]
 ·simp only [dk, ho, hk]
 ·simp only [dv, ho, hk]
theorem gdraw_trace {st' : GSt} : ∀ (rest : List Oper) (i : Nat) (wl : List (Nat × Heap)) (rl : List RLog) (hb : Heap) (st : GSt), all.drop i = rest → (dT K rec fn all st0 i).s = st.s → (dT K rec fn all st0 i).b = hb →
    (dT K rec fn all st0 i).f = st.h → st.nt = st0.nt → (∀ x, x < i → dk K rec fn all st0 x = 3 → (x, (dT K rec fn all st0 x).b) ∈ wl) →
    (∀ q, q < i → dk K rec fn all st0 q = 1 → ∀ o, all[q]? = some o → opR o = true → (⟨q, o, (dT K rec fn all st0 q).s, dv K rec fn all st0 q⟩ : RLog) ∈ rl) →
    gdraw K rec fn all pre i rest wl rl hb st = some st' →
    (∀ j o, i ≤ j → all[j]? = some o → StepOk K rec fn all pre st0 st0.nt j o) ∧ st'.s = (dT K rec fn all st0 all.length).s ∧ st'.h = (dT K rec fn all st0 all.length).f ∧ st'.nt = st0.nt := by
  intro rest
  induction rest with
  | nil =>
    intro i wl rl hb st hd hs hbb hf hnt hwl hrl h
    simp only [gdraw, Option.some.injEq] at h; subst h
    have hlen : all.length ≤ i := List.drop_eq_nil_iff.1 hd
    have hT : ∀ j, all.length ≤ j → dT K rec fn all st0 j = dT K rec fn all st0 all.length := by
      intro j hj
      induction j with
      | zero => have : all.length = 0 := by omega
                rw [this]
      | succ j ih =>
        by_cases e : all.length = j + 1
        · rw [e]
        · have hn : all[j]? = none := List.getElem?_eq_none (by omega)
          rw [show dT K rec fn all st0 (j + 1) = dT K rec fn all st0 j by simp only [dT, hn]]
          exact ih (by omega)
    refine ⟨fun j o hij ho => ?_, ?_, ?_, hnt⟩
    · have := (List.getElem?_eq_some_iff.1 ho).1; omega
    · rw [← hT i hlen, hs]
    · rw [← hT i hlen, hf]
  | cons o r ih =>
    intro i wl rl hb st hd hs hbb hf hnt hwl hrl h
    have ho : all[i]? = some o := by
      have : (all.drop i)[0]? = some o := by rw [hd]; rfl
      rw [List.getElem?_drop] at this
      simpa using this
    have hd' : all.drop (i + 1) = r := by
      have : (all.drop i).drop 1 = r := by rw [hd]; rfl
      rwa [List.drop_drop] at this
    have go : ∀ (k : Nat) (v : GV) (H : Heap) (wl' : List (Nat × Heap)) (rl' : List RLog) (st1 : GSt), dkind K rec fn all o (dT K rec fn all st0 i) = some (k, v, H) →
        GSt.put { st with h := H } o.dst v = some st1 → (∀ x, x ∈ wl → x ∈ wl') → (∀ x, x ∈ rl → x ∈ rl') → (k = 3 → (i, hb) ∈ wl') → (k = 1 → opR o = true → (⟨i, o, st.s, v⟩ : RLog) ∈ rl') →
        (k = 3 → ∀ x, x ∈ wl → (pre.getD i 0).testBit x.1 = true) →
        (k = 1 → opR o = true → ∀ x, x ∈ wl → (pre.getD i 0).testBit x.1 = true ∨ sameAt K fn o st.s v x.2 = true) →
        (k = 3 → ∀ q, q ∈ rl → (pre.getD i 0).testBit q.i = true ∨ sameAt K fn q.o q.s q.v H = true) →
        gdraw K rec fn all pre (i + 1) r wl' rl' (if k = 3 then H else hb) st1 = some st' →
        (∀ j o, i ≤ j → all[j]? = some o → StepOk K rec fn all pre st0 st0.nt j o) ∧ st'.s = (dT K rec fn all st0 all.length).s ∧ st'.h = (dT K rec fn all st0 all.length).f ∧ st'.nt = st0.nt := by
      intro k v H wl' rl' st1 hk hput hw' hr' hwi hri c1 c2 c3 hg
      obtain ⟨e1, e2, e3⟩ := dT_succ K rec fn all st0 ho hk
      obtain ⟨p1, p2, p3, p4⟩ := put_some hput
      simp only at p1 p2 p3 p4
      obtain ⟨g1, g2⟩ := ih (i + 1) wl' rl' (if k = 3 then H else hb) st1 hd' (by rw [e1, p1, hs]) (by rw [e1, hbb]) (by rw [e1, p2]) (by rw [p3, hnt])
        (fun x hx hkx => by
          rcases Nat.lt_or_ge x i with h' | h'
          · exact hw' _ (hwl x h' hkx)
          · obtain rfl : x = i := by omega
            rw [hbb]; exact hwi (by rw [← e2, hkx]))
        (fun q hq hkq oq hoq hR => by
          rcases Nat.lt_or_ge q i with h' | h'
          · exact hr' _ (hrl q h' hkq oq hoq hR)
          · obtain rfl : q = i := by omega
            rw [ho] at hoq; cases hoq
            rw [hs, e3]; exact hri (by rw [← e2, hkq]) hR) hg
      refine ⟨fun j oj hij hoj => ?_, g2⟩
      by_cases e : i = j
      · subst e
        rw [ho] at hoj; cases hoj
        have e4 : (dT K rec fn all st0 (i + 1)).f = H := by rw [e1]
        exact ⟨by rw [e2, e3, e4]; exact hk, fun d hd => hnt ▸ p4 d hd, fun h3 x hx hkx => c1 (by rw [← e2, h3]) _ (hwl x hx hkx),
          fun h1 hR x hx hkx => by rw [hs, e3]; exact c2 (by rw [← e2, h1]) hR _ (hwl x hx hkx),
          fun h3 q hq hkq oq hoq hR => by rw [e4]; exact c3 (by rw [← e2, h3]) _ (hrl q hq hkq oq hoq hR)⟩
      · exact g1 j oj (by omega) hoj
    simp only [gdraw] at h
    have hst : st = { st with h := st.h } := rfl
    split at h
    · rename_i hw
      split at h
      · rename_i st1 hput
        refine go 0 gundef st.h wl rl st1 ?_ hput (fun _ h => h) (fun _ h => h) (by omega) (by omega) (by omega) (by omega) (by omega) (by simpa using h)
        simp only [dkind, hs, hw, hf]
      · cases h
    · rename_i hw
      split at h
      · rename_i hp
        split at h
        · rename_i v Hx hop
          have hk : dkind K rec fn all o (dT K rec fn all st0 i) = some (1, v, st.h) := by simp only [dkind, hs, hw, hp, hbb, hop, hf, if_true]
          split at h
          · rename_i st1 hput
            split at h
            · rename_i hR
              split at h
              · rename_i hall
                refine go 1 v st.h wl _ st1 hk hput (fun _ h => h) (fun _ h => List.mem_cons_of_mem _ h) (by omega) (fun _ _ => List.mem_cons_self ..) (by omega) (fun _ _ x hx => ?_) (by omega) (by simpa using h)
                have := List.all_eq_true.1 hall x hx
                simpa using this
              · cases h
            · rename_i hR
              exact go 1 v st.h wl rl st1 hk hput (fun _ h => h) (fun _ h => h) (by omega) (fun _ h => absurd h hR) (by omega) (fun _ h => absurd h hR) (by omega) (by simpa using h)
          · cases h
        · cases h
      · rename_i hp
        split at h
        · rename_i v H hstep
          split at h
          · rename_i st1 hput
            have hk : dkind K rec fn all o (dT K rec fn all st0 i) = some (if isAlloc o then 2 else 3, v, H) := by simp only [dkind, hs, hw, hp, hf, hstep, if_false, Bool.false_eq_true]
            split at h
            · rename_i ha
              rw [if_pos ha] at hk
              exact go 2 v H wl rl st1 hk hput (fun _ h => h) (fun _ h => h) (by omega) (by omega) (by omega) (by omega) (by omega) (by simpa using h)
            · rename_i ha
              rw [if_neg ha] at hk
              split at h
              · rename_i hall
                simp only [Bool.and_eq_true] at hall
                refine go 3 v H _ rl st1 hk hput (fun _ h => List.mem_cons_of_mem _ h) (fun _ h => h) (fun _ => List.mem_cons_self ..) (by omega) (fun _ x hx => ?_) (by omega) (fun _ q hq => ?_) (by simpa using h)
                · exact List.all_eq_true.1 hall.1 x hx
                · have := List.all_eq_true.1 hall.2 q hq
                  simpa using this
              · cases h
          · cases h
        · cases h
    · cases h
theorem look_dT (nt : Nat) (hok : ∀ j o, all[j]? = some o → StepOk K rec fn all pre st0 nt j o) (hnd : nodupB (all.filterMap (·.dst)) = true) : ∀ (i t : Nat), i ≤ all.length →
  (∃ j o, j < i ∧ all[j]? = some o ∧ o.dst = some t ∧ look (dT K rec fn all st0 i).s t = dv K rec fn all st0 j) ∨
  ((∀ j o, j < i → all[j]? = some o → o.dst ≠ some t) ∧ look (dT K rec fn all st0 i).s t = look st0.s t) := by
 intro i
 induction i with
 | zero => intro t _; exact .inr ⟨fun j o h => by omega, rfl⟩
 | succ i ih =>
  intro t hi
  have ho : all[i]? = some all[i] := List.getElem?_eq_getElem (by omega)
  obtain ⟨e1, e2, e3⟩ := dT_succ K rec fn all st0 ho (hok i _ ho).kind
  rw [e1]
  simp only
  by_cases hd : all[i].dst = some t
  ·refine .inl ⟨i, _, by omega, ho, hd, ?_⟩
   rw [hd]; simp [putS, look]
  ·have hl : look (putS (dT K rec fn all st0 i).s all[i].dst (dv K rec fn all st0 i)) t = look (dT K rec fn all st0 i).s t := by
    cases hdd : all[i].dst with
    | none => rfl
    | some d => simp only [putS, look]; rw [if_neg (fun e => hd (by rw [hdd, e]))]
   rw [hl]
   rcases ih t (by omega) with ⟨j, o, h1, h2, h3, h4⟩ | ⟨h1, h2⟩
   ·exact .inl ⟨j, o, by omega, h2, h3, h4⟩
   ·refine .inr ⟨fun j o hj hoj => ?_, h2⟩
    by_cases e : j = i
    ·subst e; rw [ho] at hoj; cases hoj; exact hd
    ·exact h1 j o (by omega) hoj
end
end
end Go.Gh

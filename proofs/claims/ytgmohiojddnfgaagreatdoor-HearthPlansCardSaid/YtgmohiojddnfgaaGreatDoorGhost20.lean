/- Calls. -/
import Derived.Test.YtgmohiojddnfgaaGreatDoorGhost19
namespace Go.Gh
set_option linter.unusedSimpArgs false
set_option linter.unusedVariables false
section
variable {w w' : World} {S S' : Nat → Prop} {μ μ' : Mu} {H : Heap} {P : Program} {ℓ base : Nat} {r : Option Nat}

theorem HRel.push (hH : HRel w S μ H) : HRel w S μ ([] :: H) :=
  ⟨fun nm x hx t b hb => hH.blk nm x (by rw [← Heap.get_push]; exact hx) t b hb, fun nm t b hb => by obtain ⟨x, hx⟩ := hH.bnd nm t b hb; exact ⟨x, by rw [Heap.get_push]; exact hx⟩, hH.disj, hH.lt, hH.slt, hH.glb⟩

theorem look_slotsOf : ∀ (l : List GV) (i t : Nat), look (slotsOf i l) t = if i ≤ t then l.getD (t - i) gdead else gdead
  | [], i, t => by simp [slotsOf, look]
  | v :: l, i, t => by
    simp only [slotsOf, look_cons, look_slotsOf l (i + 1) t]
    by_cases h : t = i
    · subst h; simp
    · rw [if_neg h]
      by_cases h2 : i + 1 ≤ t
      · rw [if_pos h2, if_pos (by omega)]
        have : t - i = (t - (i + 1)) + 1 := by omega
        rw [this]; simp
      · rw [if_neg h2, if_neg (by omega)]

theorem gload_ptr {k : Nat} {t : TypeId} {v : Value} {g x : GV} (hv : VRel w S μ k v g) (h : gload P t H g = some x) : ∃ a, v = .pointer (some a) := by
  cases hv with
  | bptr nm off b h1 h2 => exact ⟨_, rfl⟩
  | eptr nm es top i off b h1 h2 => exact ⟨_, rfl⟩
  | pptr b o cs f hS hf h1 hr => exact ⟨_, rfl⟩
  | lptr b o cs f hS hf h1 hr => exact ⟨_, rfl⟩
  | rptr nm es i j off b h1 h2 => exact ⟨_, rfl⟩
  | _ => unfold gload at h; split at h <;> cases h

theorem mapM_rel {α : Type} {k : Nat} (f : α → Sem Value) (g : α → Option GV) : ∀ (l : List α) (rs : List GV), (∀ a b, g a = some b → ∃ u, (f a).run P w = .ok u w ∧ VRel w S μ k u b) →
    l.mapM g = some rs → ∃ us : List Value, (l.mapM f).run P w = .ok us w ∧ us.length = rs.length ∧ ∀ j, j < rs.length → VRel w S μ k (us.getD j undef) (rs.getD j gdead)
  | [], rs, _, h => by simp at h; subst h; exact ⟨[], by simp, rfl, fun j hj => by simp at hj⟩
  | a :: l, rs, hf, h => by
    rw [List.mapM_cons] at h
    cases hg : g a with
    | none => simp [hg] at h
    | some b =>
      cases hl : l.mapM g with
      | none => simp [hg, hl] at h
      | some rs' =>
        simp [hg, hl] at h; subst h
        obtain ⟨u, u1, u2⟩ := hf a b hg
        obtain ⟨us, q1, q2, q3⟩ := mapM_rel f g l rs' hf hl
        refine ⟨u :: us, by rw [List.mapM_cons]; simp [u1, q1], by simp [q2], fun j hj => ?_⟩
        cases j with
        | zero => simpa using u2
        | succ j => simpa using q3 j (by simpa using hj)

def packG (rs : List GV) : GV := match rs with | [r] => r | rs => mkTuple rs

theorem results_run (K : Ctx) {fn : Func} {st : GSt} {rs : List GV} {tmps : Array Value} {k : Nat} (hH : HRel w S μ st.h) (hs : ∀ t, VRel w S μ k (tmps.getD t undef) (look st.s t)) (h : gresults K fn st = some rs) :
    ∃ u, (results fn tmps).run K.P w = .ok u w ∧ VRel w S μ k u (packG rs) := by
  unfold gresults at h
  obtain ⟨us, q1, q2, q3⟩ := mapM_rel (P := K.P) (w := w) (S := S) (μ := μ) (k := k) (fun x : ResultVar => match x with
    | .tmp t => (pure (tmps.getD t undef) : Sem Value)
    | .cell a t => do loadVar t (← asAddr (tmps.getD a undef))) _ fn.results.toList rs (fun x b hx => by
      cases x with
      | tmp t => simp only [Option.some.injEq] at hx; subst hx; exact ⟨_, rfl, hs t⟩
      | cell a t =>
        simp only at hx
        obtain ⟨ad, had⟩ := gload_ptr (hs a) hx
        obtain ⟨u, u1, u2⟩ := gload_sound hH (hs a) hx
        refine ⟨u, ?_, u2⟩
        show (do loadVar t (← asAddr (tmps.getD a undef)) : Sem Value).run K.P w = _
        rw [had] at u1 ⊢
        simpa [Instr.loadAt, Instr.sureAddr, asAddr] using u1) h
  have hr : (results fn tmps).run K.P w = .ok (if h : us.toArray.size = 1 then us.toArray[0] else .tuple us.toArray) w := by
    unfold results
    simp only [Array.mapM_eq_mapM_toList]
    have e : (List.mapM (fun x : ResultVar => match x with
      | .tmp t => (pure (tmps.getD t undef) : Sem Value)
      | .cell a t => do loadVar t (← asAddr (tmps.getD a undef))) fn.results.toList).run K.P w = .ok us w := q1
    simp only [Sem.run_bind, Sem.run_pure, Array.getD_eq_getD_getElem?, map_eq_pure_bind, Result.andThen_ok] at e ⊢
    generalize hM : Sem.run K.P (List.mapM _ fn.results.toList) w = M
    have hM' : M = .ok us w := hM.symm.trans e
    subst hM'
    rfl
  refine ⟨_, hr, ?_⟩
  match us, rs, q2, q3 with
  | [], [], _, q3 => exact mkTuple_rel (vs := #[]) (gs := []) rfl fun j hj => absurd hj (by simp)
  | [u], [x], _, q3 => simpa [packG] using q3 0 (by simp)
  | u1 :: u2 :: us, x1 :: x2 :: rs, q2, q3 =>
    have : (if h : (u1 :: u2 :: us).toArray.size = 1 then (u1 :: u2 :: us).toArray[0] else Value.tuple (u1 :: u2 :: us).toArray) = Value.tuple (u1 :: u2 :: us).toArray := dif_neg (by simp)
    rw [this]
    exact mkTuple_rel (by simpa using q2) fun j hj => by rw [agetD]; exact q3 j hj

theorem vrel_poke {k q : Nat} {x : Option (List Deferred)} {o : Obj} (hq : w.heap[q]? = some (.deferred x)) (hS : ¬ S q) {v : Value} {g : GV} (hv : VRel w S μ k v g) : VRel (w.putObj q o) S μ k v g :=
  hv.mono (fun _ h => h) (fun b hb => World.putObj_heap_other (fun e : b = q => hS (e ▸ hb))) (poke_shp hq) (fun _ _ _ _ h => h) (Nat.le_refl _)

theorem marks_ok {n k : Nat} {F : Fence} {fn : Func} {tmps : Array Value} {s : Slots} {R : Ending → World → Prop} {w0 : World} {S0 : Nat → Prop} {μ0 : Mu} :
    ∀ (ds : List Deferred) (w : World), DefOk base w S μ ds → HRel w S μ H → Ev ℓ w0 S0 μ0 w S μ → w0.heap.size ≤ base → (∀ t, VRel w S μ k (tmps.getD t undef) (look s t)) →
    (∀ w2, HRel w2 S μ H → Ev ℓ w0 S0 μ0 w2 S μ → (∀ t, VRel w2 S μ k (tmps.getD t undef) (look s t)) → ∃ v, (results fn tmps).run P w2 = .ok v w2 ∧ R (.returned v) w2) →
    LeavesInM F n P fn tmps R ds .returning w
  | [], w, _, hH, he, _, hs, fin => fin w hH he hs
  | d :: ds, w, hd, hH, he, hb, hs, fin => by
    obtain ⟨q, h1, h2, h3, h4, h5⟩ := hd.each d (List.mem_cons_self ..)
    refine ⟨by simp, .inl ⟨q, w.putObj q (.deferred none), h1, run_takeDeferred h3, ?_⟩⟩
    refine marks_ok ds (w.putObj q (.deferred none)) ⟨fun d' hd' => ?_, (List.pairwise_cons.1 hd.apart).2⟩ (hH.poke h3 h4 h5) (he.poke h3 (Nat.le_trans hb h2)) hb (fun t => vrel_poke h3 h4 (hs t)) fin
    obtain ⟨q', g1, g2, g3, g4, g5⟩ := hd.each d' (List.mem_cons_of_mem _ hd')
    refine ⟨q', g1, g2, ?_, g4, g5⟩
    rw [World.putObj_heap_other]; exact g3
    intro e; subst e
    exact (List.pairwise_cons.1 hd.apart).1 d' hd' (h1.trans g1.symm)

theorem args_getD (vs : Array Value) (n t : Nat) : (vs ++ Array.replicate n undef).getD t undef = vs.getD t undef := by
  simp only [Array.getD_eq_getD_getElem?, Array.getElem?_append]
  split
  · rfl
  · rename_i h
    have h1 : vs[t]? = none := Array.getElem?_eq_none (by omega)
    rw [h1, Array.getElem?_replicate]
    split <;> rfl

/-- A call of a function. -/
theorem call_ok0 (K : Ctx) {rec : Rec} (hrec : RecOk K.P rec) {f : FuncId} {args : List GV} {c : Nat} {H' : Heap} {v : GV} (h : gcall0 K rec f args c H = some (v, H')) {vs : Array Value} (hH : HRel w S μ H)
    (hvs : vs.size = args.length) (hrel : ∀ j, j < args.length → VRel w S μ (H.length - 1) (vs.getD j undef) (args.getD j gdead)) :
    (callFunc f vs).run K.P w = .ok (.enter f vs) w ∧ CallsIn (Fw none) 0 K.P f vs w (Done (H.length - 1) H.length w S μ v H') := by
  unfold gcall0 at h
  split at h
  · cases h
  · rename_i fn hf
    split at h
    · cases h
    · rename_i code hb
      split at h
      · cases h
      · rename_i hc
        simp only [Bool.or_eq_true, decide_eq_true_eq, not_or, Bool.not_eq_true, Nat.not_lt] at hc
        obtain ⟨⟨hname, hnt⟩, hlen⟩ := hc
        refine ⟨by simp only [callFunc, Sem.run_bind, run_program, Result.andThen, hf, hname, hb]; rfl, ?_⟩
        have hst : StOk w.heap.size none w S μ ⟨slotsOf 0 (args.map canon), [] :: H, fn.ntmps⟩ { tmps := vs ++ Array.replicate (fn.ntmps - vs.size) undef, defers := [] } := by
          refine ⟨hH.push, fun t => ?_, ?_, by simp, Nat.le_refl _, ⟨fun d hd => by simp at hd, .nil⟩, fun l hl => by cases hl⟩
          · simp only [args_getD, look_slotsOf, Nat.zero_le, if_true, Nat.sub_zero, List.length_cons, Nat.add_sub_cancel]
            by_cases ht : t < args.length
            · have := canon_rel ((hrel t ht).up (show H.length - 1 ≤ H.length by omega))
              have e : (args.map canon).getD t gdead = canon (args.getD t gdead) := by simp [List.getD_eq_getElem?_getD, ht]
              rw [e]; exact this
            · have e : (args.map canon).getD t gdead = gdead := by
                rw [List.getD_eq_getElem?_getD, List.getElem?_eq_none (by simpa using ht)]; rfl
              rw [e]; exact vdead _
          · simp; omega
        have done : ∀ e st, rec f code ⟨slotsOf 0 (args.map canon), [] :: H, fn.ntmps⟩ = some (e, st) → (e = .normal ∨ e = .ret) →
            (match gresults K fn st with
              | some rs => (match rs with
                | [r] => gleave K f c r st.h
                | rs => gleave K f c (mkTuple rs) st.h)
              | none => none) = some (v, H') → CallsIn (Fw none) 0 K.P f vs w (Done (H.length - 1) H.length w S μ v H') := by
          intro e st hr he hres
          have hwp := hrec f code _ e st hr _ _ w S μ _ hst
          refine callsIn_of_wp_marks hf hb trivial (wpIn_mono hwp fun e' a' w' hq => ?_)
          obtain ⟨q1, q2, q3, S', μ', q4, q5⟩ := hq
          simp only [List.length_cons, Nat.add_sub_cancel] at q2 q5
          have main : LeavesInM (Fw none) 0 K.P fn a'.tmps (Done (H.length - 1) H.length w S μ v H') a'.defers .returning w' := by
            refine marks_ok (s := st.s) (k := st.h.length - 1) a'.defers w' q4.defs q4.heap q5 (Nat.le_refl _) q4.slots fun w2 h2 e2 s2 => ?_
            split at hres
            · rename_i rs hrs
              obtain ⟨u, u1, u2⟩ := results_run K h2 s2 hrs
              have hl : gleave K f c (packG rs) st.h = some (v, H') := by
                unfold packG
                split at hres <;> exact hres
              obtain ⟨S3, μ3, l1, l2, l3, l4⟩ := leave_ok K h2 u2 (by omega) hl
              refine ⟨u, u1, u, S3, μ3, rfl, l1, l2, ?_, by omega⟩
              have : st.h.length - 2 = H.length - 1 := by omega
              rw [this] at l3
              exact (e2.level (by omega)).trans l3
            · cases hres
          rcases he with rfl | rfl
          · simp only [exitOf] at q1; subst q1; exact main
          · simp only [exitOf] at q1; subst q1; exact main
        split at h
        · cases h
        · rename_i e st hne hr
          refine done e st hr ?_ h
          cases e with
          | normal => exact .inl rfl
          | ret => exact .inr rfl
          | exit id => exact absurd rfl (hne id)
        · cases h

/-! ### slices told as pure ones -/
theorem frzCell_rel (ℓ : Nat) (hH : HRel w S μ H) {k : Nat} {v : Value} {g : GV} (hv : VRel w S μ k v g) :
    ∃ S', HRel w S' μ (frzCell H g).2 ∧ Ev ℓ w S μ w S' μ ∧ VRel w S' μ k v (frzCell H g).1 ∧ SameBox H (frzCell H g).2 := by
  cases g with
  | hdr nm es top lo len =>
    obtain ⟨S', a1, a2, a3, a4⟩ := pureCell_rel ℓ hH hv
    exact ⟨S', a1, a2, .pure _ _ a3, a4⟩
  | _ => exact ⟨S, hH, .refl _ _ _ _, hv, .refl H⟩

theorem frzCells_rel (ℓ : Nat) : ∀ {gs : List GV} {vs : List Value} {S : Nat → Prop} {H : Heap} {k : Nat}, HRel w S μ H → CRel w S μ k vs gs →
    ∃ S', HRel w S' μ (frzCells H gs).2 ∧ Ev ℓ w S μ w S' μ ∧ CRel w S' μ k vs (frzCells H gs).1 ∧ SameBox H (frzCells H gs).2
  | [], vs, S, H, k, hH, hc => by cases hc; exact ⟨S, hH, .refl _ _ _ _, .nil, .refl H⟩
  | g :: gs, vs, S, H, k, hH, hc => by
    cases hc with
    | cons h1 h2 h3 =>
    obtain ⟨S1, a1, a2, a3, a4⟩ := frzCell_rel ℓ hH h2
    have h3' : CRel w S1 μ k _ gs := h3.mono a2.sub (fun _ _ => rfl) (fun _ _ h => h) (fun _ _ _ _ h => h) (Nat.le_refl _)
    obtain ⟨S2, b1, b2, b3, b4⟩ := frzCells_rel ℓ a1 h3'
    exact ⟨S2, b1, a2.trans b2, .cons h1 (a3.mono b2.sub (fun _ _ => rfl) (fun _ _ h => h) (fun _ _ _ _ h => h) (Nat.le_refl _)) b3, a4.trans b4⟩

theorem frzVal_rel (ℓ : Nat) (hH : HRel w S μ H) {k : Nat} {v : Value} {g : GV} (hv : VRel w S μ k v g) :
    ∃ S', HRel w S' μ (frzVal H g).2 ∧ Ev ℓ w S μ w S' μ ∧ VRel w S' μ k v (frzVal H g).1 ∧ SameBox H (frzVal H g).2 := by
  cases g with
  | agg l =>
    obtain ⟨vs, rfl, hc⟩ := hv.cells
    obtain ⟨S', a1, a2, a3, a4⟩ := frzCells_rel ℓ hH hc
    exact ⟨S', a1, a2, mkAgg_rel' a3, a4⟩
  | _ => exact frzCell_rel ℓ hH hv

theorem frzVals_rel (ℓ : Nat) : ∀ {gs : List GV} {f : Nat → Value} {S : Nat → Prop} {H : Heap} {k : Nat}, HRel w S μ H → (∀ j, j < gs.length → VRel w S μ k (f j) (gs.getD j gdead)) →
    ∃ S', HRel w S' μ (frzVals H gs).2 ∧ Ev ℓ w S μ w S' μ ∧ (∀ j, j < gs.length → VRel w S' μ k (f j) ((frzVals H gs).1.getD j gdead)) ∧ SameBox H (frzVals H gs).2 ∧ (frzVals H gs).1.length = gs.length
  | [], f, S, H, k, hH, hv => ⟨S, hH, .refl _ _ _ _, fun j hj => by simp at hj, .refl H, rfl⟩
  | g :: gs, f, S, H, k, hH, hv => by
    obtain ⟨S1, a1, a2, a3, a4⟩ := frzVal_rel ℓ hH (show VRel w S μ k (f 0) g from hv 0 (by simp))
    have hmono : ∀ {S1 S2 : Nat → Prop} {v : Value} {g : GV}, (∀ b, S1 b → S2 b) → VRel w S1 μ k v g → VRel w S2 μ k v g := fun hs h => h.mono hs (fun _ _ => rfl) (fun _ _ h => h) (fun _ _ _ _ h => h) (Nat.le_refl _)
    obtain ⟨S2, b1, b2, b3, b4, b5⟩ := frzVals_rel ℓ (gs := gs) (f := fun j => f (j + 1)) a1 (fun j hj => hmono a2.sub (by simpa using hv (j + 1) (by simpa using hj)))
    refine ⟨S2, b1, a2.trans b2, fun j hj => ?_, a4.trans b4, congrArg (· + 1) b5⟩
    cases j with
    | zero => exact hmono b2.sub (by simpa [frzVals] using a3)
    | succ j => simpa [frzVals] using b3 j (by simpa using hj)

/-! ### slices that are lent -/
theorem flatPL_get : ∀ {l : List PV}, flatPL l = true → ∀ j, flatP (l.getD j .dead) = true
  | [], _, j => by simp [flatP]
  | g :: r, h, j => by
    simp only [flatPL, Bool.and_eq_true] at h
    cases j with
    | zero => simpa using h.1
    | succ j => simpa using flatPL_get h.2 j

theorem PRep.flat {v : Value} {p : PV} (h : PRep w S v p) (hf : flatP p = true) : PRep w' S' v p := by
  induction h with
  | int k n => exact .int k n
  | bool b => exact .bool b
  | str s => exact .str s
  | slice0 a cap => exact .slice0 a cap
  | slice b o cap es l f hb he hes hf' h1 _ hc ih =>
    cases l with
    | nil => exact .slice0 _ _
    | cons x r => simp [flatP] at hf
  | agg vs l h h1 _ ih => exact .agg vs l h h1 fun j hj => ih j hj (flatPL_get (by simpa only [flatP] using hf) j)
  | tuple vs l h _ ih => exact .tuple vs l h fun j hj => ih j hj (flatPL_get (by simpa only [flatP] using hf) j)
  | fn f => exact .fn f
  | nilp => exact .nilp
  | nilf => exact .nilf
  | nilm => exact .nilm
  | nili => exact .nili
  | iface t v p _ ih => exact .iface t v p (ih (by simpa only [flatP] using hf))
  | dead v => exact .dead v

theorem VRel.flat {k k' : Nat} {v : Value} {g : GV} (h : VRel w S μ k v g) (hf : flatG g = true) : VRel w' S' μ' k' v g := by
  cases g with
  | pure p => exact .pure _ _ (h.pv.flat (by simpa only [flatG] using hf))
  | nils => cases h with | nils a => exact .nils a
  | _ => simp [flatG] at hf

theorem CRel.flat {k k' : Nat} {vs : List Value} {gs : List GV} (h : CRel w S μ k vs gs) (hf : flatGL gs = true) : CRel w' S' μ' k' vs gs := by
  induction h with
  | nil => exact .nil
  | cons h1 h _ ih =>
    simp only [flatGL, Bool.and_eq_true] at hf
    exact .cons h1 (h.flat hf.1) (ih hf.2)

def okArg (q : Option Nm) : GV → Prop
  | .pure _ | .nils => True
  | .func _ a c => (allPure a).isSome = true ∧ (allPure c).isSome = true
  | .bptr nm _ => q = some nm
  | _ => False

theorem okArg.none {q : Option Nm} {g : GV} (h : okArg none g) : okArg q g := by
  cases g with
  | bptr nm off => cases h
  | _ => exact h

theorem borBox_ok : ∀ {l : List GV} {q : Option Nm}, borBox l = some q → ∀ g ∈ l, okArg q g
  | [], q, _, g, hg => by simp at hg
  | x :: r, q, h, g, hg => by
    simp only [borBox] at h
    split at h
    · cases h
    · rename_i q' hr
      have ih := borBox_ok hr
      split at h
      · cases h
        rcases List.mem_cons.1 hg with rfl | hg
        · trivial
        · exact ih g hg
      · cases h
        rcases List.mem_cons.1 hg with rfl | hg
        · trivial
        · exact ih g hg
      · split at h
        · rename_i hc
          cases h
          rcases List.mem_cons.1 hg with rfl | hg
          · simpa only [okArg, Bool.and_eq_true] using hc
          · exact ih g hg
        · cases h
      · rename_i nm off
        split at h
        · cases h
          rcases List.mem_cons.1 hg with rfl | hg
          · rfl
          · exact (ih g hg).none
        · rename_i nm'
          split at h
          · rename_i e
            cases h
            rcases List.mem_cons.1 hg with rfl | hg
            · simp [okArg, e]
            · exact ih g hg
          · cases h
      · cases h

theorem allPure_get : ∀ {l : List GV}, (allPure l).isSome = true → ∀ j, ∃ p, l.getD j gdead = .pure p
  | [], _, j => ⟨.dead, by simp [gdead]⟩
  | g :: r, h, j => by
    cases g with
    | pure p =>
      have h2 : (allPure r).isSome = true := by
        simp only [allPure] at h
        split at h
        · rename_i ps hps; rw [hps]; rfl
        · cases h
      cases j with
      | zero => exact ⟨p, by simp⟩
      | succ j => simpa using allPure_get h2 j
    | _ => simp [allPure] at h

theorem okArg_rel {q : Option Nm} {k : Nat} {v : Value} {g : GV} (h : VRel w S μ k v g) (ho : okArg q g) (hS : ∀ b, S b → S' b) (hm : ∀ nm b, q = some nm → μ nm 0 = some b → μ' nm 0 = some b) : VRel w S' μ' k v g := by
  have hp : ∀ {v p}, PRep w S v p → PRep w S' v p := fun h => h.mono hS (fun _ _ => rfl)
  have hl : ∀ {l : List GV} {f : Nat → Value}, (allPure l).isSome = true → (∀ j, j < l.length → VRel w S μ k (f j) (l.getD j gdead)) → ∀ j, j < l.length → VRel w S' μ' k (f j) (l.getD j gdead) := fun {l f} h hv j hj => by
    obtain ⟨p, e⟩ := allPure_get h j
    have := hv j hj
    rw [e] at this ⊢
    exact .pure _ _ (hp this.pv)
  cases h with
  | pure v p h => exact .pure _ _ (hp h)
  | nils a => exact .nils a
  | func f a c la lc h1 h2 h3 h4 => exact .func f a c la lc h1 h2 (hl ho.1 h3) (hl ho.2 h4)
  | bptr nm off b h1 h2 => exact .bptr nm off b h1 (hm nm b ho h2)
  | _ => exact ho.elim

theorem emptyH_length (H : Heap) : (emptyH H).length = H.length := by simp [emptyH]
theorem emptyH_get (nm : Nm) : ∀ H : Heap, (emptyH H).get nm = none
  | [] => rfl
  | f :: H => by
    show (if nm.1 = (emptyH H).length then Fr.get [] nm.2 else Heap.get (emptyH H) nm) = none
    rw [emptyH_get nm H]
    simp [Fr.get]

theorem flatRows_get : ∀ {l : List (List PV)}, flatRows l = true → ∀ i j, flatP ((l.getD i []).getD j .dead) = true
  | [], _, i, j => by simp [flatP]
  | g :: r, h, i, j => by
    simp only [flatRows, Bool.and_eq_true] at h
    cases i with
    | zero => simpa using flatPL_get h.1 j
    | succ i => simpa using flatRows_get h.2 i j

theorem lentIns_spec {H0 : Heap} {L : Nat} : ∀ (ks : List Nat) (H H' : Heap), ks.Nodup → L < H.length → lentIns H0 L ks H = some H' →
    H'.length = H.length ∧ (∀ k ∈ ks, ∃ es rows vf, H0.get (L, k) = some (.arr es rows vf false) ∧ flatRows rows = true ∧ H'.get (L, k) = some (.arr es rows vf false) ∧ H.get (L, k) = none) ∧
      ∀ nm : Nm, (∀ k ∈ ks, nm ≠ (L, k)) → H'.get nm = H.get nm
  | [], H, H', _, _, h => by
    simp only [lentIns, Option.some.injEq] at h; subst h
    exact ⟨rfl, fun k hk => by simp at hk, fun _ _ => rfl⟩
  | k :: ks, H, H', hn, hl, h => by
    obtain ⟨n1, n2⟩ := List.nodup_cons.1 hn
    simp only [lentIns] at h
    split at h
    · rename_i es rows vf h1 h2
      split at h
      · rename_i hf
        obtain ⟨q1, q2, q3⟩ := lentIns_spec ks _ H' n2 (by rw [Heap.length_set]; exact hl) h
        have hne : ∀ k' ∈ ks, ((L, k) : Nm) ≠ (L, k') := fun k' hk' e => by
          have := (Prod.mk.inj e).2
          subst this; exact n1 hk'
        refine ⟨q1.trans (Heap.length_set _ _ _), fun k' hk' => ?_, fun nm hnm => ?_⟩
        · rcases List.mem_cons.1 hk' with rfl | hk'
          · refine ⟨es, rows, vf, h1, hf, ?_, h2⟩
            rw [q3 _ hne]
            exact Heap.get_set _ hl
          · obtain ⟨es', rows', vf', x1, x2, x3, x4⟩ := q2 k' hk'
            refine ⟨es', rows', vf', x1, x2, x3, ?_⟩
            rw [Heap.get_set_other _ (Ne.symm (hne k' hk'))] at x4
            exact x4
        · rw [q3 nm fun k' hk' => hnm k' (List.mem_cons_of_mem _ hk')]
          exact Heap.get_set_other _ (hnm k (List.mem_cons_self ..))
      · cases h
    · cases h

theorem lent1_rel {k L : Nat} {names : List Nat} (hm : ∀ q t b, q ∈ names → μ (L, q) t = some b → μ' (L, q) t = some b) {v : Value} {g : GV} (h : VRel w S μ k v g) (hl : lent1 L g = true) (hr : ∀ q ∈ refs1 L g, q ∈ names) : VRel w S' μ' k v g := by
  cases h with
  | pure v p h => exact .pure _ _ (h.flat (by simpa only [lent1] using hl))
  | nils a => exact .nils a
  | hdr nm es top lo len cap b n e h1 h2 h3 h4 h5 h6 =>
    have e1 : nm.1 = L := by simpa only [lent1, decide_eq_true_eq] using hl
    have e2 : nm = (L, nm.2) := Prod.ext e1 rfl
    refine .hdr nm es top lo len cap b n e h1 ?_ h3 h4 h5 h6
    rw [e2] at h2 ⊢
    exact hm _ _ _ (hr _ (by simp [refs1, e1])) h2
  | _ => simp [lent1] at hl

theorem lentL_get {L : Nat} : ∀ {l : List GV}, lentL L l = true → ∀ j, j < l.length → lent1 L (l.getD j gdead) = true
  | [], _, j, hj => by simp at hj
  | g :: r, h, j, hj => by
    simp only [lentL, Bool.and_eq_true] at h
    cases j with
    | zero => simpa using h.1
    | succ j => simpa using lentL_get h.2 j (by simpa using hj)

theorem lentLL_get {L : Nat} : ∀ {l : List GV}, lentLL L l = true → ∀ j, j < l.length → lent2 L (l.getD j gdead) = true
  | [], _, j, hj => by simp at hj
  | g :: r, h, j, hj => by
    simp only [lentLL, Bool.and_eq_true] at h
    cases j with
    | zero => simpa using h.1
    | succ j => simpa using lentLL_get h.2 j (by simpa using hj)

theorem lent2_rel {k L : Nat} {names : List Nat} (hm : ∀ q t b, q ∈ names → μ (L, q) t = some b → μ' (L, q) t = some b) {v : Value} {g : GV} (h : VRel w S μ k v g) (hl : lent2 L g = true) (hr : ∀ q ∈ refs2 L g, q ∈ names) : VRel w S' μ' k v g := by
  cases g with
  | agg l =>
    cases h with
    | agg vs _ h1 h2 h3 =>
      refine .agg vs l h1 h2 fun j hj => lent1_rel hm (h3 j hj) (lentL_get (by simpa only [lent2] using hl) j hj) fun q hq => hr q ?_
      have e2 : l.getD j gdead = l[j] := by simp [List.getD_eq_getElem?_getD, hj]
      rw [e2] at hq
      exact List.mem_flatMap.2 ⟨l[j], List.getElem_mem hj, hq⟩
  | func f a c => simp [lent2, lent1] at hl
  | _ => exact lent1_rel hm h (by simpa only [lent2] using hl) (by simpa only [refs2] using hr)

theorem lentV_rel {k L : Nat} {names : List Nat} (hm : ∀ q t b, q ∈ names → μ (L, q) t = some b → μ' (L, q) t = some b) {v : Value} {g : GV} (h : VRel w S μ k v g) (hl : lentV L g = true) (hr : ∀ q ∈ refs L g, q ∈ names) : VRel w S' μ' k v g := by
  cases g with
  | tuple l =>
    cases h with
    | tuple vs _ h1 h2 =>
      refine .tuple vs l h1 fun j hj => lent2_rel hm (h2 j hj) (lentLL_get (by simpa only [lentV] using hl) j hj) fun q hq => hr q ?_
      have e2 : l.getD j gdead = l[j] := by simp [List.getD_eq_getElem?_getD, hj]
      rw [e2] at hq
      exact List.mem_flatMap.2 ⟨l[j], List.getElem_mem hj, hq⟩
  | _ => exact lent2_rel hm h (by simpa only [lentV] using hl) (by simpa only [refs] using hr)

/-- What a call with lent slices tells, in the caller's world. -/
theorem lentEnd_ok {n0 : Nat} {H0 Hm H' : Heap} {v0 v : GV} {u : Value} (h0 : HRel w S' μ' H0) (hm : HRel w S μ Hm) (hp : 0 < Hm.length) (hS : ∀ b, S b → b < n0) (hlt : ∀ nm t b, μ nm t = some b → b < n0)
    (hnew : ∀ nm t b, Hm.get nm = none → μ' nm t = some b → n0 ≤ b) (hv : VRel w S' μ' (Hm.length - 1) u v0) (h : lentEnd H0 v0 Hm = some (v, H')) :
    ∃ μ2, VRel w S μ2 (Hm.length - 1) u v ∧ HRel w S μ2 H' ∧ (∀ nm t b, μ nm t = some b → μ2 nm t = some b) ∧ (∀ nm t b, μ2 nm t = some b → b < n0 → μ nm t = some b) ∧ H'.length = Hm.length := by
  unfold lentEnd at h
  split at h
  · rename_i hlent
    split at h
    · rename_i H1 hins
      simp only [Option.some.injEq, Prod.mk.injEq] at h
      obtain ⟨rfl, rfl⟩ := h
      generalize hL : Hm.length - 1 = L at *
      generalize hks : dedup (refs L v0) = ks at *
      have hnd : ks.Nodup := hks ▸ nodup_dedup _
      obtain ⟨q1, q2, q3⟩ := lentIns_spec ks Hm H1 hnd (by omega) hins
      let μ2 : Mu := fun nm t => if nm.1 = L ∧ nm.2 ∈ ks then μ' nm t else μ nm t
      have e1 : ∀ k t, k ∈ ks → μ2 (L, k) t = μ' (L, k) t := fun k t hk => if_pos ⟨rfl, hk⟩
      have e2 : ∀ nm : Nm, (∀ k ∈ ks, nm ≠ (L, k)) → ∀ t, μ2 nm t = μ nm t := fun nm hn t => if_neg fun hc => hn nm.2 hc.2 (Prod.ext hc.1 rfl)
      have cases' : ∀ nm : Nm, (∃ k ∈ ks, nm = (L, k)) ∨ ∀ k ∈ ks, nm ≠ (L, k) := fun nm => by
        by_cases hc : nm.1 = L ∧ nm.2 ∈ ks
        · exact .inl ⟨nm.2, hc.2, Prod.ext hc.1 rfl⟩
        · exact .inr fun k hk e => hc (by subst e; exact ⟨rfl, hk⟩)
      have old : ∀ nm t b, μ nm t = some b → ∀ k ∈ ks, nm ≠ (L, k) := fun nm t b hb k hk e => by
        subst e
        obtain ⟨x, hx⟩ := hm.bnd _ _ _ hb
        obtain ⟨_, _, _, _, _, _, x4⟩ := q2 k hk
        rw [x4] at hx; cases hx
      have fresh : ∀ k t b, k ∈ ks → μ' (L, k) t = some b → n0 ≤ b := fun k t b hk hb => by
        obtain ⟨_, _, _, _, _, _, x4⟩ := q2 k hk
        exact hnew _ _ _ x4 hb
      have up : ∀ nm t b, μ nm t = some b → μ2 nm t = some b := fun nm t b hb => by rw [e2 nm (old nm t b hb)]; exact hb
      refine ⟨μ2, ?_, ⟨fun nm x hx t b hb => ?_, fun nm t b hb => ?_, fun nm nm' t t' b h1 h2 => ?_, fun nm t b hb => ?_, hm.slt, hm.glb⟩, up, fun nm t b hb hlt => ?_, q1⟩
      · exact lentV_rel (names := ks) (fun q t b hq hb => by rw [e1 q t hq]; exact hb) hv hlent fun q hq => by rw [← hks]; exact (mem_dedup _).2 hq
      · rcases cases' nm with ⟨k, hk, rfl⟩ | hn
        · obtain ⟨es, rows, vf, x1, x2, x3, x4⟩ := q2 k hk
          rw [x3] at hx; cases hx
          rw [e1 k t hk] at hb
          obtain ⟨h0', h1', h2', ⟨b0, h3'⟩, h4'⟩ := h0.blk _ _ x1 t b hb
          refine ⟨h0', h1', h2', ⟨b0, by rw [e1 k _ hk]; exact h3'⟩, fun top b hb' => ?_⟩
          rw [e1 k _ hk] at hb'
          obtain ⟨g1, g2, g3, g4⟩ := h4' top b hb'
          refine ⟨g1, g2, fun _ hs => by have := hS b hs; have := fresh k top b hk hb'; omega, fun hv => ⟨fun hr => (by cases hr), fun i j hi hj => ?_⟩⟩
          obtain ⟨u', u1, u2, u3⟩ := (g4 hv).2 i j hi hj
          exact ⟨u', u1, u2, u3.flat (flatRows_get x2 i j)⟩
        · rw [q3 nm hn] at hx
          rw [e2 nm hn] at hb
          exact (hm.blk nm x hx t b hb).mono (fun _ h => h) (fun _ _ => rfl) (fun _ _ h => h) (fun n t b _ h => up n t b h) (fun t => e2 nm hn t) (fun _ _ _ => rfl) (fun _ _ _ h => h)
      · rcases cases' nm with ⟨k, hk, rfl⟩ | hn
        · obtain ⟨es, rows, vf, x1, x2, x3, x4⟩ := q2 k hk
          exact ⟨_, x3⟩
        · rw [e2 nm hn] at hb
          obtain ⟨x, hx⟩ := hm.bnd _ _ _ hb
          exact ⟨x, by rw [q3 nm hn]; exact hx⟩
      · rcases cases' nm with ⟨k, hk, rfl⟩ | hn
        · rw [e1 k t hk] at h1
          rcases cases' nm' with ⟨k', hk', rfl⟩ | hn'
          · rw [e1 k' t' hk'] at h2
            exact h0.disj _ _ _ _ _ h1 h2
          · rw [e2 nm' hn'] at h2
            have := fresh k t b hk h1
            have := hlt _ _ _ h2
            omega
        · rw [e2 nm hn] at h1
          rcases cases' nm' with ⟨k', hk', rfl⟩ | hn'
          · rw [e1 k' t' hk'] at h2
            have := fresh k' t' b hk' h2
            have := hlt _ _ _ h1
            omega
          · rw [e2 nm' hn'] at h2
            exact hm.disj _ _ _ _ _ h1 h2
      · rcases cases' nm with ⟨k, hk, rfl⟩ | hn
        · rw [e1 k t hk] at hb; exact h0.lt _ _ _ hb
        · rw [e2 nm hn] at hb; exact hm.lt _ _ _ hb
      · rcases cases' nm with ⟨k, hk, rfl⟩ | hn
        · rw [e1 k t hk] at hb
          have := fresh k t b hk hb
          omega
        · rw [e2 nm hn] at hb; exact hb
    · cases h
  · cases h

theorem borrow_ok (K : Ctx) {rec : Rec} (hrec : RecOk K.P rec) {f : FuncId} {args : List GV} {c : Nat} {Hf H' : Heap} {v : GV} (h : gborrow K rec f args c H = some (v, H')) {vs : Array Value} (hH : HRel w S μ H)
    {S1 : Nat → Prop} (hf : HRel w S1 μ Hf) (hfb : ∀ nm cs, H.get nm = some (.box cs) → Hf.get nm = some (.box cs))
    (hvs : vs.size = args.length) (hrel : ∀ j, j < args.length → VRel w S1 μ (H.length - 1) (vs.getD j undef) (args.getD j gdead)) :
    (callFunc f vs).run K.P w = .ok (.enter f vs) w ∧ CallsIn (Fw none) 0 K.P f vs w (Done (H.length - 1) H.length w S μ v H') := by
  -- the small world: all is frozen but the box
  have main : ∀ (q : Option Nm) (H0 H0' Hm : Heap) (v0 : GV), borBox args = some q → H0.length = H.length → HRel w (fun b => b < w.heap.size ∧ ∀ nm, q = some nm → μ nm 0 ≠ some b) (fun n t => if q = some n ∧ t = 0 then μ n t else none) H0 →
      (∀ nm, q = some nm → (∃ cs, H.get nm = some (.box cs)) ∧ Hm.get nm ≠ none) → gcall0 K rec f args c H0 = some (v0, H0') → lentEnd H0' v0 Hm = some (v, H') → Hm.length = H.length →
      (∀ w' S' μ', HRel w' S' μ' H0' → Ev (H.length - 1) w (fun b => b < w.heap.size ∧ ∀ nm, q = some nm → μ nm 0 ≠ some b) (fun n t => if q = some n ∧ t = 0 then μ n t else none) w' S' μ' → HRel w' S μ Hm) →
      (callFunc f vs).run K.P w = .ok (.enter f vs) w ∧ CallsIn (Fw none) 0 K.P f vs w (Done (H.length - 1) H.length w S μ v H') := by
    intro q H0 H0' Hm v0 hq hl0 hH0 hbx hg hend hml hres
    have hbox : ∀ nm b, q = some nm → μ nm 0 = some b → ¬ S b ∧ ¬ S1 b := fun nm b e hm => by
      obtain ⟨⟨cs, hcs⟩, _⟩ := hbx nm e
      constructor
      · obtain ⟨b', _, _, h1, h2, _⟩ := hH.blk _ _ hcs _ _ hm
        rw [hm] at h1; cases h1; exact h2
      · obtain ⟨b', _, _, h1, h2, _⟩ := hf.blk _ _ (hfb _ _ hcs) _ _ hm
        rw [hm] at h1; cases h1; exact h2
    obtain ⟨r1, r2⟩ := call_ok0 K hrec hg hH0 hvs (fun j hj => by
      have hm : args.getD j gdead ∈ args := by
        have : args.getD j gdead = args[j] := by simp [List.getD_eq_getElem?_getD, hj]
        rw [this]; exact List.getElem_mem hj
      rw [hl0]
      exact okArg_rel (hrel j hj) (borBox_ok hq _ hm) (fun b hb => ⟨hf.slt b hb, fun nm e hm => (hbox nm b e hm).2 hb⟩) (fun nm b e hm => by rw [if_pos ⟨e, rfl⟩]; exact hm))
    have hp : 0 < H.length := by
      unfold gcall0 at hg
      split at hg
      · cases hg
      · split at hg
        · cases hg
        · split at hg
          · cases hg
          · rename_i hc
            simp only [Bool.or_eq_true, decide_eq_true_eq, not_or] at hc
            omega
    refine ⟨r1, CallsIn.mono r2 fun e w' hd => ?_⟩
    obtain ⟨u, S', μ', d1, d2, d3, d4, d5⟩ := hd
    rw [hl0] at d4
    have k1 := hres w' S' μ' d3 d4
    rw [show H0'.length - 1 = Hm.length - 1 by omega] at d2
    obtain ⟨μ2, z1, z2, z3, z4, z5⟩ := lentEnd_ok (n0 := w.heap.size) d3 k1 (by omega) hH.slt hH.lt (fun nm t b hn hb => by
      rcases Nat.lt_or_ge b w.heap.size with hlt | hge
      · exfalso
        obtain ⟨nm', t', h'⟩ := d4.own nm t b hb hlt
        have h'' : (if q = some nm' ∧ t' = 0 then μ nm' t' else none) = some b := h'
        split at h''
        · rename_i hc
          obtain ⟨⟨cs, hcs⟩, hne⟩ := hbx nm' hc.1
          have hb' := d4.mu nm' t' b (by have := Heap.get_lt hcs; omega) h'
          have := d3.disj _ _ _ _ _ hb hb'
          subst this
          exact hne hn
        · cases h''
      · exact hge) d2 hend
    refine ⟨u, S, μ2, d1, by rw [show H'.length - 1 = Hm.length - 1 by omega]; exact z1, z2, ?_, by omega⟩
    exact ⟨d4.os, d4.tape, d4.out, d4.size, fun _ h => h, fun b hb ho => d4.same b hb (.inl ⟨hb, fun nm e hm => by
      rcases ho with ho | ho
      · exact (hbox nm b e hm).1 ho
      · exact ho _ _ hm⟩), d4.shp, d4.lp, fun nm t b _ h => z3 nm t b h, fun nm t b h hlt => ⟨nm, t, z4 nm t b h hlt⟩, fun _ h _ => .inl h⟩
  unfold gborrow at h
  split at h
  · cases h
  · rename_i hq
    split at h
    · rename_i v0 H0' hg
      refine main none (emptyH H) H0' H v0 hq (emptyH_length H) ⟨fun nm x hx t b hb => ?_, fun nm t b hb => ?_, fun nm nm' t t' b h1 h2 => ?_, fun nm t b hb => ?_, fun b hb => hb.1, hH.glb.mono (fun b hb => ⟨hH.slt b hb, fun nm e => by cases e⟩) (fun _ _ => rfl)⟩ (fun nm e => by cases e) hg h rfl fun w' S' μ' h3 h4 => ?_
      · simp at hb
      · simp at hb
      · simp at h1
      · simp at hb
      · have hsame : ∀ b, b < w.heap.size → w'.heap[b]? = w.heap[b]? := fun b hb => h4.same b hb (.inl ⟨hb, fun nm e => by cases e⟩)
        exact ⟨fun nm x hx t b hb => (hH.blk nm x hx t b hb).mono (fun _ h => h) (fun b hb => hsame b (hH.slt b hb)) h4.shp (fun _ _ _ _ h => h) (fun _ => rfl) (fun t b hm => hsame b (hH.lt _ _ _ hm)) (fun _ _ _ h => h),
          hH.bnd, hH.disj, fun nm t b h => Nat.lt_of_lt_of_le (hH.lt nm t b h) h4.size, fun b h => Nat.lt_of_lt_of_le (hH.slt b h) h4.size, hH.glb.mono (fun _ h => h) (fun b hb => hsame b (hH.slt b hb))⟩
    · cases h
  · rename_i nm hq
    split at h
    · rename_i cs hbx
      have hlt : nm.1 < H.length := Heap.get_lt hbx
      split at h
      · cases h
      · rename_i hcs
        have hcs : flatGL cs = true := by simpa using hcs
        split at h
        · rename_i v0 H0' hg
          split at h
          · rename_i cs' hbx'
            split at h
            · rename_i hfl
              have hset : ((emptyH H).set nm (.box cs)).get nm = some (.box cs) := Heap.get_set _ (by rw [emptyH_length]; exact hlt)
              have hm0 : ∀ n t b, (if (some nm : Option Nm) = some n ∧ t = 0 then μ n t else none) = some b → n = nm ∧ t = 0 ∧ μ nm 0 = some b := fun n t b hb => by
                split at hb
                · rename_i hc
                  obtain ⟨c1, c2⟩ := hc
                  cases c1; subst c2
                  exact ⟨rfl, rfl, hb⟩
                · cases hb
              refine main (some nm) _ H0' _ v0 hq (by rw [Heap.length_set, emptyH_length]) ⟨fun n x hx t b hb => ?_, fun n t b hb => ?_, fun n n' t t' b h1 h2 => ?_, fun n t b hb => ?_, fun b hb => hb.1, hH.glb.mono (fun b hb => ⟨hH.slt b hb, fun n e hm => by
                  cases e
                  obtain ⟨b', _, _, g1, g2, _⟩ := hH.blk _ _ hbx _ _ hm
                  rw [hm] at g1; cases g1; exact g2 hb⟩) (fun _ _ => rfl)⟩ (fun n e => by cases e; exact ⟨⟨cs, hbx⟩, by rw [Heap.get_set _ hlt]; simp⟩) hg h (by rw [Heap.length_set]) fun w' S' μ' h3 h4 => ?_
              · obtain ⟨rfl, rfl, hb2⟩ := hm0 n t b hb
                rw [hset] at hx; cases hx
                obtain ⟨b', c1, e1, g1, g2, g3, g4⟩ := hH.blk _ _ hbx _ _ hb2
                refine ⟨b', c1, e1, by show (if (some n : Option Nm) = some n ∧ (0 : Nat) = 0 then μ n 0 else none) = some b'; rw [if_pos ⟨rfl, rfl⟩]; exact g1, fun hs => hs.2 n rfl g1, g3, g4.flat hcs⟩
              · obtain ⟨rfl, rfl, hb2⟩ := hm0 n t b hb
                exact ⟨_, hset⟩
              · exact (hm0 _ _ _ h1).1.trans (hm0 _ _ _ h2).1.symm
              · obtain ⟨rfl, rfl, hb2⟩ := hm0 n t b hb
                exact hH.lt _ _ _ hb2
              · have hsame : ∀ b, b < w.heap.size → μ nm 0 ≠ some b → w'.heap[b]? = w.heap[b]? := fun b hb hn => h4.same b hb (.inl ⟨hb, fun n e => by cases e; exact hn⟩)
                have hSb : ∀ b, S b → μ nm 0 ≠ some b := fun b hb hm => by
                  obtain ⟨b', _, _, g1, g2, _⟩ := hH.blk _ _ hbx _ _ hm
                  rw [hm] at g1; cases g1; exact g2 hb
                have hw : ∀ b, S b → w'.heap[b]? = w.heap[b]? := fun b hb => hsame b (hH.slt b hb) (hSb b hb)
                refine ⟨fun n x hx t b hb => ?_, fun n t b hb => ?_, hH.disj, fun n t b h => Nat.lt_of_lt_of_le (hH.lt n t b h) h4.size, fun b h => Nat.lt_of_lt_of_le (hH.slt b h) h4.size, hH.glb.mono (fun _ h => h) hw⟩
                · by_cases e : n = nm
                  · subst e
                    rw [Heap.get_set _ hlt] at hx; cases hx
                    obtain ⟨b', c1, e1, g1, g2, g3, g4⟩ := hH.blk _ _ hbx _ _ hb
                    have hmu : μ' n 0 = some b' := h4.mu n 0 b' (by omega) (by show (if (some n : Option Nm) = some n ∧ (0 : Nat) = 0 then μ n 0 else none) = some b'; rw [if_pos ⟨rfl, rfl⟩]; exact g1)
                    obtain ⟨b2, c2, e2, k1, k2, k3, k4⟩ := h3.blk _ _ hbx' _ _ hmu
                    rw [hmu] at k1; cases k1
                    exact ⟨b', c2, e2, g1, g2, k3, k4.flat hfl⟩
                  · rw [Heap.get_set_other _ e] at hx
                    exact (hH.blk n x hx t b hb).mono (fun _ h => h) hw h4.shp (fun _ _ _ _ h => h) (fun _ => rfl) (fun t b hm => hsame b (hH.lt _ _ _ hm) fun h => e (hH.disj _ _ _ _ _ hm h)) (fun _ _ _ h => h)
                · obtain ⟨x, hx⟩ := hH.bnd n t b hb
                  by_cases e : n = nm
                  · subst e; exact ⟨_, Heap.get_set _ hlt⟩
                  · exact ⟨x, by rw [Heap.get_set_other _ e]; exact hx⟩
            · cases h
          · cases h
        · cases h
    · cases h

theorem emptyArg_inv {args : List GV} {vs : Array Value} {k : Nat} (h : emptyArg args = true) (hvs : vs.size = args.length) (hrel : ∀ j, j < args.length → VRel w S μ k (vs.getD j undef) (args.getD j gdead)) : ∃ a cap, vs = #[.slice a 0 cap] := by
  have one : ∀ g : GV, args = [g] → (∃ a cap, vs.getD 0 undef = .slice a 0 cap) → ∃ a cap, vs = #[.slice a 0 cap] := fun g e ⟨a, cap, h0⟩ => by
    subst e
    refine ⟨a, cap, ?_⟩
    have hs : vs.size = 1 := hvs
    apply Array.ext (by simp [hs])
    intro i h1 h2
    have : i = 0 := by simp at h2; omega
    subst this
    simpa [Array.getD_eq_getD_getElem?, hs] using h0
  unfold emptyArg at h
  split at h
  · refine one _ rfl ?_
    have := hrel 0 (by simp)
    simp only [List.getD_cons_zero] at this
    generalize vs.getD 0 undef = x at this ⊢
    cases this with
    | nils a => exact ⟨a, 0, rfl⟩
  · refine one _ rfl ?_
    have := hrel 0 (by simp)
    simp only [List.getD_cons_zero] at this
    obtain ⟨a, cap, e, _⟩ := this.pv.slice_inv
    exact ⟨a, cap, e⟩
  · cases h

theorem call_ok (K : Ctx) (hK : CtxOk K) {rec : Rec} (hrec : RecOk K.P rec) {f : FuncId} {args : List GV} {c : Nat} {H' : Heap} {v : GV} (h : gcall K rec f args c H = some (v, H')) {vs : Array Value} (hH : HRel w S μ H)
    (hvs : vs.size = args.length) (hrel : ∀ j, j < args.length → VRel w S μ (H.length - 1) (vs.getD j undef) (args.getD j gdead)) :
    (callFunc f vs).run K.P w = .ok (.enter f vs) w ∧ CallsIn (Fw none) 0 K.P f vs w (Done (H.length - 1) H.length w S μ v H') := by
  have hcase : (∃ e, K.cln f = true ∧ K.ext f = some e ∧ H.length ≠ 0 ∧ e args H = some (v, H')) ∨ ((K.cln f = true → K.ext f = none) ∧ gcallN K rec f args c H = some (v, H')) := by
    unfold gcall at h
    split at h
    · rename_i hc
      split at h
      · rename_i e he
        split at h
        · cases h
        · rename_i h0
          exact .inl ⟨e, hc, he, h0, h⟩
      · rename_i he
        exact .inr ⟨fun _ => he, h⟩
    · rename_i hc
      exact .inr ⟨fun h => absurd h hc, h⟩
  rcases hcase with ⟨e, hc, he, h0, h⟩ | ⟨hx, h⟩
  · exact hK.ext f e hc he w S μ H H' args v vs h (by omega) hH hvs hrel
  unfold gcallN at h
  split at h
  · rename_i hc
    simp only [Bool.and_eq_true] at hc
    simp only [Option.some.injEq, Prod.mk.injEq] at h
    obtain ⟨rfl, rfl⟩ := h
    obtain ⟨a, cap, rfl⟩ := emptyArg_inv hc.2 hvs hrel
    obtain ⟨c1, c2⟩ := hK.cln f hc.1 (hx hc.1) w a cap (hH.glb.mono hH.slt (fun _ _ => rfl))
    refine ⟨c1, CallsIn.mono c2 fun e w' hd => ?_⟩
    obtain ⟨⟨a', rfl⟩, d1, d2, d3, d4, d5⟩ := hd
    have hsh : ∀ b x, w.shape? b = some x → w'.shape? b = some x := fun b x hx => by
      have hb : b < w.heap.size := by
        unfold World.shape? at hx
        rcases Nat.lt_or_ge b w.heap.size with h | h
        · exact h
        · rw [Array.getElem?_eq_none h] at hx; cases hx
      unfold World.shape? at hx ⊢
      rw [d5 b hb]; exact hx
    refine ⟨_, S, μ, rfl, .nils _, ?_, ⟨d1, d2, d3, d4, fun _ h => h, fun b hb _ => d5 b hb, hsh, fun b r hr => ⟨r, by rw [d5 b (Array.getElem?_eq_some_iff.1 hr).1]; exact hr⟩, fun _ _ _ _ h => h, fun nm t b h _ => ⟨nm, t, h⟩, fun _ h _ => .inl h⟩, rfl⟩
    exact ⟨fun nm x hx t b hb => (hH.blk nm x hx t b hb).mono (fun _ h => h) (fun b hb => d5 b (hH.slt b hb)) hsh (fun _ _ _ _ h => h) (fun _ => rfl) (fun t b hm => d5 b (hH.lt _ _ _ hm)) (fun _ _ _ h => h),
      hH.bnd, hH.disj, fun nm t b h => Nat.lt_of_lt_of_le (hH.lt nm t b h) d4, fun b h => Nat.lt_of_lt_of_le (hH.slt b h) d4, hH.glb.mono (fun _ h => h) (fun b hb => d5 b (hH.slt b hb))⟩
  split at h
  · obtain ⟨S1, a1, a2, a3, a4, a5⟩ := frzVals_rel (H.length - 1) hH hrel
    refine borrow_ok K hrec h hH a1 a4.2.1 (by simpa using hvs.trans a5.symm) (fun j hj => ?_)
    have hj' : j < (frzVals H args).1.length := by simpa using hj
    have e : (((frzVals H args).1.map canon).getD j gdead) = canon ((frzVals H args).1.getD j gdead) := by simp [List.getD_eq_getElem?_getD, hj']
    rw [e]
    exact canon_rel (a3 j (by omega))
  split at h
  · obtain ⟨S1, a1, a2, a3, a4, a5⟩ := frzVals_rel (H.length - 1) hH hrel
    obtain ⟨b1, b2⟩ := call_ok0 K hrec h a1 (hvs.trans a5.symm) (fun j hj => by rw [a4.1]; exact a3 j (by omega))
    refine ⟨b1, CallsIn.mono b2 fun e w' hd => ?_⟩
    obtain ⟨u, S2, μ2, d1, d2, d3, d4, d5⟩ := hd
    rw [a4.1] at d4 d5
    exact ⟨u, S2, μ2, d1, d2, d3, a2.trans d4, d5⟩
  · exact call_ok0 K hrec h hH hvs hrel

end
end Go.Gh

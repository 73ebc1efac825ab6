/- Operations one behind the other. -/
import Derived.Test.YtgmohiojddnfgaaGreatDoorGhost21
import Derived.Test.YtgmohiojddnfgaaGreatDoorGhost30
namespace Go.Gh
set_option linter.unusedSimpArgs false
set_option linter.unusedVariables false

section
variable {w w' : World} {S S' : Nat → Prop} {μ μ' : Mu} {H : Heap} {P : Program} {ℓ base : Nat} {r : Option Nat}

theorem gcallF_ok (K : Ctx) (hK : CtxOk K) {rec : Rec} (hrec : RecOk K.P rec) {f : GV} {fv : Value} {args : List GV} {c : Nat} {H' : Heap} {v : GV} (h : gcallF K rec f args c H = some (v, H')) (hf : VRel w S μ (H.length - 1) fv f)
    {vs : Array Value} (hH : HRel w S μ H) (hvs : vs.size = args.length) (hrel : ∀ j, j < args.length → VRel w S μ (H.length - 1) (vs.getD j undef) (args.getD j gdead)) :
    ∃ d f' args', (Deferred.ofValue fv vs).run K.P w = .ok d w ∧ (invoke d.target d.args).run K.P w = .ok (.enter f' args') w ∧ CallsIn (Fw none) 0 K.P f' args' w (Done (H.length - 1) H.length w S μ v H') := by
  unfold gcallF at h
  split at h
  · rename_i f'
    have := hf.pv
    cases this
    obtain ⟨h1, h2⟩ := call_ok K hK hrec h hH hvs hrel
    exact ⟨{ target := .fn (.func f') #[], args := #[] ++ vs }, f', vs, rfl, by simp only [invoke, Array.empty_append, Array.append_empty]; exact h1, h2⟩
  · rename_i f' first cap
    cases hf with
    | func _ a cc _ _ e1 e2 e3 e4 =>
    obtain ⟨h1, h2⟩ := call_ok K hK hrec h (vs := (a ++ vs) ++ cc) hH (by simp [e1, e2, hvs]) (fun j hj => by
      simp only [List.length_append] at hj
      have e : ((a ++ vs) ++ cc).getD j undef = if j < a.size then a.getD j undef else if j < a.size + vs.size then vs.getD (j - a.size) undef else cc.getD (j - (a.size + vs.size)) undef := by
        simp only [Array.getD_eq_getD_getElem?, Array.getElem?_append, Array.size_append]
        by_cases c1 : j < a.size
        · simp [c1, show j < a.size + vs.size by omega]
        · by_cases c2 : j < a.size + vs.size
          · simp [c1, c2]
          · simp [c1, c2]
      have e' : (first ++ args ++ cap).getD j gdead = if j < first.length then first.getD j gdead else if j < first.length + args.length then args.getD (j - first.length) gdead else cap.getD (j - (first.length + args.length)) gdead := by
        simp only [List.getD_eq_getElem?_getD, List.getElem?_append, List.length_append]
        by_cases c1 : j < first.length
        · simp [c1, show j < first.length + args.length by omega]
        · by_cases c2 : j < first.length + args.length
          · simp [c1, c2]
          · simp [c1, c2]
      rw [e, e', e1, hvs]
      split
      · exact e3 j (by omega)
      · split
        · exact hrel _ (by omega)
        · exact e4 _ (by omega))
    exact ⟨{ target := .fn (.func f') cc, args := a ++ vs }, f', (a ++ vs) ++ cc, rfl, by simp only [invoke]; exact h1, h2⟩
  · cases h

theorem upon_done {o : Oper} {a : Act} {f : FuncId} {args : Array Value} {v : GV} {H' : Heap} {next : Act → World → Prop} {Q : Exit → Act → World → Prop} (hc : CallsIn (Fw none) 0 P f args w (Done (H.length - 1) H.length w S μ v H'))
    (hn : ∀ u w' S' μ', VRel w' S' μ' (H'.length - 1) u v → HRel w' S' μ' H' → Ev (H.length - 1) w S μ w' S' μ' → H'.length = H.length → next (a.put o.dst u) w') :
    o.uponIn (Fw r) 0 P a next Q (.ok (.enter f args) w) := by
  rw [Oper.uponIn_enter]
  refine ⟨fun h => (by cases h), CallsIn.fw (CallsIn.mono hc fun e w' hd => ?_)⟩
  obtain ⟨u, S', μ', rfl, h1, h2, h3, h4⟩ := hd
  exact hn u w' S' μ' h1 h2 h3 h4

theorem upon_round {o : Oper} {a : Act} {b : Nat} {f : FuncId} {tmps : Array Value} {assign body : Code} {v : GV} {H' : Heap} {next : Act → World → Prop} {Q : Exit → Act → World → Prop}
    (hc : RoundIn (Fw r) 0 P b f tmps assign body w (Done (H.length - 1) H.length w S μ v H'))
    (hn : ∀ u w' S' μ', VRel w' S' μ' (H'.length - 1) u v → HRel w' S' μ' H' → Ev (H.length - 1) w S μ w' S' μ' → H'.length = H.length → next (a.put o.dst u) w') :
    o.uponIn (Fw r) 0 P a next Q (.ok (.round b f tmps assign body) w) := by
  rw [Oper.uponIn_round]
  refine ⟨fun h => (by cases h), hc.mono fun e w' hd => ?_⟩
  obtain ⟨u, S', μ', rfl, h1, h2, h3, h4⟩ := hd
  exact hn u w' S' μ' h1 h2 h3 h4

theorem step_ok (K : Ctx) (hK : CtxOk K) {rec : Rec} (hrec : RecOk K.P rec) {fn : FuncId} {o : Oper} {a : Act} {s : Slots} {v : GV} {H' : Heap} (hH : HRel w S μ H) (hp : 0 < H.length)
    (hs : ∀ t, VRel w S μ (H.length - 1) (a.tmps.getD t undef) (look s t)) (h : gstep K rec fn o s H = some (v, H')) {next : Act → World → Prop} {Q : Exit → Act → World → Prop}
    (hn : ∀ u w' S' μ', VRel w' S' μ' (H'.length - 1) u v → HRel w' S' μ' H' → Ev (H.length - 1) w S μ w' S' μ' → H'.length = H.length → next (a.put o.dst u) w') :
    o.wpIn (Fw r) 0 K.P a w next Q := by
  refine ⟨fun _ _ => trivial, ?_⟩
  unfold gstep at h
  split at h
  · rename_i f args hgo
    obtain ⟨dst, op, type, pos, after, guard⟩ := o
    unfold goCalls at hgo
    simp only at hgo
    split at hgo
    · rename_i f0 args0 ats
      simp only [Option.some.injEq, Prod.mk.injEq] at hgo
      obtain ⟨rfl, rfl⟩ := hgo
      rw [Oper.semAt_eq _ _ _ (fun c => by simp)]
      have hfv := ev_rel hH.glb hs f0
      obtain ⟨g1, g2⟩ := evs_rel hH.glb hs args0
      have core : ∀ (v1 : GV) (H1 : Heap), gcallee K rec (ev s f0) (args0.toList.map (ev s)) (dst.getD 0) H = some (v1, H1) →
          (∀ u w' S' μ', VRel w' S' μ' (H1.length - 1) u v1 → HRel w' S' μ' H1 → Ev (H.length - 1) w S μ w' S' μ' → H1.length = H.length → next (a.put dst u) w') →
          Oper.uponIn (Fw r) 0 K.P { dst := dst, op := .call { callee := .value f0, args := args0, argTypes := ats }, type := type, pos := pos, after := after, guard := guard } a next Q
            ((execOp a.eval { dst := dst, op := .call { callee := .value f0, args := args0, argTypes := ats }, type := type, pos := pos, after := after, guard := guard }).run K.P w) := by
        clear h hn
        intro v1 H1 h hn
        unfold gcallee at h
        split at h
        · rename_i nm hev
          rw [hev] at hfv
          generalize hfe : a.eval f0 = fv at hfv
          cases hfv with
          | yield _ b hl hm =>
          obtain ⟨q, r1, r2, r3⟩ := round_ok (r := r) hrec h hH rfl hp hm (vs := args0.map a.eval) g1 g2
          have hrun : (execOp a.eval { dst := dst, op := .call { callee := .value f0, args := args0, argTypes := ats }, type := type, pos := pos, after := after, guard := guard }).run K.P w
              = .ok (.round b q.fn ((q.params.zip (args0.map a.eval)).foldl (fun tmps (t, a) => tmps.setIfInBounds t a) q.tmps) q.assign q.body) w := by
            simp only [execOp, resolve, hfe, Deferred.ofValue, Sem.run_bind, Sem.run_pure, Result.andThen_ok, invoke, Array.empty_append]
            exact run_yield r1 r2
          rw [hrun]
          exact upon_round r3 hn
        · obtain ⟨d, f', args', r1, r2, r3⟩ := gcallF_ok K hK hrec h hfv hH (vs := args0.map a.eval) g1 g2
          have hrun : (execOp a.eval { dst := dst, op := .call { callee := .value f0, args := args0, argTypes := ats }, type := type, pos := pos, after := after, guard := guard }).run K.P w
              = .ok (.enter f' args') w := by
            simp only [execOp, resolve, Sem.run_bind, r1, Result.andThen_ok, r2]
          rw [hrun]
          exact upon_done r3 hn
      simp only at h
      split at h
      · exact core _ _ h hn
      · split at h
        · rename_i x hx
          obtain ⟨v1, H1⟩ := x
          refine core _ _ hx fun u w' S' μ' k1 k2 k3 k4 => ?_
          split at h
          · obtain ⟨μ2, z1, z2, z3, z4⟩ := lift_ok hH k1 k2 k3 k4 h
            exact hn u w' S' μ2 z1 z2 z3 z4
          · rename_i tb _ _ _ _ _
            obtain ⟨μ2, z1, z2, z3, z4⟩ := liftRow_ok hH (hs tb) k1 k2 k3 k4 h
            exact hn u w' S' μ2 z1 z2 z3 z4
        · cases h
    · cases hgo
  · rename_i hgo
    have hok := gop_sound (ℓ := H.length - 1) K hK hH hs h
    rw [Oper.semAt_eq _ _ _ (fun c e => by unfold gop at h; rw [e] at h; cases h)]
    obtain ⟨nx, u, w', S', μ', hr, hnx, hv, hh, he, hl⟩ := hok
    rw [hr]
    rcases hnx with rfl | ⟨rfl, rfl⟩
    · rw [Oper.uponIn_value]; exact hn u w' S' μ' hv hh he hl
    · rw [Oper.uponIn_skip]; exact hn undef w' S' μ' hv hh he hl

theorem gops_ok (K : Ctx) (hK : CtxOk K) {rec : Rec} (hrec : RecOk K.P rec) {fn : FuncId} {ops : Array Oper} {Q : Exit → Act → World → Prop} {st' : GSt} :
    ∀ (rest : List Oper) (i : Nat) (st : GSt) (a : Act) (w : World) (S : Nat → Prop) (μ : Mu), ops.toList.drop i = rest → gops K rec fn ops.toList rest st = some st' → StOk base r w S μ st a →
    (∀ a' w' S' μ', StOk base r w' S' μ' st' a' → Ev (st.h.length - 1) w S μ w' S' μ' → st'.h.length = st.h.length → st'.nt = st.nt → Q .normal a' w') →
    wpOpsIn (Fw r) 0 K.P ops Q (List.range' i rest.length) a w
  | [], i, st, a, w, S, μ, hd, h, hst, hq => by
    simp only [gops, Option.some.injEq] at h; subst h
    exact hq a w S μ hst (.refl _ _ _ _) rfl rfl
  | o :: rest, i, st, a, w, S, μ, hd, h, hst, hq => by
    have hi : ops[i]? = some o := by
      have : (ops.toList.drop i)[0]? = some o := by rw [hd]; rfl
      rw [List.getElem?_drop] at this
      simpa using this
    have hd' : ops.toList.drop (i + 1) = rest := by
      have : (ops.toList.drop i).drop 1 = rest := by rw [hd]; rfl
      rwa [List.drop_drop] at this
    rw [List.length_cons, List.range'_succ]
    simp only [wpOpsIn, hi]
    simp only [gops] at h
    split at h
    · rename_i hw
      have hwant := wanted_ok hst.slots hw
      simp only [Array.toArray_toList] at hwant
      rw [hwant]
      simp only [Bool.false_eq_true, if_false]
      refine ⟨fun _ _ => trivial, ?_⟩
      split at h
      · rename_i st1 hput
        obtain ⟨p1, p2, p3, p4, p5⟩ := put_slots hst.slots hst.nt undef_rel rfl rfl hput
        refine gops_ok K hK hrec rest (i + 1) st1 _ w S μ hd' h ⟨p4 ▸ hst.heap, fun t => by rw [p4]; exact p1 t, by rw [p2, p3], p4 ▸ hst.pos, hst.low, p5 ▸ hst.defs, hst.round⟩ fun a' w' S' μ' q1 q2 q3 q4 => ?_
        rw [p4] at q2 q3
        exact hq a' w' S' μ' q1 q2 q3 (q4.trans p3)
      · cases h
    · rename_i hw
      have hwant := wanted_ok hst.slots hw
      simp only [Array.toArray_toList] at hwant
      rw [hwant]
      simp only [if_true]
      split at h
      · rename_i v H1 hstep
        split at h
        · rename_i st1 hput
          refine step_ok K hK hrec hst.heap hst.pos hst.slots hstep fun u w' S' μ' hv hh he hl => ?_
          have hs' : ∀ t, VRel w' S' μ' (H1.length - 1) (a.tmps.getD t undef) (look st.s t) := by
            rw [hl]; exact slots_ev hst.slots hst.heap he (Nat.le_refl _) (Nat.le_refl _)
          obtain ⟨p1, p2, p3, p4, p5⟩ := put_slots (st := { st with h := H1 }) hs' hst.nt hv rfl rfl hput
          simp only at p4
          refine gops_ok K hK hrec rest (i + 1) st1 _ w' S' μ' hd' h ⟨p4 ▸ hh, fun t => by rw [p4]; exact p1 t, by rw [p2, p3], by rw [p4, hl]; exact hst.pos, Nat.le_trans hst.low he.size, p5 ▸ hst.defs.ev he, round_ev hst.round he⟩
            fun a' w'' S'' μ'' q1 q2 q3 q4 => ?_
          rw [p4, hl] at q2 q3
          exact hq a' w'' S'' μ'' q1 (he.trans q2) q3 (q4.trans p3)
        · cases h
      · cases h
    · cases h

end
end Go.Gh

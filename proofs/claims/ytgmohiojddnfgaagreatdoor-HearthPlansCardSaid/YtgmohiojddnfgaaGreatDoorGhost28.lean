/- A drawn region is sound; so the interpreter is. -/
import Derived.Test.YtgmohiojddnfgaaGreatDoorGhost27
namespace Go.Gh
set_option linter.unusedSimpArgs false
set_option linter.unusedVariables false

section
variable {K : Ctx} {rec : Rec} {fn : FuncId} {ops : Array Oper} {st0 : GSt} {base : Nat} {r : Option Nat} {w0 : World} {S0 : Nat → Prop} {μ0 : Mu}
variable {listed : Array Bool} {a : Act} {w w' : World} {S S' : Nat → Prop} {μ μ' : Mu} {e : Nat} {pd : Nat → Nat}

theorem alloc_run {P : Program} {o : Oper} {ty : TypeId} {v : Value} (hop : o.op = .alloc ty) (hz : tzero P ty = some (ofConst v)) (w : World) :
    ∃ v', (execOp a.eval o).run P w = .ok (.value (.pointer (some ⟨w.heap.size, 0, none⟩))) (w.alloc (.cells v'.cells ty)) ∧ tzero P ty = some (ofConst v') := by
  obtain ⟨v', h1, h2⟩ := r_zero (P := P) w hz
  refine ⟨v', ?_, by rw [hz, h2]⟩
  obtain ⟨dst, op, type, pos, after, guard⟩ := o
  simp only at hop; subst hop
  simp [execOp, Instr.alloc, h1, newVar, newRow]

theorem alloc_shape {s : Slots} {H H' : Heap} {v : GV} {o : Oper} (ha : isAlloc o = true) (h : gstep K rec fn o s H = some (v, H')) :
    ∃ d ty z cs, o.dst = some d ∧ o.op = .alloc ty ∧ o.guard = none ∧ tzero K.P ty = some (ofConst z) ∧ cellsO (ofConst z) = some cs := by
  obtain ⟨d, ty, h1, h2, h3⟩ := isAlloc_dst ha
  have hgo : goCalls o = none := by unfold goCalls; rw [h2]
  unfold gstep at h
  rw [hgo] at h
  simp only at h
  unfold gop at h
  rw [h2] at h
  simp only [h1] at h
  cases hz : tzero K.P ty with
  | none => rw [hz] at h; cases h
  | some z =>
    have hz' : ∃ zv, z = ofConst zv := by
      unfold tzero at hz
      split at hz
      · split at hz
        · rename_i zv _; exact ⟨zv, by simpa using hz.symm⟩
        · cases hz
      · cases hz
    obtain ⟨zv, rfl⟩ := hz'
    rw [hz] at h
    simp only at h
    cases hc : cellsO (ofConst zv) with
    | none => rw [hc] at h; cases h
    | some cs => exact ⟨d, ty, zv, cs, h1, h2, h3, hz, hc⟩

theorem wpOp_of {i : Nat} {o : Oper} {Kn : Act → World → Prop} {Q : Exit → Act → World → Prop} {P : Program} (ho : ops[i]? = some o) {b : Bool} (hw : Region.wanted o (yielded ops a.tmps) = b)
    (h : if b then o.wpIn (Fw r) 0 P a w Kn Q else Kn (a.put o.dst undef) w) : wpOpIn (Fw r) 0 P ops Q i Kn a w := by
  unfold wpOpIn
  simp only [ho, hw]
  cases b with
  | true => simpa using h
  | false => simp only [Bool.false_eq_true, if_false] at h ⊢; exact ⟨fun _ _ => trivial, h⟩

theorem draw_fin (D : DrawOk K fn ops.toList (Region.before ops)) (ok : ∀ (j : Nat) (o : Oper), ops.toList[j]? = some o → StepOk K rec fn ops.toList (Region.before ops) st0 st0.nt j o) (hpos : 0 < st0.h.length)
    (h : SimC K rec fn ops st0 base r w0 S0 μ0 listed a w S μ e pd) (hH : HRel w S μ (TT K rec fn ops st0 e).f) (hlen : (TT K rec fn ops st0 e).f.length = st0.h.length) (hall : ∀ j, j < ops.size → listed.getD j false = true)
    {st' : GSt} (h1 : st'.s = (TT K rec fn ops st0 ops.size).s) (h2 : st'.h = (TT K rec fn ops st0 ops.size).f) (h3 : st'.nt = st0.nt) : Post base r st0 w0 S0 μ0 .normal st' .normal a w := by
  obtain ⟨μ', k1, k2, k3⟩ := adopt_all ok hpos _ ops.size e μ rfl h.le (Nat.le_refl _) h hH hlen fun x hx hx2 => by
    refine ⟨fun h4 => ?_, fun _ => hall x hx2⟩
    have := (h.ww x hx2 h4).1 (hall x hx2)
    omega
  refine ⟨rfl, by rw [h2, k3], h3, S, μ', ⟨by rw [h2]; exact k2, fun t => ?_, by rw [h3]; exact k1.nt, by rw [h2, k3]; exact hpos, k1.low, k1.defs, k1.round⟩, k1.ev.level (by omega)⟩
  rw [h2, k3, h1]
  rcases look_dT K rec fn ops.toList (Region.before ops) st0 st0.nt ok D.nodup ops.size t (by simp) with ⟨j, oj, q1, q2, q3, q4⟩ | ⟨q1, q2⟩
  · show VRel w S μ' _ _ (look (dT K rec fn ops.toList st0 ops.size).s t)
    rw [q4]
    exact k1.v1 j oj t q2 q3 (hall j q1) fun _ => q1
  · show VRel w S μ' _ _ (look (dT K rec fn ops.toList st0 ops.size).s t)
    rw [q2]
    refine k1.v0 t fun j oj hj hlj => q1 j oj ?_ hj
    have := (List.getElem?_eq_some_iff.1 hj).1
    simpa using this

theorem draw_sim (hK : CtxOk K) (hrec : RecOk K.P rec) (D : DrawOk K fn ops.toList (Region.before ops)) (ok : ∀ (j : Nat) (o : Oper), ops.toList[j]? = some o → StepOk K rec fn ops.toList (Region.before ops) st0 st0.nt j o) (hpos : 0 < st0.h.length)
    {st' : GSt} (z1 : st'.s = (TT K rec fn ops st0 ops.size).s) (z2 : st'.h = (TT K rec fn ops st0 ops.size).f) (z3 : st'.nt = st0.nt) :
    ∀ (fuel : Nat) (listed : Array Bool) (a : Act) (w : World) (S : Nat → Prop) (μ : Mu) (e : Nat) (pd : Nat → Nat), unlisted listed ops.size ≤ fuel → SimC K rec fn ops st0 base r w0 S0 μ0 listed a w S μ e pd →
      HRel w S μ (TT K rec fn ops st0 e).f → (TT K rec fn ops st0 e).f.length = st0.h.length → (TT K rec fn ops st0 e).f = (TT K rec fn ops st0 e).b →
      wpAnyIn (Fw r) 0 K.P .any ops (Post base r st0 w0 S0 μ0 .normal st') fuel listed a w := by
  intro fuel
  induction fuel with
  | zero =>
    intro listed a w S μ e pd hu h hH hlen hfb
    have hall := unlisted_zero (Nat.le_zero.1 hu)
    refine ⟨?_, draw_fin D ok hpos h hH hlen hall z1 z2 z3⟩
    cases hr : Region.ready .any ops listed with
    | nil => rfl
    | cons i l =>
      obtain ⟨g1, g2, _⟩ := ready_inv (i := i) (by rw [hr]; exact List.mem_cons_self ..) h.sz
      rw [hall i g2] at g1; cases g1
  | succ fuel ih =>
    intro listed a w S μ e pd hu h hH hlen hfb
    refine ⟨fun hr => draw_fin D ok hpos h hH hlen (all_listed h.sz (fun j o hj => D.back j o (toList_get.2 hj)) hr) z1 z2 z3, fun i hi => ?_⟩
    obtain ⟨hl, hin, o, ho, ho2, haft⟩ := ready_inv hi h.sz
    have hbefore : ∀ b, ((Region.before ops).getD i 0).testBit b = true → listed.getD b false = true := fun b hb => closed_before h.clo i b hb fun o' ho' ed hed hbe => by
      rw [ho2] at ho'; cases ho'; exact haft ed hed hbe
    have hs := ok i o ho
    have hul := unlisted_lt hin h.sz hl
    -- the guard
    have hguard : ∀ b, wantedG ops.toList (TT K rec fn ops st0 i).s o = some b → Region.wanted o (yielded ops a.tmps) = b := fun b hb => by
      have h1 : ∀ t, t ∈ depsG ops.toList o → VRel w S μ (st0.h.length - 1) (a.tmps.getD t undef) (look (TT K rec fn ops st0 i).s t) := fun t ht => by
        refine slot_at D ok h hi ho (.inr ht) fun j oj hj hd hk hji => ?_
        exfalso
        have hja : isAlloc oj = true := by
          rcases dk_cases hj (ok j _ hj) with q | q | q | q
          · have := q.1; omega
          · have := q.1; omega
          · exact q.2.2.2.1
          · have := q.1; omega
        exact D.newG j i oj o t hj ho hd hja ht
      have h2 := keep_rel (depsG ops.toList o) h1
      have h3 : wantedG ops.toList (keepSlots (TT K rec fn ops st0 i).s (depsG ops.toList o)) o = some b := by
        rw [← hb]; exact wantedG_congr fun t ht => look_keepSlots _ t _ ht
      have := wanted_ok h2 h3
      simpa using this
    rcases dk_cases ho hs with q | q | q | q
    · -- not wanted
      refine wpOp_of ho2 (hguard false q.2.1) ?_
      simp only [Bool.false_eq_true, if_false]
      have h' := SimC.put D h hi ho hs.dst undef (e' := e) (fun _ => by rw [q.2.2.1]; exact undef_rel) (fun h2 => by have := q.1; omega) (.inl ⟨by rw [q.1]; omega, rfl⟩)
      exact ih _ _ w S μ e pd (by omega) h' hH hlen hfb
    · -- it leaves the heap alone
      refine wpOp_of ho2 (hguard true q.2.1) ?_
      simp only [if_true]
      obtain ⟨hp, hg⟩ := pure_at ok h hi ho q.1
      rw [← hfb] at hg
      have hslots := keep_rel (a := a) (w := w) (S := S) (μ := μ) (k := st0.h.length - 1) (s := (TT K rec fn ops st0 i).s) (depsO K fn o) fun t ht => slot_at D ok h hi ho (.inl ht) fun j oj hj hd hk hji => by
        exfalso
        have hja : isAlloc oj = true := by
          rcases dk_cases hj (ok j _ hj) with q | q | q | q
          · have := q.1; omega
          · have := q.1; omega
          · exact q.2.2.2.1
          · have := q.1; omega
        have := (D.newO j i oj o t hj ho hd hja ht).1
        rw [hp] at this; cases this
      have hgo : goCalls o = none := by
        cases hgc : goCalls o with
        | none => rfl
        | some x =>
          exfalso
          obtain ⟨dst, op, type, pos, after, guard⟩ := o
          unfold goCalls at hgc
          simp only at hgc
          split at hgc
          · unfold opPure at hp; simp at hp
          · cases hgc
      have hstep : gstep K rec fn o (keepSlots (TT K rec fn ops st0 i).s (depsO K fn o)) (TT K rec fn ops st0 e).f = some (VV K rec fn ops st0 i, (TT K rec fn ops st0 e).f) := by
        rw [gstep_congr K (s' := (TT K rec fn ops st0 i).s) fun t ht => look_keepSlots _ t _ ht]
        unfold gstep
        rw [hgo]
        exact hg
      rw [← hlen] at hslots
      refine step_ok K hK hrec hH (by rw [hlen]; exact hpos) hslots hstep fun u w' S' μ' hv hh he hl' => ?_
      rw [hlen] at he hv
      have h1 := h.step hH.slt he
      have h' := SimC.put D h1 hi ho hs.dst u (e' := e) (fun _ => hv) (fun h2 => by have := q.1; omega) (.inl ⟨by rw [q.1]; omega, rfl⟩)
      exact ih _ _ w' S' μ' e pd (by omega) h' hh hlen hfb
    · -- a new variable
      obtain ⟨q1, q2, q3, q4, q5, q6⟩ := q
      refine wpOp_of ho2 (hguard true q2) ?_
      simp only [if_true]
      obtain ⟨d, ty, z, cs, hd, hop, hgu, hz, hc⟩ := alloc_shape q4 q5
      refine ⟨fun _ _ => trivial, ?_⟩
      rw [Oper.semAt_eq _ _ _ (fun c e => by rw [hop] at e; cases e)]
      obtain ⟨v', hrun, hz'⟩ := alloc_run (a := a) (P := K.P) hop hz w
      rw [hrun, Oper.uponIn_value]
      obtain ⟨s1, s2⟩ := hH.skip (st0.h.length - 1) (.cells v'.cells ty)
      have h1 := (h.step hH.slt s2).repd hl w.heap.size
      have hc' : cellsO (ofConst v') = some cs := by
        rw [hz] at hz'
        simp only [Option.some.injEq] at hz'
        rw [← hz']; exact hc
      have h' := SimC.put D h1 hi ho hs.dst (.pointer (some ⟨w.heap.size, 0, none⟩)) (e' := e) (fun h2 => absurd q1 h2) (fun _ => ⟨⟨by simp, by simp only [if_true]; exact h.ev.size, by simp only [if_true]; rw [alloc_size]; omega,
          by simp only [if_true]; exact fun hs => by have := hH.slt _ hs; omega, by simp only [if_true]; exact fun nm t hm => by have := hH.lt _ _ _ hm; omega, ty, v', cs, hop, hz', hc', by simp only [if_true]; exact alloc_new _ _⟩,
          fun j hj hlj hk hle => by
            have hne : j ≠ i := fun e1 => by rw [e1, hl] at hlj; cases hlj
            simp only [if_true, if_neg hne]
            have hoj : ops.toList[j]? = some ops[j] := by simp [hj]
            obtain ⟨dj, hdj⟩ : ∃ d, ops[j].dst = some d := by
              rcases dk_cases hoj (ok j _ hoj) with q | q | q | q
              · have := q.1; omega
              · have := q.1; omega
              · obtain ⟨d, t, h1, h2, _⟩ := isAlloc_dst q.2.2.2.1; exact ⟨d, h1⟩
              · have := q.1; omega
            have := (h.pa j _ dj hoj hdj hlj hk hle).2.2.1
            omega⟩) (.inl ⟨by rw [q1]; omega, rfl⟩)
      exact ih _ _ _ S μ e _ (by omega) h' s1 hlen hfb
    · -- it may turn the heap
      obtain ⟨q1, q2, q3, q4, q5, q6⟩ := q
      refine wpOp_of ho2 (hguard true q2) ?_
      simp only [if_true]
      have hei : e ≤ i := by
        rcases Nat.lt_or_ge i e with h' | h'
        · have := (h.ww i hin q1).2 h'
          rw [hl] at this; cases this
        · exact h'
      obtain ⟨μ1, k1, k2, k3⟩ := adopt_all ok hpos _ i e μ rfl hei (by omega) h hH hlen fun x hx hx2 => by
        have hox : ops.toList[x]? = some ops[x] := by simp [show x < ops.size by omega]
        refine ⟨fun h3 => ?_, fun h2 => ?_⟩
        · have := (h.ww x (by omega) h3).1 (hbefore x (hs.ww q1 x hx2 h3))
          omega
        · have hxa : isAlloc ops[x] = true := by
            rcases dk_cases hox (ok x _ hox) with q | q | q | q
            · have := q.1; omega
            · have := q.1; omega
            · exact q.2.2.2.1
            · have := q.1; omega
          exact hbefore x (D.newW x i _ o hox ho hxa q3 q4 hx2)
      have hslots := keep_rel (a := a) (w := w) (S := S) (μ := μ1) (k := st0.h.length - 1) (s := (TT K rec fn ops st0 i).s) (depsO K fn o) fun t ht => slot_at D ok k1 hi ho (.inl ht) fun j oj hj hd hk hji => hji
      have hstep : gstep K rec fn o (keepSlots (TT K rec fn ops st0 i).s (depsO K fn o)) (TT K rec fn ops st0 i).f = some (VV K rec fn ops st0 i, (TT K rec fn ops st0 (i + 1)).f) := by
        rw [gstep_congr K (s' := (TT K rec fn ops st0 i).s) fun t ht => look_keepSlots _ t _ ht]
        exact q5
      rw [← k3] at hslots
      refine step_ok K hK hrec k2 (by rw [k3]; exact hpos) hslots hstep fun u w' S' μ' hv hh he hl' => ?_
      rw [k3] at he
      rw [hl', k3] at hv
      have h1 := k1.step k2.slt he
      have h' := SimC.put D h1 hi ho hs.dst u (e' := i + 1) (fun _ => hv) (fun h2 => by rw [q1] at h2; cases h2) (.inr ⟨q1, rfl, rfl⟩)
      exact ih _ _ w' S' μ' (i + 1) pd (by omega) h' hh (by rw [hl', k3]) q6.symm

theorem HRel.draw {H : Heap} (h : HRel w S μ H) (n : Nat) : HRel { w with drawn := n } S μ H :=
  ⟨fun nm x hx t b hb => BlkRel.mono (w := w) (w' := { heap := w.heap, tape := w.tape, drawn := n, os := w.os, output := w.output }) (S := S) (S' := S) (μ := μ) (μ' := μ) (fun _ h => h) (fun _ _ => rfl) (fun _ _ h => h) (fun _ _ _ _ h => h) (fun _ => rfl) (fun _ _ _ => rfl) (fun _ _ _ h => h) (h.blk nm x hx t b hb), h.bnd, h.disj, h.lt, h.slt, h.glb.mono (fun _ h => h) (fun _ _ => rfl)⟩

theorem Ev.draw (ℓ n : Nat) : Ev ℓ w S μ { w with drawn := n } S μ :=
  ⟨rfl, rfl, rfl, Nat.le_refl _, fun _ h => h, fun _ _ _ => rfl, fun _ _ h => h, fun _ r h => ⟨r, h⟩, fun _ _ _ _ h => h, fun nm t _ h _ => ⟨nm, t, h⟩, fun _ h _ => .inl h⟩

end

theorem drawRule (K : Ctx) (hK : CtxOk K) : DrawRule K := by
  intro rec hrec fn id ops st e st' h base r w S μ a hst
  simp only [gbody] at h
  split at h
  · rename_i hd
    split at h
    · rename_i st1 hdr
      simp only [Option.some.injEq, Prod.mk.injEq] at h
      obtain ⟨rfl, rfl⟩ := h
      have D := drawOk_spec K hd
      obtain ⟨g1, g2, g3, g4⟩ := gdraw_trace K rec fn ops.toList (Region.before ops) st ops.toList 0 [] [] st.h st rfl rfl rfl rfl rfl (fun x h => by omega) (fun q h => by omega) hdr
      have hlen : ops.toList.length = ops.size := by simp
      rw [hlen] at g2 g3
      refine wpIn_region_any hK.mixed ?_
      have hE : Ev (st.h.length - 1) w S μ { w with drawn := w.drawn + 1 } S μ := Ev.draw _ _
      have hfalse : ∀ j, (Array.replicate ops.size false).getD j false = false := fun j => by
        rw [Array.getD_eq_getD_getElem?]
        by_cases hj : j < ops.size
        · simp [hj]
        · simp [hj]
      refine draw_sim (base := base) (r := r) (w0 := w) (S0 := S) (μ0 := μ) hK hrec D (fun j o ho => g1 j o (by omega) ho) hst.pos g2 g3 g4 ops.size (Array.replicate ops.size false) a
        { w with drawn := w.drawn + 1 } S μ 0 (fun _ => 0) ?_ ?_ ?_ ?_ ?_
      · unfold unlisted
        refine Nat.le_trans (List.length_filter_le _ _) (by simp)
      · refine ⟨by simp, fun j o _ hl => ?_, Nat.zero_le _, fun j _ _ => ?_, fun j h => by omega, fun j o d _ _ hl => ?_, fun t _ => ?_, fun j o d _ _ hl => ?_, fun i j _ _ hl => ?_, hst.nt, hst.low, hst.defs.ev hE, round_ev hst.round hE, hE⟩
        · rw [hfalse] at hl; cases hl
        · rw [hfalse]; simp
        · rw [hfalse] at hl; cases hl
        · exact hE.val hst.heap.slt (Nat.le_refl _) (hst.slots t)
        · rw [hfalse] at hl; cases hl
        · rw [hfalse] at hl; cases hl
      · exact hst.heap.draw _
      · rfl
      · rfl
    · cases h
  · cases h

/-- The interpreter is sound. -/
theorem gexec_sound (K : Ctx) (hK : CtxOk K) (n : Nat) : RecOk K.P (gexec K n) := gexec_ok K hK (drawRule K hK) n
end Go.Gh

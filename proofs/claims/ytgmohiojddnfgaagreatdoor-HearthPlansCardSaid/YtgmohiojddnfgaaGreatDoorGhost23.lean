/- The interpreter is sound. -/
import Derived.Test.YtgmohiojddnfgaaGreatDoorGhost22
namespace Go.Gh
set_option linter.unusedSimpArgs false
set_option linter.unusedVariables false

theorem least {p : Nat → Prop} (h : ∃ m, p m) : ∃ m, p m ∧ ∀ k, p k → m ≤ k := by
  obtain ⟨m, hm⟩ := h
  induction m using Nat.strongRecOn with
  | _ m ih =>
    by_cases hx : ∃ k, k < m ∧ p k
    · obtain ⟨k, hk, hpk⟩ := hx
      exact ih k hk hpk
    · exact ⟨m, hm, fun k hk => Nat.le_of_not_lt fun hlt => hx ⟨k, hlt, hk⟩⟩

section
variable {F : Fence} {n : Nat} {P : Program} {Q : Exit → Act → World → Prop} {a : Act} {w : World}
theorem stepR_scope {b : Frame} {k : List Item} {cs : List Frame} {c : Code} : step P (lone (b.atR a (.code (.scope c) :: k)) cs w) = .next (lone (b.atR a (.code c :: .inScope c :: k)) cs w) :=
  step_lone_go (by simp [stepG, stepG.exec, Frame.atR])
theorem stepR_inScope {b : Frame} {k : List Item} {cs : List Frame} {c : Code} : step P (lone (b.atR a (.inScope c :: k)) cs w) = .next (lone (b.atR a k) cs w) :=
  step_lone_go (by simp [stepG, stepG.exec, Frame.atR])
/-- A scope through which the run goes without a jump. -/
theorem wpIn_scope {c : Code} (hg : ∀ l a w, ¬ Q (.goto l) a w) (h : c.wpIn F n P Q a w) : (Code.scope c).wpIn F n P Q a w := by
  intro b k cs hro hb hr
  have h0 : (lone (b.atR a (.code (.scope c) :: k)) cs w).fenced P F := fenced_calm hb hr rfl
  obtain ⟨e, a₁, w₁, hq, harr⟩ := h b (.inScope c :: k) cs hro hb hr
  cases e with
  | normal => exact ⟨.normal, a₁, w₁, hq, .head h0 stepR_scope (StepsIn.trans harr (.one (fenced_calm hb hr rfl) stepR_inScope))⟩
  | exit id' =>
    have hx : exitTo id' (.inScope c :: k) = exitTo id' k := by simp [exitTo]
    exact ⟨.exit id', a₁, w₁, hq, fun k' hk => .head h0 stepR_scope (harr.1 k' (by rw [hx]; exact hk)),
      fun hr' hk => let ⟨k₁, h1, h2⟩ := harr.2 hr' (by rw [hx]; exact hk); ⟨k₁, h1, .head h0 stepR_scope h2⟩⟩
  | goto l => exact absurd hq (hg _ _ _)
  | ret => exact ⟨_, a₁, w₁, hq, .of_steps (.one h0 stepR_scope) harr⟩
  | panic ch => exact ⟨_, a₁, w₁, hq, .of_steps (.one h0 stepR_scope) harr⟩
  | outgrown => exact ⟨_, a₁, w₁, hq, .of_steps (.one h0 stepR_scope) harr⟩
end

/-- Regions that draw their order. -/
def DrawRule (K : Ctx) : Prop := ∀ rec, RecOk K.P rec → ∀ fn id ops st e st', gbody K rec fn (.region id ops true) st = some (e, st') → ∀ base r w S μ a, StOk base r w S μ st a →
  (Code.region id ops true).wpIn (Fw r) 0 K.P (Post base r st w S μ e st') a w

section
variable {w w1 : World} {S S1 : Nat → Prop} {μ μ1 : Mu} {base : Nat} {r : Option Nat} {st st1 st' : GSt} {a a1 : Act} {e : GX}

theorem Post.of {e' : Exit} (he : Ev (st.h.length - 2) w S μ w1 S1 μ1) (hl : st1.h.length = st.h.length) (hn : st1.nt = st.nt) {a' : Act} {w' : World} (h : Post base r st1 w1 S1 μ1 e st' e' a' w') : Post base r st w S μ e st' e' a' w' := by
  obtain ⟨q1, q2, q3, S', μ', q4, q5⟩ := h
  rw [hl] at q5
  exact ⟨q1, q2.trans hl, q3.trans hn, S', μ', q4, he.trans q5⟩

theorem Post.refl (h : StOk base r w S μ st a) : Post base r st w S μ e st (exitOf e) a w := ⟨rfl, rfl, rfl, S, μ, h, .refl _ _ _ _⟩

theorem StOk.push (h : StOk base r w S μ st a) (ks : Option (List Nat)) : StOk base r w S μ { st with s := keepO ks st.s, h := [] :: st.h } a :=
  ⟨h.heap.push, fun t => by
    have hp := h.pos
    have : ∀ t, VRel w S μ (st.h.length - 1) (a.tmps.getD t undef) (look (keepO ks st.s) t) := by
      intro t
      cases ks with
      | none => exact h.slots t
      | some l => exact keep_slots h.slots l t
    exact (this t).up (by simp), h.nt, by simp, h.low, h.defs, h.round⟩

theorem loop_ok (K : Ctx) {n : Nat} (ih : ∀ m, m ≤ n → RecOk K.P (gexec K m)) {fn : FuncId} {c : Code} (h : gexec K (n + 1) fn (.loop c) st = some (e, st')) (hst : StOk base r w S μ st a) :
    (Code.loop c).wpIn (Fw r) 0 K.P (Post base r st w S μ e st') a w := by
  let p : Act → World → Nat → Prop := fun a1 w1 m => m ≤ n + 1 ∧ ∃ st1 S1 μ1, gexec K m fn (.loop c) st1 = some (e, st') ∧ StOk base r w1 S1 μ1 st1 a1 ∧ Ev (st.h.length - 2) w S μ w1 S1 μ1 ∧ st1.h.length = st.h.length ∧ st1.nt = st.nt
  have hmin : ∀ a1 w1, (∃ m, p a1 w1 m) → ∃ m, p a1 w1 m ∧ ∀ k, p a1 w1 k → m ≤ k := fun a1 w1 h => least h
  classical
  let meas : Act → World → Nat := fun a1 w1 => if hx : ∃ m, p a1 w1 m then Classical.choose (hmin a1 w1 hx) else 0
  have hmeas : ∀ a1 w1, (hx : ∃ m, p a1 w1 m) → p a1 w1 (meas a1 w1) ∧ ∀ k, p a1 w1 k → meas a1 w1 ≤ k := fun a1 w1 hx => by
    have := Classical.choose_spec (hmin a1 w1 hx)
    simp only [meas, dif_pos hx]
    exact this
  refine wpIn_loop (fun a1 w1 => ∃ m, p a1 w1 m) meas ⟨n + 1, Nat.le_refl _, st, S, μ, h, hst, .refl _ _ _ _, rfl, rfl⟩ fun a1 w1 hI => ?_
  obtain ⟨hp, _⟩ := hmeas a1 w1 hI
  generalize hm0 : meas a1 w1 = m at hp
  obtain ⟨hle, st1, S1, μ1, hg, hst1, hev, hl, hnt⟩ := hp
  cases m with
  | zero => simp [gexec] at hg
  | succ m =>
    have hg' : gbody K (gexec K m) fn (.loop c) st1 = some (e, st') := hg
    simp only [gbody] at hg'
    have hrec := ih m (by omega)
    split at hg'
    · rename_i st2 hc
      split at hg'
      · rename_i st3 hsc
        have hwp := hrec fn c _ _ _ hc base r w1 S1 μ1 a1 (hst1.push _)
        refine wpIn_mono hwp fun e' a2 w2 hq => ?_
        obtain ⟨q1, q2, q3, S2, μ2, q4, q5⟩ := hq
        simp only [exitOf] at q1; subst q1
        simp only [List.length_cons, Nat.add_sub_cancel] at q2 q5
        simp only [Exit.then]
        obtain ⟨s1, s2, S3, μ3, s3, s4⟩ := gnext_ok K q4 hsc
        have hpp : p a2 w2 m := ⟨by omega, st3, S3, μ3, hg', s3, (hev.trans (q5.level (by omega))).trans (s4.level (by omega)), by omega, by rw [s2, q3]; exact hnt⟩
        obtain ⟨_, hm2⟩ := hmeas a2 w2 ⟨m, hpp⟩
        exact ⟨⟨m, hpp⟩, Nat.lt_of_le_of_lt (hm2 m hpp) (by omega)⟩
      · cases hg'
    · rename_i e2 st2 hne hc
      split at hg'
      · rename_i st3 hsc
        simp only [Option.some.injEq, Prod.mk.injEq] at hg'
        obtain ⟨rfl, rfl⟩ := hg'
        have hwp := hrec fn c _ _ _ hc base r w1 S1 μ1 a1 (hst1.push _)
        refine wpIn_mono hwp fun e' a2 w2 hq => ?_
        obtain ⟨q1, q2, q3, S2, μ2, q4, q5⟩ := hq
        simp only [List.length_cons, Nat.add_sub_cancel] at q2 q5
        obtain ⟨s1, s2, S3, μ3, s3, s4⟩ := gscope_ok q4 hsc
        have hpost : Post base r st w S μ e2 st3 e' a2 w2 := ⟨q1, by omega, by rw [s2, q3]; exact hnt, S3, μ3, s3, (hev.trans (q5.level (by omega))).trans (s4.level (by omega))⟩
        cases e2 with
        | normal => exact absurd rfl hne
        | exit id => simp only [exitOf] at q1; subst q1; exact hpost
        | ret => simp only [exitOf] at q1; subst q1; exact hpost
      · cases hg'
    · cases hg'

theorem range_ok (K : Ctx) (hK : CtxOk K) {rec : Rec} (hrec : RecOk K.P rec) {fn : FuncId} {f : Operand} {ps : Array Tmp} {assign body : Code} (h : gbody K rec fn (.rangeFunc f ps assign body) st = some (e, st')) (hst : StOk base r w S μ st a) :
    (Code.rangeFunc f ps assign body).wpIn (Fw r) 0 K.P (Post base r st w S μ e st') a w := by
  have hpos := hst.pos
  refine wpIn_rangeFunc fun fn' _ => ?_
  simp only [gbody] at h
  split at h
  · rename_i nm H1 hnew
    obtain ⟨rfl, hl, hg, rfl⟩ := gnewAt_some hnew
    split at h
    · rename_i v H2 hcall
      split at h
      · rename_i l hgl
        split at h
        · cases h
        · rename_i hbusy
          -- the record is laid
          have laid : ∃ (b : Nat) (mark : List Deferred) (w1 : World) (μ1 : Mu), (Instr.enterLoop fn' a.tmps ps assign body r).run K.P w = .ok (b, mark) w1 ∧
              HRel w1 S μ1 (st.h.set (st.h.length - 1, 10000000 + firstRegion body) (.loop { slots := st.s, nt := st.nt, params := ps.toList, assign := assign, body := body, fn := fn, state := .ready, pending := none })) ∧
              Ev (st.h.length - 1) w S μ w1 S μ1 ∧ μ1 (st.h.length - 1, 10000000 + firstRegion body) 0 = some b ∧ DefOk base w1 S μ1 (mark ++ a.defers) := by
            have blk : ∀ (w0 : World) (hH0 : HRel w0 S μ st.h) (hE0 : Ev (st.h.length - 1) w S μ w0 S μ) (q : Loop), q.state = .ready → q.pending = none → q.params = ps → q.assign = assign → q.body = body → q.tmps = a.tmps →
                BlkRel (w0.alloc (.loop q)) S (μ.upd (st.h.length - 1, 10000000 + firstRegion body) 0 w0.heap.size) (st.h.length - 1, 10000000 + firstRegion body)
                  (.loop { slots := st.s, nt := st.nt, params := ps.toList, assign := assign, body := body, fn := fn, state := .ready, pending := none }) := by
              intro w0 hH0 hE0 q a1 a2 a3 a4 a5 a6
              refine ⟨w0.heap.size, q, Mu.upd_self _ _ _ _, fun hs => by have := hH0.slt _ hs; omega, alloc_new _ _, a1, by rw [a2]; rfl, by simp, by rw [a3], a4, a5, by rw [a6]; exact hst.nt, fun t => ?_⟩
              have h1 := hE0.val hst.heap.slt (Nat.le_refl _) (hst.slots t)
              rw [a6]
              exact h1.mono (fun _ h => h) (fun b hb => alloc_heap _ _ b (hH0.slt b hb)) (alloc_shp _ _) (fun n t b _ h => noNew hH0 hg _ _ n t b h) (Nat.le_refl _)
            cases r with
            | none =>
              obtain ⟨s1, s2⟩ := hst.heap.skip (st.h.length - 1) (.deferred (some []))
              obtain ⟨n1, n2⟩ := s1.new (st.h.length - 1) hg hl (.loop { state := .ready, pending := none, fn := fn', tmps := a.tmps, params := ps, assign, body, defers := w.heap.size }) 0 _ (blk _ s1 s2 _ rfl rfl rfl rfl rfl rfl)
              rw [World.size_alloc] at n1 n2
              have hd := hst.defs.ev (s2.trans n2)
              refine ⟨_, _, _, _, run_enterLoop_outer fn' a.tmps ps assign body, n1, s2.trans n2, Mu.upd_self _ _ _ _, ⟨fun d hdm => ?_, ?_⟩⟩
              · rcases List.mem_append.1 hdm with hdm | hdm
                · simp only [List.mem_singleton] at hdm; subst hdm
                  refine ⟨w.heap.size, rfl, hst.low, ?_, fun hs => ?_, fun nm t hm => ?_⟩
                  · rw [alloc_heap _ _ _ (by rw [alloc_size]; omega)]; exact alloc_new _ _
                  · have := hst.heap.slt _ hs; omega
                  · by_cases en : nm = (st.h.length - 1, 10000000 + firstRegion body)
                    · subst en
                      by_cases et : t = 0
                      · subst et; rw [Mu.upd_self] at hm; simp at hm
                      · rw [Mu.upd_top _ _ _ et] at hm
                        have := hst.heap.lt _ _ _ hm; omega
                    · rw [Mu.upd_other _ _ _ _ en] at hm
                      have := hst.heap.lt _ _ _ hm; omega
                · exact hd.each d hdm
              · refine List.pairwise_cons.2 ⟨fun d hdm => ?_, hd.apart⟩
                obtain ⟨q, g1, g2, g3, _⟩ := hst.defs.each d hdm
                have hlt : q < w.heap.size := (Array.getElem?_eq_some_iff.1 g3).1
                intro e
                rw [g1] at e
                simp only [Target.collected.injEq] at e
                omega
            | some l0 =>
              obtain ⟨q0, hq0⟩ := hst.round l0 rfl
              obtain ⟨n1, n2⟩ := hst.heap.new (st.h.length - 1) hg hl (.loop { state := .ready, pending := none, fn := fn', tmps := a.tmps, params := ps, assign, body, defers := q0.defers }) 0 _ (blk _ hst.heap (.refl _ _ _ _) _ rfl rfl rfl rfl rfl rfl)
              exact ⟨_, _, _, _, run_enterLoop_inner hq0 fn' a.tmps ps assign body, n1, n2, Mu.upd_self _ _ _ _, hst.defs.ev n2⟩
          obtain ⟨b, mark, w1, μ1, e1, hH1, hE1, hm1, hD1⟩ := laid
          have hlen1 : (st.h.set (st.h.length - 1, 10000000 + firstRegion body) (.loop { slots := st.s, nt := st.nt, params := ps.toList, assign := assign, body := body, fn := fn, state := .ready, pending := none })).length = st.h.length := Heap.length_set _ _ _
          have hs1 := slots_ev (k' := st.h.length - 1) hst.slots hst.heap hE1 (Nat.le_refl _) (Nat.le_refl _)
          obtain ⟨d, f', args', r1, r2, r3⟩ := gcallF_ok K hK hrec hcall (by rw [hlen1]; exact ev_rel hH1.glb hs1 f) (vs := #[.func (.yield b) #[] #[]]) hH1 rfl (fun j hj => by
            have : j = 0 := by simp at hj; omega
            subst this
            rw [hlen1]
            exact .yield _ b (Nat.le_refl _) hm1)
          refine ⟨b, mark, w1, d, w1, f', args', w1, e1, ?_, fun _ _ => trivial, r2, fun h => (by cases h), CallsIn.fw (CallsIn.mono r3 fun en w3 hd => ?_)⟩
          · simp only [resolve, rangeCall, List.map_toArray, List.map_cons, List.map_nil, Act.eval]; exact r1
          · obtain ⟨u, S3, μ3, rfl, c1, c2, c3, c4⟩ := hd
            rw [hlen1] at c3 c4
            have hm3 : μ3 (st.h.length - 1, 10000000 + firstRegion body) 0 = some b := c3.mu _ _ _ (Nat.le_refl _) hm1
            obtain ⟨b3, q, k1, k2, k3, s1, s2, s3, s5, s6, s7, s8, s9⟩ := c2.blk _ _ hgl _ _ hm3
            rw [hm3] at k1; simp only [Option.some.injEq] at k1; subst k1
            obtain ⟨t1, t2⟩ := HRel.loopTurn (ℓ := st.h.length - 1) c2 (x := .exhausted) (p := l.pending) hgl hm3 k3 s3
            have hpend : ({ q with state := .exhausted, pending := l.pending.map jumpOf } : Loop) = { q with state := .exhausted } := by rw [← s2]
            rw [hpend] at t1 t2
            obtain ⟨pend, hpd⟩ : ∃ p, p = q.pending := ⟨_, rfl⟩
            refine ⟨pend, _, (run_endLoop k3 (by rw [s1]; exact hbusy)).trans (by rw [hpd]), ?_⟩
            have hpendl : ({ l with state := .exhausted, pending := l.pending } : GLoop) = { l with state := .exhausted } := rfl
            rw [hpendl] at t1
            have hEall := (hE1.trans c3).trans t2
            have hfin : StOk base r (w3.putObj b (.loop { q with state := .exhausted })) S3 μ3 { st with h := H2.set (st.h.length - 1, 10000000 + firstRegion body) (.loop { l with state := .exhausted }) } { a with defers := mark ++ a.defers } := by
              refine ⟨t1, fun t => ?_, hst.nt, by simp only [Heap.length_set]; omega, Nat.le_trans hst.low hEall.size, (hD1.ev c3).ev t2, round_ev hst.round hEall⟩
              simp only [Heap.length_set, c4]
              exact slots_ev (k' := st.h.length - 1) hst.slots hst.heap hEall (Nat.le_refl _) (Nat.le_refl _) t
            have hp2 := hpd.trans s2
            clear hpd
            split at h
            · rename_i hpn
              simp only [Option.some.injEq, Prod.mk.injEq] at h
              obtain ⟨rfl, rfl⟩ := h
              have hp3 : pend = none := by rw [hp2, hpn]; rfl
              subst hp3
              exact ⟨rfl, by simp only [Heap.length_set]; exact c4, rfl, S3, μ3, hfin, hEall.level (by omega)⟩
            · rename_i e2 hpn
              simp only [Option.some.injEq, Prod.mk.injEq] at h
              obtain ⟨rfl, rfl⟩ := h
              rw [hpn] at s3
              have hp3 : pend = some (jumpOf e2) := by rw [hp2, hpn]; rfl
              subst hp3
              have hpost : Post base r st w S μ e2 { st with h := H2.set (st.h.length - 1, 10000000 + firstRegion body) (.loop { l with state := .exhausted }) } (exitOf e2) { a with defers := mark ++ a.defers } (w3.putObj b (.loop { q with state := .exhausted })) :=
                ⟨rfl, by simp only [Heap.length_set]; exact c4, rfl, S3, μ3, hfin, hEall.level (by omega)⟩
              cases e2 with
              | normal => exact absurd rfl s3
              | exit id => exact wpIn_exit hpost
              | ret => exact wpIn_ret hpost
      · cases h
    · cases h
  · cases h

theorem gexec_ok (K : Ctx) (hK : CtxOk K) (hD : DrawRule K) : ∀ n, RecOk K.P (gexec K n) := by
  intro n
  induction n using Nat.strongRecOn with
  | _ n ih =>
    intro fn c st e st' h base r w S μ a hst
    cases n with
    | zero => simp [gexec] at h
    | succ n =>
      have hrec := ih n (Nat.lt_succ_self n)
      cases c with
      | loop c => exact loop_ok K (fun m hm => ih m (by omega)) h hst
      | rangeFunc f ps assign body => exact range_ok K hK hrec h hst
      | skip =>
        simp only [gexec, gbody, Option.some.injEq, Prod.mk.injEq] at h
        obtain ⟨rfl, rfl⟩ := h
        exact wpIn_skip (Post.refl hst)
      | label l =>
        simp only [gexec, gbody, Option.some.injEq, Prod.mk.injEq] at h
        obtain ⟨rfl, rfl⟩ := h
        exact wpIn_label (Post.refl hst)
      | exit id =>
        simp only [gexec, gbody, Option.some.injEq, Prod.mk.injEq] at h
        obtain ⟨rfl, rfl⟩ := h
        exact wpIn_exit (Post.refl (e := .exit id) hst)
      | ret =>
        simp only [gexec, gbody, Option.some.injEq, Prod.mk.injEq] at h
        obtain ⟨rfl, rfl⟩ := h
        exact wpIn_ret (Post.refl (e := .ret) hst)
      | region id ops draws =>
        cases draws with
        | true => exact hD _ hrec fn id ops st e st' h base r w S μ a hst
        | false =>
          simp only [gexec, gbody] at h
          split at h
          · rename_i st1 hops
            simp only [Option.some.injEq, Prod.mk.injEq] at h
            obtain ⟨rfl, rfl⟩ := h
            refine wpIn_region ?_
            have := gops_ok K hK hrec (fn := fn) (ops := ops) (Q := Post base r st w S μ .normal st1) ops.toList 0 st a w S μ rfl hops hst fun a' w' S' μ' q1 q2 q3 q4 => ⟨rfl, q3, q4, S', μ', q1, q2.level (by omega)⟩
            rw [List.range_eq_range']
            simpa using this
          · cases h
      | seq x y =>
        simp only [gexec, gbody] at h
        refine wpIn_seq ?_
        split at h
        · rename_i st1 hx
          refine wpIn_mono (hrec fn x st _ _ hx base r w S μ a hst) fun e' a1 w1 hq => ?_
          obtain ⟨q1, q2, q3, S1, μ1, q4, q5⟩ := hq
          simp only [exitOf] at q1; subst q1
          simp only [Exit.then]
          exact wpIn_mono (hrec fn y st1 _ _ h base r w1 S1 μ1 a1 q4) fun e' a2 w2 hq => Post.of q5 q2 q3 hq
        · rename_i hne
          have hx : gexec K n fn x st = some (e, st') := h
          refine wpIn_mono (hrec fn x st _ _ hx base r w S μ a hst) fun e' a1 w1 hq => ?_
          have q1 := hq.1
          cases e with
          | normal => exact absurd hx (hne st')
          | exit id => simp only [exitOf] at q1; subst q1; exact hq
          | ret => simp only [exitOf] at q1; subst q1; exact hq
      | cond c x y =>
        simp only [gexec, gbody] at h
        split at h
        · rename_i b hb
          have hc := ev_rel hst.heap.glb hst.slots c
          rw [hb] at hc
          refine wpIn_cond hc.bool_inv ?_
          cases b with
          | true => exact hrec fn x st _ _ (by simpa using h) base r w S μ a hst
          | false => exact hrec fn y st _ _ (by simpa using h) base r w S μ a hst
        · cases h
      | block id c =>
        simp only [gexec, gbody] at h
        refine wpIn_block ?_
        split at h
        · rename_i id' st1 hc
          refine wpIn_mono (hrec fn c st _ _ hc base r w S μ a hst) fun e' a1 w1 hq => ?_
          have q1 := hq.1
          simp only [exitOf] at q1; subst q1
          simp only [Exit.inBlock]
          split at h
          · rename_i hid
            simp only [Option.some.injEq, Prod.mk.injEq] at h
            obtain ⟨rfl, rfl⟩ := h
            rw [if_pos hid]
            obtain ⟨_, q⟩ := hq
            exact ⟨rfl, q⟩
          · rename_i hid
            simp only [Option.some.injEq, Prod.mk.injEq] at h
            obtain ⟨rfl, rfl⟩ := h
            rw [if_neg hid]; exact hq
        · rename_i hne
          have hx : gexec K n fn c st = some (e, st') := h
          refine wpIn_mono (hrec fn c st _ _ hx base r w S μ a hst) fun e' a1 w1 hq => ?_
          have q1 := hq.1
          cases e with
          | exit id => exact absurd hx (hne id st')
          | normal => simp only [exitOf] at q1; subst q1; exact hq
          | ret => simp only [exitOf] at q1; subst q1; exact hq
      | scope c =>
        simp only [gexec, gbody] at h
        refine wpIn_scope (fun l a w hq => by
          have := hq.1
          cases e <;> simp [exitOf] at this) ?_
        refine wpIn_mono (hrec fn c st _ _ h base r w S μ a hst) fun e' a1 w1 hq => ?_
        have q1 := hq.1
        cases e with
        | normal => simp only [exitOf] at q1; subst q1; exact hq
        | exit id => simp only [exitOf] at q1; subst q1; exact hq
        | ret => simp only [exitOf] at q1; subst q1; exact hq
      | _ => simp [gexec, gbody] at h

end
end Go.Gh

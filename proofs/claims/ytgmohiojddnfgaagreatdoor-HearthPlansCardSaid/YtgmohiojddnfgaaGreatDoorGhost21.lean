/- Rounds. -/
import Derived.Test.YtgmohiojddnfgaaGreatDoorGhost20
namespace Go.Gh
set_option linter.unusedSimpArgs false
set_option linter.unusedVariables false

section
variable {w w' : World} {S S' : Nat → Prop} {μ μ' : Mu} {H : Heap} {P : Program} {ℓ base : Nat} {r : Option Nat}

/-- A loop's record turned. -/
theorem HRel.loopTurn (hH : HRel w S μ H) {nm : Nm} {l : GLoop} {b : Nat} {q : Loop} {x : LoopState} {p : Option GX} (hg : H.get nm = some (.loop l)) (hm : μ nm 0 = some b) (hb : w.heap[b]? = some (.loop q)) (hp : p ≠ some .normal) :
    HRel (w.putObj b (.loop { q with state := x, pending := p.map jumpOf })) S μ (H.set nm (.loop { l with state := x, pending := p })) ∧
      Ev ℓ w S μ (w.putObj b (.loop { q with state := x, pending := p.map jumpOf })) S μ := by
  obtain ⟨b', q', h1, h2, h3, q1, q2, q3, q5, q6, q7, q8, q9⟩ := hH.blk _ _ hg _ _ hm
  rw [hm] at h1; simp only [Option.some.injEq] at h1; subst h1
  rw [hb] at h3; simp only [Option.some.injEq, Obj.loop.injEq] at h3; subst h3
  have hlt : b < w.heap.size := (Array.getElem?_eq_some_iff.1 hb).1
  have hne : ∀ b', S b' → b' ≠ b := fun b' h e => h2 (e ▸ h)
  have hoth : ∀ b' : Nat, b' ≠ b → (w.putObj b (.loop { q with state := x, pending := p.map jumpOf })).heap[b']? = w.heap[b']? := fun b' e => World.putObj_heap_other e
  have hsh : ∀ b' y, w.shape? b' = some y → (w.putObj b (.loop { q with state := x, pending := p.map jumpOf })).shape? b' = some y := fun b' y h => by
    unfold World.shape? at h ⊢
    by_cases e : b' = b
    · subst e; rw [hb] at h; simp at h
    · rw [hoth b' e]; exact h
  refine hH.turn ℓ (Heap.get_lt hg) rfl rfl rfl (by rw [World.putObj_size]; exact Nat.le_refl _) (fun _ h => h) (fun b h => .inl h) (fun b' h => by rw [World.putObj_size]; exact hH.slt b' h) (fun k hk ho => ?_) hsh (fun b' r h => ?_)
    (fun n t _ => rfl) (fun t b h => h) (fun t b h => .inl ⟨t, h⟩) (fun t b' h => by rw [World.putObj_size]; exact hH.lt _ _ _ h)
    ⟨b, _, hm, h2, World.putObj_heap_same hlt, rfl, rfl, hp, q5, q6, q7, q8, fun t => (q9 t).mono (fun _ h => h) (fun b' h => hoth b' (hne b' h)) hsh (fun _ _ _ _ h => h) (Nat.le_refl _)⟩
  · refine hoth k fun e => ?_
    subst e
    rcases ho with ho | ho
    · exact h2 ho
    · exact ho 0 hm
  · by_cases e : b' = b
    · subst e; exact ⟨_, World.putObj_heap_same hlt⟩
    · exact ⟨r, by rw [hoth b' e]; exact h⟩

theorem fold_size (l : List (Tmp × Value)) : ∀ (tmps : Array Value), (l.foldl (fun tmps x => tmps.setIfInBounds x.1 x.2) tmps).size = tmps.size := by
  induction l with
  | nil => intro tmps; rfl
  | cons x l ih => intro tmps; rw [List.foldl_cons, ih]; simp

theorem params_ok {k nt : Nat} : ∀ (ts : List Tmp) (gs : List GV) (vs : List Value) (s s' : Slots) (tmps : Array Value), (∀ t, VRel w S μ k (tmps.getD t undef) (look s t)) → tmps.size = nt →
    vs.length = gs.length → (∀ j, j < gs.length → VRel w S μ k (vs.getD j undef) (gs.getD j gdead)) → putParams s nt ts gs = some s' →
    ts.length = gs.length ∧ ∀ t, VRel w S μ k (((ts.zip vs).foldl (fun tmps x => tmps.setIfInBounds x.1 x.2) tmps).getD t undef) (look s' t)
  | [], [], vs, s, s', tmps, hs, hn, hl, hv, h => by
    simp only [putParams, Option.some.injEq] at h; subst h
    exact ⟨rfl, by simpa using hs⟩
  | t0 :: ts, g :: gs, [], s, s', tmps, hs, hn, hl, hv, h => by simp at hl
  | t0 :: ts, g :: gs, v :: vs, s, s', tmps, hs, hn, hl, hv, h => by
    simp only [putParams] at h
    split at h
    · rename_i hlt
      obtain ⟨a, b⟩ := params_ok ts gs vs _ s' (tmps.setIfInBounds t0 v) (fun t => by
        rw [look_cons]
        have := put_getD ⟨tmps, []⟩ t0 v t (by rw [show (Act.mk tmps []).tmps.size = tmps.size from rfl, hn]; exact hlt)
        simp only [Act.put] at this
        rw [this]
        split
        · simpa using hv 0 (by simp)
        · exact hs t) (by simp [hn]) (by simpa using hl) (fun j hj => by simpa using hv (j + 1) (by simpa using hj)) h
      exact ⟨by simp [a], b⟩
    · cases h
  | [], g :: gs, vs, s, s', tmps, hs, hn, hl, hv, h => by simp [putParams] at h
  | t0 :: ts, [], vs, s, s', tmps, hs, hn, hl, hv, h => by simp [putParams] at h

theorem set_cons {fr : Fr} {nm : Nm} {x : Blk} (h : nm.1 ≠ H.length) : Heap.set (fr :: H) nm x = fr :: Heap.set H nm x := by
  show (if nm.1 = H.length then _ else _) = _
  rw [if_neg h]

/-- A call of a loop's yield. -/
theorem round_ok {rec : Rec} (hrec : RecOk P rec) {nm : Nm} {args : List GV} {H' : Heap} {v : GV} (h : ground rec nm args H = some (v, H')) {vs : Array Value} (hH : HRel w S μ H) {k b : Nat} (hk : k = H.length - 1) (hp : 0 < H.length)
    (hm : μ nm 0 = some b) (hvs : vs.size = args.length) (hrel : ∀ j, j < args.length → VRel w S μ k (vs.getD j undef) (args.getD j gdead)) :
    ∃ q : Loop, w.heap[b]? = some (.loop q) ∧ vs.size = q.params.size ∧
      RoundIn (Fw r) 0 P b q.fn ((q.params.zip vs).foldl (fun tmps (t, a) => tmps.setIfInBounds t a) q.tmps) q.assign q.body w (Done (H.length - 1) H.length w S μ v H') := by
  subst hk
  unfold ground at h
  split at h
  · rename_i l hg
    have hnl : nm.1 < H.length := Heap.get_lt hg
    obtain ⟨b', q, h1, h2, h3, q1, q2, q3, q5, q6, q7, q8, q9⟩ := hH.blk _ _ hg _ _ hm
    rw [hm] at h1; simp only [Option.some.injEq] at h1; subst h1
    refine ⟨q, h3, ?_⟩
    split at h
    · rename_i hready
      split at h
      · rename_i s hpar
        have hargs : ∀ j, j < (args.map canon).length → VRel w S μ H.length (vs.toList.getD j undef) ((args.map canon).getD j gdead) := fun j hj => by
          have hj' : j < args.length := by simpa using hj
          have e : (args.map canon).getD j gdead = canon (args.getD j gdead) := by simp [List.getD_eq_getElem?_getD, hj']
          rw [e, ← agetD]
          exact canon_rel ((hrel j hj').up (by omega))
        obtain ⟨p1, p2⟩ := params_ok l.params _ vs.toList l.slots s q.tmps (fun t => (q9 t).up (by omega)) q8 (by simpa using hvs) hargs hpar
        have hps : vs.size = q.params.size := by rw [q5]; simp at p1; simp [hvs, p1]
        refine ⟨hps, ?_⟩
        have hfold : ((q.params.zip vs).foldl (fun tmps (t, a) => tmps.setIfInBounds t a) q.tmps) = (l.params.zip vs.toList).foldl (fun tmps x => tmps.setIfInBounds x.1 x.2) q.tmps := by
          rw [← Array.foldl_toList, Array.toList_zip, q5]
        rw [hfold]
        have hst : StOk w.heap.size (some b) w S μ ⟨s, [] :: H, l.nt⟩ { tmps := (l.params.zip vs.toList).foldl (fun tmps x => tmps.setIfInBounds x.1 x.2) q.tmps, defers := [] } :=
          ⟨hH.push, p2, by rw [← q8]; exact fold_size _ _, by simp, Nat.le_refl _, ⟨fun d hd => by simp at hd, .nil⟩, fun l hl => by cases hl; exact ⟨q, h3⟩⟩
        split at h
        · rename_i st hra
          have hwa := hrec _ _ _ _ _ hra _ _ w S μ _ hst
          split at h
          · rename_i fr H1 hh1
            split at h
            · rename_i l1 hg1
              split at h
              · cases h
              rename_i hready1
              have hready1 : l1.state = .ready := Classical.not_not.1 hready1
              split at h
              · rename_i e st' hrb
                split at h
                · rename_i fr2 H2 hh2
                  split at h
                  · rename_i l2 hg2
                    refine roundIn_of_wpIn trivial ?_
                    rw [q6]
                    refine wpIn_mono hwa fun e' a1 w1 hq => ?_
                    obtain ⟨e1, e2, e3, S1, μ1, e4, e5⟩ := hq
                    simp only [exitOf] at e1; subst e1
                    simp only [List.length_cons, Nat.add_sub_cancel] at e2 e5
                    simp only [Exit.then]
                    have hlen1 : H1.length = H.length := by rw [hh1] at e2; simpa using e2
                    have hm1 : μ1 nm 0 = some b := e5.mu nm 0 b (by omega) hm
                    have hH1 : HRel w1 S1 μ1 (fr :: H1) := hh1 ▸ e4.heap
                    have hg1' : Heap.get (fr :: H1) nm = some (.loop l1) := by rw [get_cons, if_neg (by omega)]; exact hg1
                    obtain ⟨b1, r1, k1, k2, k3, s1, s2, s3, s5, s6, s7, s8, s9⟩ := hH1.blk _ _ hg1' _ _ hm1
                    rw [hm1] at k1; simp only [Option.some.injEq] at k1; subst k1
                    refine ⟨_, run_beginRound k3 (s1.trans hready1), ?_⟩
                    obtain ⟨t1, t2⟩ := HRel.loopTurn (ℓ := H.length) hH1 (x := .busy) (p := l1.pending) hg1' hm1 k3 s3
                    have hpend : ({ r1 with state := .busy, pending := l1.pending.map jumpOf } : Loop) = { r1 with state := .busy } := by rw [← s2]
                    rw [hpend] at t1 t2
                    rw [set_cons (by omega)] at t1
                    have hst2 : StOk w.heap.size (some b) (w1.putObj b (.loop { r1 with state := .busy })) S1 μ1 ⟨st.s, fr :: Heap.set H1 nm (.loop { l1 with state := .busy }), l.nt⟩ a1 := by
                      refine ⟨t1, fun t => ?_, ?_, by simp, Nat.le_trans e4.low t2.size, e4.defs.ev t2, round_ev e4.round t2⟩
                      · have := slots_ev (k' := H.length) e4.slots hH1 t2 (by rw [hh1]; simp [hlen1]) (by rw [hh1]; simp [hlen1]) t
                        simpa [Heap.length_set, hlen1] using this
                      · rw [e4.nt]; exact e3
                    have hwb := hrec _ _ _ _ _ hrb _ _ _ S1 μ1 _ hst2
                    rw [q7]
                    refine wpIn_mono hwb fun e' a2 w2 hq => ?_
                    obtain ⟨f1, f2, f3, S2, μ2, f4, f5⟩ := hq
                    simp only [List.length_cons, Nat.add_sub_cancel, Heap.length_set] at f2 f5
                    rw [hlen1] at f2 f5
                    have hlen2 : H2.length = H.length := by rw [hh2] at f2; simpa using f2
                    have hm2 : μ2 nm 0 = some b := f5.mu nm 0 b (by omega) hm1
                    have hH2 : HRel w2 S2 μ2 (fr2 :: H2) := hh2 ▸ f4.heap
                    have hg2' : Heap.get (fr2 :: H2) nm = some (.loop l2) := by rw [get_cons, if_neg (by omega)]; exact hg2
                    obtain ⟨b2, r2, m1, m2, m3, n1, n2, n3, n5, n6, n7, n8, n9⟩ := hH2.blk _ _ hg2' _ _ hm2
                    rw [hm2] at m1; simp only [Option.some.injEq] at m1; subst m1
                    have fin : ∀ (x : LoopState) (p : Option GX) (bo : Bool), p ≠ some .normal → v = .pure (.bool bo) → H' = Heap.set H2 nm (.loop { l2 with state := x, pending := p }) →
                        Done (H.length - 1) H.length w S μ v H' (.returned (.bool bo)) (w2.putObj b (.loop { r2 with state := x, pending := p.map jumpOf })) := by
                      intro x p bo hpn hv hH'
                      subst hv; subst hH'
                      obtain ⟨u1, u2⟩ := HRel.loopTurn (ℓ := H.length) hH2 (x := x) (p := p) hg2' hm2 m3 hpn
                      rw [set_cons (by omega)] at u1
                      have d1 := drop_heap u1
                      have d2 := drop_ev (ℓ := H.length - 1) (L := (Heap.set H2 nm (.loop { l2 with state := x, pending := p })).length) u1 (by rw [Heap.length_set]; omega)
                      exact ⟨.bool bo, _, _, rfl, .pure _ _ (.bool bo), d1, ((((e5.trans (t2.level (by omega))).trans f5).trans (u2.level (by omega))).level (by omega)).trans d2, by rw [Heap.length_set]; exact hlen2⟩
                    cases e with
                    | normal =>
                      simp only [exitOf] at f1; subst f1
                      simp only [Option.some.injEq, Prod.mk.injEq] at h
                      exact ⟨_, _, run_endRound none m3, fin .ready none true (by simp) h.1.symm h.2.symm⟩
                    | ret =>
                      simp only [exitOf] at f1; subst f1
                      simp only [Option.some.injEq, Prod.mk.injEq] at h
                      exact ⟨_, _, run_endRound (some .ret) m3, fin .done (some .ret) false (by simp) h.1.symm h.2.symm⟩
                    | exit id =>
                      simp only [exitOf] at f1; subst f1
                      simp only [Option.some.injEq, Prod.mk.injEq] at h
                      exact ⟨_, _, run_endRound (some (.exit id)) m3, fin .done (some (.exit id)) false (by simp) h.1.symm h.2.symm⟩
                  · cases h
                · cases h
              · cases h
            · cases h
          · cases h
        · cases h
      · cases h
    · cases h
  · cases h

end
end Go.Gh

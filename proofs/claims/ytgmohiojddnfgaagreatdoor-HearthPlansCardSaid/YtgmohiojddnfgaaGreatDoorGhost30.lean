/- Blocks that are let go; results whose blocks go to a scope around. -/
import Derived.Test.YtgmohiojddnfgaaGreatDoorGhost20
namespace Go.Gh
set_option linter.unusedSimpArgs false
set_option linter.unusedVariables false

section
variable {w w' : World} {S S' : Nat → Prop} {μ μ' : Mu} {H : Heap} {P : Program} {ℓ base : Nat} {r : Option Nat}

theorem Fr.get_del (q p : Nat) : ∀ f : Fr, (f.del q).get p = if p = q then none else f.get p
  | [] => by simp [Fr.del, Fr.get]
  | (k, b) :: r => by
    unfold Fr.del
    split
    · rename_i h
      rw [Fr.get_del q p r]
      by_cases e : p = q
      · simp [e]
      · have e2 : ¬ p = k := fun x => e (x.trans h.symm)
        simp [e, e2, Fr.get]
    · rename_i h
      simp only [Fr.get, Fr.get_del q p r]
      by_cases e : p = k
      · have e2 : ¬ p = q := fun x => h (x.symm.trans e)
        simp [e, e2]
        intro x; exact absurd x.symm h
      · simp [e]

theorem get_delAll (p : Nat) : ∀ (l : List Nat) (f : Fr), (delAll l f).get p = if p ∈ l then none else f.get p
  | [], f => by simp [delAll]
  | q :: r, f => by
    rw [delAll, get_delAll p r]
    by_cases h : p ∈ r
    · simp [h]
    · simp only [h, if_false, Fr.get_del, List.mem_cons, or_false]

theorem noRefL_get {nm : Nm} : ∀ {l : List GV}, noRefL nm l = true → ∀ j, noRef nm (l.getD j gdead) = true
  | [], _, j => by simp [gdead, noRef]
  | g :: r, h, j => by
    simp only [noRefL, Bool.and_eq_true] at h
    cases j with
    | zero => simpa using h.1
    | succ j => simpa using noRefL_get h.2 j

theorem noRefLL_get {nm : Nm} : ∀ {l : List (List GV)}, noRefLL nm l = true → ∀ i j, noRef nm ((l.getD i []).getD j gdead) = true
  | [], _, i, j => by simp [gdead, noRef]
  | g :: r, h, i, j => by
    simp only [noRefLL, Bool.and_eq_true] at h
    cases i with
    | zero => simpa using noRefL_get h.1 j
    | succ i => simpa using noRefLL_get h.2 i j

theorem VRel.forget {ks : List Nm} {v : Value} {g : GV} (hm : ∀ n t b, n.1 ≤ ℓ → n ∉ ks → μ n t = some b → μ' n t = some b) (h : VRel w S μ ℓ v g) (hn : ∀ k ∈ ks, noRef k g = true) : VRel w S μ' ℓ v g := by
  induction h with
  | pure v p h => exact .pure v p h
  | pptr b o cs f hb hf h1 hr => exact .pptr b o cs f hb hf h1 hr
  | lptr b o cs f hb hf h1 _ ih => exact .lptr b o cs f hb hf h1 fun j hj => ih j hj fun k hk => noRefL_get (by simpa only [noRef] using hn k hk) j
  | nils a => exact .nils a
  | lits b o cap es l f hb he hes hf h1 _ hcap ih => exact .lits b o cap es l f hb he hes hf h1 (fun i j hi hj => ih i j hi hj fun k hk => noRefLL_get (by simpa only [noRef] using hn k hk) i j) hcap
  | bptr nm off b h1 h2 => exact .bptr nm off b h1 (hm _ _ _ h1 (fun hk => by have := hn nm hk; simp [noRef] at this) h2)
  | eptr nm es top i off b h1 h2 => exact .eptr nm es top i off b h1 (hm _ _ _ h1 (fun hk => by have := hn nm hk; simp [noRef] at this) h2)
  | hdr nm es top lo len cap b n e h1 h2 hc ht hs hn' => exact .hdr nm es top lo len cap b n e h1 (hm _ _ _ h1 (fun hk => by have := hn nm hk; simp [noRef] at this) h2) hc ht hs hn'
  | agg vs l h h1 _ ih => exact .agg vs l h h1 fun j hj => ih j hj fun k hk => noRefL_get (by simpa only [noRef] using hn k hk) j
  | tuple vs l h _ ih => exact .tuple vs l h fun j hj => ih j hj fun k hk => noRefL_get (by simpa only [noRef] using hn k hk) j
  | func f a c la lc h1 h2 _ _ ih1 ih2 =>
    have h3 : ∀ k ∈ ks, noRefL k la = true ∧ noRefL k lc = true := fun k hk => by simpa only [noRef, Bool.and_eq_true] using hn k hk
    exact .func f a c la lc h1 h2 (fun j hj => ih1 j hj fun k hk => noRefL_get (h3 k hk).1 j) (fun j hj => ih2 j hj fun k hk => noRefL_get (h3 k hk).2 j)
  | yield nm b h1 h2 => exact .yield nm b h1 (hm _ _ _ h1 (fun hk => by have := hn nm hk; simp [noRef] at this) h2)
  | map nm b h1 h2 => exact .map nm b h1 (hm _ _ _ h1 (fun hk => by have := hn nm hk; simp [noRef] at this) h2)
  | rhdr nm es i len cap b h1 h2 h3 => exact .rhdr nm es i len cap b h1 (hm _ _ _ h1 (fun hk => by have := hn nm hk; simp [noRef] at this) h2) h3
  | rptr nm es i j off b h1 h2 => exact .rptr nm es i j off b h1 (hm _ _ _ h1 (fun hk => by have := hn nm hk; simp [noRef] at this) h2)

theorem CRel.forget {ks : List Nm} {vs : List Value} {gs : List GV} (hm : ∀ n t b, n.1 ≤ ℓ → n ∉ ks → μ n t = some b → μ' n t = some b) (h : CRel w S μ ℓ vs gs) (hn : ∀ k ∈ ks, noRefL k gs = true) : CRel w S μ' ℓ vs gs := by
  induction h with
  | nil => exact .nil
  | cons h1 h _ ih =>
    have h3 : ∀ k ∈ ks, _ := fun k hk => by simpa only [noRefL, Bool.and_eq_true] using hn k hk
    exact .cons h1 (h.forget hm fun k hk => (h3 k hk).1) (ih fun k hk => (h3 k hk).2)

theorem noRefE_get {nm : Nm} : ∀ {l : List (PV × GV)}, noRefE nm l = true → ∀ j (h : j < l.length), noRef nm l[j].2 = true
  | [], _, j, h => by simp at h
  | e :: r, hn, j, h => by
    simp only [noRefE, Bool.and_eq_true] at hn
    cases j with
    | zero => simpa using hn.1
    | succ j => simpa using noRefE_get hn.2 j (by simpa using h)

theorem BlkRel.forget {ks : List Nm} {nm : Nm} {x : Blk} (hm : ∀ n t b, n.1 ≤ nm.1 → n ∉ ks → μ n t = some b → μ' n t = some b) (ho : ∀ t, μ' nm t = μ nm t) (hn : ∀ k ∈ ks, noRefB k x = true) (h : BlkRel w S μ nm x)
    (hne : ks ≠ []) : BlkRel w S μ' nm x := by
  cases x with
  | gone => trivial
  | box cs =>
    obtain ⟨b, c, e, h1, h2, h3, h4⟩ := h
    exact ⟨b, c, e, by rw [ho]; exact h1, h2, h3, h4.forget hm hn⟩
  | arr es elems vf ro =>
    obtain ⟨h0, h1, h2, ⟨b0, h3⟩, h4⟩ := h
    exact ⟨h0, h1, h2, ⟨b0, by rw [ho]; exact h3⟩, fun top b hb' => h4 top b (by rw [ho] at hb'; exact hb')⟩
  | map es =>
    obtain ⟨b, ms, clock, h1, h2, h3, h4, h5⟩ := h
    refine ⟨b, ms, clock, by rw [ho]; exact h1, h2, h3, h4, fun j hj => ?_⟩
    obtain ⟨m, m1, m2, m3⟩ := h5 j hj
    exact ⟨m, m1, m2, m3.forget hm fun k hk => noRefE_get (hn k hk) j hj⟩
  | loop l =>
    obtain ⟨k, hk⟩ := List.exists_mem_of_ne_nil _ hne
    have := hn k hk
    simp [noRefB] at this
  | mat es rows n => exact MatRel.mono (fun _ h => h) (fun _ _ => rfl) ho (fun _ _ _ => rfl) (fun _ _ _ h => h) h

theorem noRefF_get {nm : Nm} {k : Nat} {x : Blk} : ∀ {f : Fr}, noRefF nm f = true → f.get k = some x → noRefB nm x = true
  | [], _, h => by simp [Fr.get] at h
  | (q, b) :: r, hn, h => by
    simp only [noRefF, Bool.and_eq_true] at hn
    simp only [Fr.get] at h
    split at h
    · cases h; exact hn.1
    · exact noRefF_get hn.2 h

theorem noRefS_look {nm : Nm} (t : Nat) : ∀ {s : Slots}, noRefS nm s = true → noRef nm (look s t) = true
  | [], _ => by simp [look, gdead, noRef]
  | (q, v) :: r, hn => by
    simp only [noRefS, Bool.and_eq_true] at hn
    rw [look_cons]
    split
    · exact hn.1
    · exact noRefS_look t hn.2

/-! ### blocks to which nothing leads -/
theorem deadKeys_spec {L : Nat} {s : Slots} {fr : Fr} : ∀ (f : Fr) (k : Nat), k ∈ deadKeys L s fr f → noRefS (L, k) s = true ∧ noRefF (L, k) fr = true
  | [], k, h => by simp [deadKeys] at h
  | x :: r, k, h => by
    simp only [deadKeys] at h
    split at h
    · rename_i hc
      simp only [Bool.and_eq_true] at hc
      rcases List.mem_cons.1 h with rfl | h
      · exact ⟨hc.1.2, hc.2⟩
      · exact deadKeys_spec r k h
    · exact deadKeys_spec r k h

theorem gcol_ok {st st' : GSt} {a : Act} (h : StOk base r w S μ st a) (hs : gcol st = some st') :
    st'.h.length = st.h.length ∧ st'.nt = st.nt ∧ ∃ μ', StOk base r w S μ' st' a ∧ Ev (st'.h.length - 2) w S μ w S μ' := by
  unfold gcol at hs
  split at hs
  · rename_i fr H hh
    split at hs
    · cases hs
    · rename_i h0
      simp only [Option.some.injEq] at hs; subst hs
      generalize hd : deadKeys H.length st.s fr fr = dead
      have hH : HRel w S μ (fr :: H) := hh ▸ h.heap
      have hsp : ∀ k ∈ dead, noRefS (H.length, k) st.s = true ∧ noRefF (H.length, k) fr = true := fun k hk => deadKeys_spec fr k (by rw [hd]; exact hk)
      let gone : List Nm := dead.map fun k => (H.length, k)
      have hgone : ∀ n ∈ gone, n.1 = H.length ∧ n.2 ∈ dead := fun n hn => by
        obtain ⟨k, hk, e⟩ := List.mem_map.1 hn
        subst e; exact ⟨rfl, hk⟩
      have hgone' : ∀ n : Nm, n.1 = H.length → n.2 ∈ dead → n ∈ gone := fun n h1 h2 => List.mem_map.2 ⟨n.2, h2, Prod.ext h1.symm rfl⟩
      let μ1 : Mu := fun n t => if n ∈ gone then none else μ n t
      have a1 : ∀ n t b, μ1 n t = some b → n ∉ gone ∧ μ n t = some b := fun n t b hn => by
        simp only [μ1] at hn
        split at hn
        · cases hn
        · exact ⟨by assumption, hn⟩
      have b1 : ∀ n t, n ∉ gone → μ1 n t = μ n t := fun n t hn => by simp only [μ1]; rw [if_neg hn]
      have hgets : ∀ n : Nm, n ∉ gone → Heap.get (delAll dead fr :: H) n = Heap.get (fr :: H) n := fun n hn => by
        simp only [get_cons]
        split
        · rename_i hl
          rw [get_delAll, if_neg fun hm => hn (hgone' n hl hm)]
        · rfl
      have hE : Ev (H.length + 1 - 2) w S μ w S μ1 := ⟨rfl, rfl, rfl, Nat.le_refl _, fun _ h => h, fun _ _ _ => rfl, fun _ _ h => h, fun b r h => ⟨r, h⟩, fun n t b hl hm => by
          rw [b1 _ _ (fun h => by have := (hgone _ h).1; omega)]; exact hm, fun n t b hm _ => ⟨n, t, (a1 _ _ _ hm).2⟩, fun b hb _ => .inl hb⟩
      refine ⟨by simp [hh], rfl, μ1, ⟨⟨fun n x hx t b hb => ?_, fun n t b hb => ?_, fun n n' t t' b h1 h2 => hH.disj _ _ _ _ _ (a1 _ _ _ h1).2 (a1 _ _ _ h2).2, fun n t b hb => hH.lt _ _ _ (a1 _ _ _ hb).2, hH.slt, hH.glb⟩, fun t => ?_, h.nt, by simp, h.low, h.defs.ev hE, h.round⟩, by simpa using hE⟩
      · obtain ⟨c2, c3⟩ := a1 _ _ _ hb
        rw [hgets n c2] at hx
        have hx0 := hH.blk n x hx t b c3
        by_cases hne : gone = []
        · exact hx0.mono (fun _ h => h) (fun _ _ => rfl) (fun _ _ h => h) (fun n' t' b' hn hm => by rw [b1 _ _ (by rw [hne]; simp)]; exact hm) (fun t => b1 _ _ c2) (fun _ _ _ => rfl) (fun _ _ _ h => h)
        · by_cases hl : n.1 = H.length
          · refine hx0.forget (ks := gone) (fun n' t' b' hn hng hm => by rw [b1 _ _ hng]; exact hm) (fun t => b1 _ _ c2) (fun k hk => ?_) hne
            obtain ⟨k1, k2⟩ := hgone k hk
            rw [get_cons, if_pos hl] at hx
            have := (hsp k.2 k2).2
            rw [show ((H.length, k.2) : Nm) = k from Prod.ext k1.symm rfl] at this
            exact noRefF_get this hx
          · have hlt : n.1 < H.length := by
              rw [get_cons, if_neg hl] at hx
              exact Heap.get_lt hx
            refine hx0.mono (fun _ h => h) (fun _ _ => rfl) (fun _ _ h => h) (fun n' t' b' hn hm => ?_) (fun t => b1 _ _ c2) (fun _ _ _ => rfl) (fun _ _ _ h => h)
            rw [b1 _ _ (fun h => by have := (hgone _ h).1; omega)]; exact hm
      · obtain ⟨c2, c3⟩ := a1 _ _ _ hb
        obtain ⟨x, hx⟩ := hH.bnd n t b c3
        exact ⟨x, by show Heap.get (delAll dead fr :: H) n = some x; rw [hgets n c2]; exact hx⟩
      · have hv := h.slots t
        rw [hh] at hv
        refine hv.forget (ks := gone) (fun n t b _ hn hm => by rw [b1 _ _ hn]; exact hm) fun k hk => ?_
        obtain ⟨k1, k2⟩ := hgone k hk
        have := (hsp k.2 k2).1
        rw [show ((H.length, k.2) : Nm) = k from Prod.ext k1.symm rfl] at this
        exact noRefS_look t this
  · cases hs

theorem gnext_ok (K : Ctx) {fn : FuncId} {c : Code} {st st' : GSt} {a : Act} (h : StOk base r w S μ st a) (hs : gnext K fn c st = some st') :
    st'.h.length + 1 = st.h.length ∧ st'.nt = st.nt ∧ ∃ S' μ', StOk base r w S' μ' st' a ∧ Ev (st'.h.length - 2) w S μ w S' μ' := by
  unfold gnext at hs
  split at hs
  · split at hs
    · rename_i st1 h1
      obtain ⟨q1, q2, S', μ', q3, q4⟩ := gscope_ok h h1
      obtain ⟨p1, p2, μ2, p3, p4⟩ := gcol_ok q3 hs
      exact ⟨by omega, p2.trans q2, S', μ2, p3, (q4.level (by omega)).trans p4⟩
    · cases hs
  · obtain ⟨q1, q2, S', μ', q3, q4⟩ := gscope_ok h hs
    exact ⟨q1, q2, S', μ', q3, q4.level (by omega)⟩

/-! ### results whose blocks go to a scope around -/
theorem altKey_inj {j k k' : Nat} (h : altKey j k = altKey j k') : k = k' := by unfold altKey at h; omega
theorem altKey_sub (j k : Nat) : altKey j k - (j + 1) * 1000000000000 = k := by unfold altKey; omega
theorem altKey_le (j k : Nat) : (j + 1) * 1000000000000 ≤ altKey j k := by unfold altKey; omega

theorem allFree_get {H : Heap} {l j : Nat} : ∀ {ks : List Nat}, allFree H l j ks = true → ∀ k ∈ ks, H.get (l, altKey j k) = none
  | [], _, k, hk => by simp at hk
  | q :: r, h, k, hk => by
    simp only [allFree, Bool.and_eq_true] at h
    rcases List.mem_cons.1 hk with rfl | hk
    · simpa using h.1
    · exact allFree_get h.2 k hk

theorem allNew_get {H : Heap} {L : Nat} {f0 : Fr} : ∀ {ks : List Nat}, allNew H L f0 ks = true → ∀ k ∈ ks, H.get (L, k) = none ∧ noRefF (L, k) f0 = true
  | [], _, k, hk => by simp at hk
  | q :: r, h, k, hk => by
    simp only [allNew, Bool.and_eq_true] at h
    rcases List.mem_cons.1 hk with rfl | hk
    · exact ⟨by simpa using h.1.1, h.1.2⟩
    · exact allNew_get h.2 k hk

theorem insAll_spec {f0 : Fr} {l j : Nat} : ∀ (ks : List Nat) (H H' : Heap), ks.Nodup → l < H.length → insAll f0 l j ks H = some H' →
    H'.length = H.length ∧ (∀ k ∈ ks, ∃ es rows vf ro, f0.get k = some (.arr es rows vf ro) ∧ H'.get (l, altKey j k) = some (.arr es rows vf ro) ∧ altKey j k < tyBase) ∧ ∀ nm : Nm, (∀ k ∈ ks, nm ≠ (l, altKey j k)) → H'.get nm = H.get nm
  | [], H, H', _, _, h => by
    simp only [insAll, Option.some.injEq] at h; subst h
    exact ⟨rfl, fun k hk => by simp at hk, fun _ _ => rfl⟩
  | k :: ks, H, H', hn, hl, h => by
    obtain ⟨n1, n2⟩ := List.nodup_cons.1 hn
    simp only [insAll] at h
    split at h
    · rename_i es rows vf ro h1
      split at h
      case isFalse => cases h
      rename_i hty
      obtain ⟨q1, q2, q3⟩ := insAll_spec ks _ H' n2 (by rw [Heap.length_set]; exact hl) h
      have hne : ∀ k' ∈ ks, ((l, altKey j k) : Nm) ≠ (l, altKey j k') := fun k' hk' e => by
        have := altKey_inj (Prod.mk.inj e).2
        subst this; exact n1 hk'
      refine ⟨q1.trans (Heap.length_set _ _ _), fun k' hk' => ?_, fun nm hnm => ?_⟩
      · rcases List.mem_cons.1 hk' with rfl | hk'
        · refine ⟨es, rows, vf, ro, h1, ?_⟩
          rw [q3 _ hne]
          exact ⟨Heap.get_set _ hl, by simpa [tyOk] using hty⟩
        · exact q2 k' hk'
      · rw [q3 nm fun k' hk' => hnm k' (List.mem_cons_of_mem _ hk')]
        exact Heap.get_set_other _ (hnm k (List.mem_cons_self ..))
    · cases h

theorem lift1_rel {k L l j : Nat} {names : List Nat} (hlk : l ≤ k) (h1 : ∀ q t b, q ∈ names → μ (L, q) t = some b → μ' (l, altKey j q) t = some b) (h2 : ∀ nm t b, nm.1 ≠ L → μ nm t = some b → μ' nm t = some b) {v : Value} {g g' : GV}
    (h : VRel w S μ k v g) (hl : lift1 L l j g = some g') (hr : ∀ q ∈ refs1 L g, q ∈ names) : VRel w S μ' k v g' := by
  cases h with
  | pure v p h => simp only [lift1, Option.some.injEq] at hl; subst hl; exact .pure _ _ h
  | nils a => simp only [lift1, Option.some.injEq] at hl; subst hl; exact .nils a
  | hdr nm es top lo len cap b n e q1 q2 q3 q4 q5 q6 =>
    simp only [lift1] at hl
    split at hl
    · rename_i e1
      simp only [Option.some.injEq] at hl; subst hl
      have e2 : nm = (L, nm.2) := Prod.ext e1 rfl
      refine .hdr _ es top lo len cap b n e hlk ?_ q3 q4 q5 q6
      rw [e2] at q2
      exact h1 _ _ _ (hr _ (by simp [refs1, e1])) q2
    · rename_i e1
      simp only [Option.some.injEq] at hl; subst hl
      exact .hdr nm es top lo len cap b n e q1 (h2 _ _ _ e1 q2) q3 q4 q5 q6
  | _ => simp [lift1] at hl

theorem liftL_get {L l j : Nat} : ∀ {gs gs' : List GV}, liftL L l j gs = some gs' → gs'.length = gs.length ∧ ∀ i, i < gs.length → lift1 L l j (gs.getD i gdead) = some (gs'.getD i gdead)
  | [], gs', h => by simp only [liftL, Option.some.injEq] at h; subst h; exact ⟨rfl, fun i hi => by simp at hi⟩
  | g :: r, gs', h => by
    simp only [liftL] at h
    split at h
    · rename_i g' r' h1 h2
      simp only [Option.some.injEq] at h; subst h
      obtain ⟨q1, q2⟩ := liftL_get h2
      refine ⟨by simp [q1], fun i hi => ?_⟩
      cases i with
      | zero => simpa using h1
      | succ i => simpa using q2 i (by simpa using hi)
    · cases h

theorem lift_ok {H0 H1 H' : Heap} {b v1 v : GV} {u : Value} (hH : HRel w S μ H0) (hv : VRel w' S' μ' (H1.length - 1) u v1) (h1 : HRel w' S' μ' H1) (he : Ev (H0.length - 1) w S μ w' S' μ') (hl1 : H1.length = H0.length) (h : glift H0 b (v1, H1) = some (v, H')) :
    ∃ μ2, VRel w' S' μ2 (H'.length - 1) u v ∧ HRel w' S' μ2 H' ∧ Ev (H0.length - 1) w S μ w' S' μ2 ∧ H'.length = H0.length := by
  unfold glift at h
  split at h
  · rename_i nm off f0 Hr hhd
    simp only at hhd
    subst hhd
    simp only at h
    generalize hks : dedup (refs Hr.length v1) = ks at h
    have hnd : ks.Nodup := hks ▸ nodup_dedup _
    generalize hj : (if allFree (f0 :: Hr) nm.1 0 ks then 0 else 1) = j at h
    split at h
    · rename_i hc
      simp only [Bool.and_eq_true, decide_eq_true_eq] at hc
      obtain ⟨⟨⟨c1, c2⟩, c3⟩, c4⟩ := hc
      split at h
      · rename_i v' H2 hlv hins
        simp only [Option.some.injEq, Prod.mk.injEq] at h
        obtain ⟨rfl, rfl⟩ := h
        generalize hl : nm.1 = l at *
        obtain ⟨q1, q2, q3⟩ := insAll_spec ks _ H2 hnd (by simp; omega) hins
        have hnew := fun k hk => (allNew_get c3 k hk)
        have hfree := fun k hk => allFree_get c4 k hk
        let isT : Nm → Prop := fun n => n.1 = l ∧ (j + 1) * 1000000000000 ≤ n.2 ∧ n.2 - (j + 1) * 1000000000000 ∈ ks
        let μ2 : Mu := fun n t => if n.1 = l ∧ (j + 1) * 1000000000000 ≤ n.2 ∧ n.2 - (j + 1) * 1000000000000 ∈ ks then μ' (Hr.length, n.2 - (j + 1) * 1000000000000) t else if n.1 = Hr.length ∧ n.2 ∈ ks then none else μ' n t
        have tgt : ∀ k t, k ∈ ks → μ2 (l, altKey j k) t = μ' (Hr.length, k) t := fun k t hk => by
          have hc : l = l ∧ (j + 1) * 1000000000000 ≤ altKey j k ∧ altKey j k - (j + 1) * 1000000000000 ∈ ks := ⟨rfl, altKey_le j k, by rw [altKey_sub]; exact hk⟩
          have e : μ2 (l, altKey j k) t = μ' (Hr.length, altKey j k - (j + 1) * 1000000000000) t := if_pos hc
          rw [e, altKey_sub]
        have tcase : ∀ n : Nm, (∃ k ∈ ks, n = (l, altKey j k)) ∨ ((∀ k ∈ ks, n ≠ (l, altKey j k)) ∧ ∀ t, μ2 n t = if n.1 = Hr.length ∧ n.2 ∈ ks then none else μ' n t) := fun n => by
          by_cases hc : n.1 = l ∧ (j + 1) * 1000000000000 ≤ n.2 ∧ n.2 - (j + 1) * 1000000000000 ∈ ks
          · refine .inl ⟨_, hc.2.2, Prod.ext hc.1 ?_⟩
            have := hc.2.1
            simp only [altKey]; omega
          · refine .inr ⟨fun k hk e => hc ?_, fun t => ?_⟩
            · subst e; exact ⟨rfl, altKey_le j k, by rw [altKey_sub]; exact hk⟩
            · simp only [μ2]; rw [if_neg hc]
        have hnt : ∀ n t b, μ' n t = some b → ∀ k ∈ ks, n ≠ (l, altKey j k) := fun n t b hb k hk e => by
          obtain ⟨x, hx⟩ := h1.bnd _ _ _ hb
          rw [e, hfree k hk] at hx; cases hx
        have up : ∀ n t b, ¬ (n.1 = Hr.length ∧ n.2 ∈ ks) → μ' n t = some b → μ2 n t = some b := fun n t b hn hb => by
          rcases tcase n with ⟨k, hk, e⟩ | ⟨_, e⟩
          · exact absurd e (hnt n t b hb k hk)
          · rw [e, if_neg hn]; exact hb
        have old : ∀ n t b, (∀ k ∈ ks, n ≠ (l, altKey j k)) → μ2 n t = some b → ¬ (n.1 = Hr.length ∧ n.2 ∈ ks) ∧ μ' n t = some b := fun n t b hn hb => by
          rcases tcase n with ⟨k, hk, e⟩ | ⟨_, e⟩
          · exact absurd e (hn k hk)
          · rw [e] at hb
            split at hb
            · cases hb
            · exact ⟨by assumption, hb⟩
        have hget : ∀ n : Nm, (∀ k ∈ ks, n ≠ (l, altKey j k)) → ¬ (n.1 = Hr.length ∧ n.2 ∈ ks) → H2.get n = Heap.get (f0 :: Hr) n := fun n hn hs => by
          rw [q3 n hn]
          simp only [get_cons]
          split
          · rename_i hl'
            rw [get_delAll, if_neg fun hm => hs ⟨hl', hm⟩]
          · rfl
        have hlen : H2.length = Hr.length + 1 := by simpa using q1
        have hL0 : H0.length = Hr.length + 1 := by simpa using hl1.symm
        refine ⟨μ2, ?_, ⟨fun n x hx t b hb => ?_, fun n t b hb => ?_, fun n n' t t' b g1 g2 => ?_, fun n t b hb => ?_, h1.slt, h1.glb⟩, ?_, by omega⟩
        · rw [show H2.length - 1 = Hr.length by omega]
          have hv' : VRel w' S' μ' Hr.length u v1 := by simpa using hv
          have k1 : ∀ q t b, q ∈ ks → μ' (Hr.length, q) t = some b → μ2 (l, altKey j q) t = some b := fun q t b hq hb => by rw [tgt q t hq]; exact hb
          have k2 : ∀ n t b, n.1 ≠ Hr.length → μ' n t = some b → μ2 n t = some b := fun n t b hn hb => up n t b (fun h => hn h.1) hb
          have hin : ∀ q ∈ refs Hr.length v1, q ∈ ks := fun q hq => by rw [← hks]; exact (mem_dedup _).2 hq
          cases v1 with
          | agg l1 =>
            simp only [liftV] at hlv
            split at hlv
            · rename_i cs hcs
              simp only [Option.some.injEq] at hlv; subst hlv
              obtain ⟨z1, z2⟩ := liftL_get hcs
              cases hv' with
              | agg vs _ g1 g2 g3 =>
                refine .agg vs cs (by omega) (fun i hi => g2 i (by omega)) fun i hi => ?_
                have hi' : i < l1.length := by omega
                refine lift1_rel (by omega) k1 k2 (g3 i hi') (z2 i hi') fun q hq => hin q ?_
                have e2 : l1.getD i gdead = l1[i] := by simp [List.getD_eq_getElem?_getD, hi']
                rw [e2] at hq
                exact List.mem_flatMap.2 ⟨l1[i], List.getElem_mem hi', hq⟩
            · cases hlv
          | tuple l1 => simp [liftV, lift1] at hlv
          | func f a c => simp [liftV, lift1] at hlv
          | _ => exact lift1_rel (by omega) k1 k2 hv' (by simpa only [liftV] using hlv) (by simpa only [refs, refs2] using hin)
        · rcases tcase n with ⟨k, hk, rfl⟩ | ⟨hn, _⟩
          · obtain ⟨es, rows, vf, ro, x1, x2, x5⟩ := q2 k hk
            rw [x2] at hx; cases hx
            rw [tgt k t hk] at hb
            obtain ⟨z0, z1, z2, ⟨b0, z3⟩, z4⟩ := h1.blk (Hr.length, k) _ (by rw [get_cons, if_pos rfl]; exact x1) t b hb
            exact ⟨z0, z1, z2, ⟨b0, by rw [tgt k _ hk]; exact z3⟩, fun top b hb' => by
              obtain ⟨y1, ⟨c, e, y2⟩, y3⟩ := z4 top b (by rw [tgt k _ hk] at hb'; exact hb')
              exact ⟨y1, ⟨c, _, by rw [tyE_low (nm := (l, altKey j k)) x5]; exact y2⟩, y3⟩⟩
          · obtain ⟨ns, hb'⟩ := old n t b hn hb
            rw [hget n hn ns] at hx
            have hx0 := h1.blk n x hx t b hb'
            have ho : ∀ t, μ2 n t = μ' n t := fun t => by
              rcases tcase n with ⟨k, hk, e⟩ | ⟨_, e⟩
              · exact absurd e (hn k hk)
              · rw [e, if_neg ns]
            let gone : List Nm := ks.map fun k => (Hr.length, k)
            have hgm : ∀ n : Nm, n ∉ gone → ¬ (n.1 = Hr.length ∧ n.2 ∈ ks) := fun n hn h => hn (List.mem_map.2 ⟨n.2, h.2, Prod.ext h.1.symm rfl⟩)
            by_cases hne : gone = []
            · exact hx0.mono (fun _ h => h) (fun _ _ => rfl) (fun _ _ h => h) (fun n' t' b' _ hm => up _ _ _ (hgm _ (by rw [hne]; simp)) hm) ho (fun _ _ _ => rfl) (fun _ _ _ h => h)
            · by_cases hl2 : n.1 = Hr.length
              · refine hx0.forget (ks := gone) (fun n' t' b' _ hng hm => up _ _ _ (hgm _ hng) hm) ho (fun k hk => ?_) hne
                obtain ⟨q, hq, rfl⟩ := List.mem_map.1 hk
                rw [get_cons, if_pos hl2] at hx
                exact noRefF_get (hnew q hq).2 hx
              · have hlt : n.1 < Hr.length := by
                  rw [get_cons, if_neg hl2] at hx
                  exact Heap.get_lt hx
                exact hx0.mono (fun _ h => h) (fun _ _ => rfl) (fun _ _ h => h) (fun n' t' b' hn' hm => up _ _ _ (fun h => by have := h.1; omega) hm) ho (fun _ _ _ => rfl) (fun _ _ _ h => h)
        · rcases tcase n with ⟨k, hk, rfl⟩ | ⟨hn, _⟩
          · obtain ⟨es, rows, vf, ro, x1, x2, x5⟩ := q2 k hk
            exact ⟨_, x2⟩
          · obtain ⟨ns, hb'⟩ := old n t b hn hb
            obtain ⟨x, hx⟩ := h1.bnd _ _ _ hb'
            exact ⟨x, by rw [hget n hn ns]; exact hx⟩
        · rcases tcase n with ⟨k, hk, rfl⟩ | ⟨hn, _⟩
          · rw [tgt k t hk] at g1
            rcases tcase n' with ⟨k', hk', rfl⟩ | ⟨hn', _⟩
            · rw [tgt k' t' hk'] at g2
              have := (Prod.mk.inj (h1.disj _ _ _ _ _ g1 g2)).2
              rw [this]
            · obtain ⟨ns, g2'⟩ := old n' t' b hn' g2
              have := h1.disj _ _ _ _ _ g1 g2'
              exact absurd ⟨by rw [← this], by rw [← this]; exact hk⟩ ns
          · obtain ⟨ns, g1'⟩ := old n t b hn g1
            rcases tcase n' with ⟨k', hk', rfl⟩ | ⟨hn', _⟩
            · rw [tgt k' t' hk'] at g2
              have := h1.disj _ _ _ _ _ g1' g2
              exact absurd ⟨by rw [this], by rw [this]; exact hk'⟩ ns
            · obtain ⟨_, g2'⟩ := old n' t' b hn' g2
              exact h1.disj _ _ _ _ _ g1' g2'
        · rcases tcase n with ⟨k, hk, rfl⟩ | ⟨hn, _⟩
          · rw [tgt k t hk] at hb; exact h1.lt _ _ _ hb
          · exact h1.lt _ _ _ (old n t b hn hb).2
        · refine ⟨he.os, he.tape, he.out, he.size, he.sub, he.same, he.shp, he.lp, fun n t b hnl hb => ?_, fun n t b hb hlt => ?_, he.snew⟩
          · refine up n t b (fun hs => ?_) (he.mu n t b hnl hb)
            obtain ⟨x, hx⟩ := hH.bnd _ _ _ hb
            have := (hnew n.2 hs.2).1
            rw [show ((Hr.length, n.2) : Nm) = n from Prod.ext hs.1.symm rfl, hx] at this
            cases this
          · rcases tcase n with ⟨k, hk, rfl⟩ | ⟨hn, _⟩
            · rw [tgt k t hk] at hb
              exact he.own _ _ _ hb hlt
            · exact he.own _ _ _ (old n t b hn hb).2 hlt
      · cases h
    · cases h
  · cases h
/-- A name of the innermost scope to which no block leads is let go. -/
theorem drop_name {f0 : Fr} {Hr : Heap} {q : Nat} (h : HRel w S μ (f0 :: Hr)) (hn : noRefF (Hr.length, q) f0 = true) :
    HRel w S (fun n t => if n = (Hr.length, q) then none else μ n t) (delAll [q] f0 :: Hr) := by
  have hup : ∀ n t b, n ≠ (Hr.length, q) → μ n t = some b → (fun n t => if n = ((Hr.length, q) : Nm) then none else μ n t) n t = some b := fun n t b hne hb => by
    simp only [if_neg hne]; exact hb
  have hdn : ∀ n t b, (fun n t => if n = ((Hr.length, q) : Nm) then none else μ n t) n t = some b → n ≠ (Hr.length, q) ∧ μ n t = some b := fun n t b hb => by
    by_cases e : n = (Hr.length, q)
    · simp [e] at hb
    · simp only [if_neg e] at hb; exact ⟨e, hb⟩
  have hget : ∀ n : Nm, n ≠ (Hr.length, q) → Heap.get (delAll [q] f0 :: Hr) n = Heap.get (f0 :: Hr) n := fun n hne => by
    simp only [get_cons]
    split
    · rename_i hl
      rw [get_delAll, if_neg]
      simp only [List.mem_singleton]
      intro e; exact hne (Prod.ext hl e)
    · rfl
  refine ⟨fun n x hx t b hb => ?_, fun n t b hb => ?_, fun n n' t t' b h1 h2 => ?_, fun n t b hb => ?_, h.slt, h.glb⟩
  · obtain ⟨hne, hb⟩ := hdn n t b hb
    rw [hget n hne] at hx
    have hx0 := h.blk n x hx t b hb
    by_cases hl : n.1 = Hr.length
    · refine hx0.forget (ks := [(Hr.length, q)]) (fun n' t' b' _ hng hm => hup _ _ _ (by simpa using hng) hm) (fun t => if_neg hne) (fun k hk => ?_) (by simp)
      simp only [List.mem_singleton] at hk
      subst hk
      rw [get_cons, if_pos hl] at hx
      exact noRefF_get hn hx
    · have hlt : n.1 < Hr.length := by
        rw [get_cons, if_neg hl] at hx
        exact Heap.get_lt hx
      refine BlkRel.mono (nm := n) (fun _ h => h) (fun _ _ => rfl) (fun _ _ h => h) (fun n' t' b' hn' hm => hup n' t' b' (fun e => ?_) hm) (fun t => if_neg hne) (fun _ _ _ => rfl) (fun _ _ _ h => h) hx0
      subst e
      have : Hr.length ≤ n.1 := hn'
      omega
  · obtain ⟨hne, hb⟩ := hdn n t b hb
    obtain ⟨y, hy⟩ := h.bnd _ _ _ hb
    exact ⟨y, by rw [hget n hne]; exact hy⟩
  · exact h.disj _ _ _ _ _ (hdn _ _ _ h1).2 (hdn _ _ _ h2).2
  · exact h.lt _ _ _ (hdn _ _ _ hb).2

/-- An object that has no name gets one. -/
theorem adopt {nm : Nm} {top b : Nat} {x : Blk} (hH : HRel w S μ H) (hl : nm.1 < H.length) (hno : ∀ n t, μ n t ≠ some b) (hb : b < w.heap.size) (hS : ¬ S b) (hx : BlkRel w S (μ.upd nm top b) nm x) (hnew : ∀ b', μ nm top ≠ some b') :
    HRel w S (μ.upd nm top b) (H.set nm x) := by
  have hcase : ∀ n t b', μ.upd nm top b n t = some b' → (n = nm ∧ t = top ∧ b' = b) ∨ (μ n t = some b' ∧ b' ≠ b) := fun n t b' h => by
    by_cases e : n = nm ∧ t = top
    · obtain ⟨rfl, rfl⟩ := e
      rw [Mu.upd_self] at h; cases h; exact .inl ⟨rfl, rfl, rfl⟩
    · have h2 : μ.upd nm top b n t = μ n t := by unfold Mu.upd; rw [if_neg e]
      rw [h2] at h
      exact .inr ⟨h, fun e2 => hno n t (e2 ▸ h)⟩
  have hmm : ∀ n t b', μ n t = some b' → μ.upd nm top b n t = some b' := fun n t b' h => by
    by_cases e : n = nm ∧ t = top
    · obtain ⟨rfl, rfl⟩ := e; exact absurd h (hnew _)
    · unfold Mu.upd; rw [if_neg e]; exact h
  refine ⟨fun n y hy t b' hb' => ?_, fun n t b' hb' => ?_, fun n n' t t' b' h1 h2 => ?_, fun n t b' hb' => ?_, hH.slt, hH.glb⟩
  · by_cases e : n = nm
    · subst e
      rw [Heap.get_set _ hl] at hy
      cases hy; exact hx
    · rw [Heap.get_set_other _ e] at hy
      rw [Mu.upd_other μ _ _ _ e] at hb'
      exact (hH.blk n y hy t b' hb').mono (fun _ h => h) (fun _ _ => rfl) (fun _ _ h => h) (fun n t b _ h => hmm n t b h) (fun t => Mu.upd_other μ _ _ _ e) (fun _ _ _ => rfl) (fun _ _ _ h => h)
  · by_cases e : n = nm
    · subst e; exact ⟨x, Heap.get_set _ hl⟩
    · rw [Mu.upd_other μ _ _ _ e] at hb'
      obtain ⟨y, hy⟩ := hH.bnd _ _ _ hb'
      exact ⟨y, by rw [Heap.get_set_other _ e]; exact hy⟩
  · rcases hcase _ _ _ h1 with ⟨rfl, rfl, e1⟩ | ⟨g1, e1⟩
    · rcases hcase _ _ _ h2 with ⟨e2, _, _⟩ | ⟨g2, e2⟩
      · exact e2.symm
      · exact absurd e1 e2
    · rcases hcase _ _ _ h2 with ⟨_, _, e2⟩ | ⟨g2, e2⟩
      · exact absurd e2 e1
      · exact hH.disj _ _ _ _ _ g1 g2
  · rcases hcase _ _ _ hb' with ⟨_, _, rfl⟩ | ⟨g, _⟩
    · exact hb
    · exact hH.lt _ _ _ g

theorem liftRow_ok {H0 H1 H' : Heap} {b v1 v : GV} {u vb : Value} {key : Nat} (hH : HRel w S μ H0) (hvb : VRel w S μ (H0.length - 1) vb b) (hv : VRel w' S' μ' (H1.length - 1) u v1) (h1 : HRel w' S' μ' H1) (he : Ev (H0.length - 1) w S μ w' S' μ') (hl1 : H1.length = H0.length)
    (h : gliftRow H0 b key (v1, H1) = some (v, H')) :
    ∃ μ2, VRel w' S' μ2 (H'.length - 1) u v ∧ HRel w' S' μ2 H' ∧ Ev (H0.length - 1) w S μ w' S' μ2 ∧ H'.length = H0.length := by
  unfold gliftRow at h
  split at h
  · rename_i nm off nm2 es top lo len f0 Hr hv1 hhd
    simp only at hhd hv1
    subst hhd; subst hv1
    split at h
    · rename_i hc
      simp only [Bool.and_eq_true, decide_eq_true_eq] at hc
      obtain ⟨⟨⟨c1, c2⟩, c3⟩, c4⟩ := hc
      obtain ⟨k1, k2⟩ := allNew_get c4 nm2.2 (by simp)
      have enm : nm2 = (Hr.length, nm2.2) := Prod.ext c1 rfl
      split at h
      · rename_i es' elems vf hg
        split at h
        · rename_i hcond
          obtain ⟨rfl, hvf, rfl, rfl, rfl, hpos0⟩ := hcond
          split at h
          · rename_i i H2 hadd
            simp only [Option.some.injEq, Prod.mk.injEq] at h
            obtain ⟨rfl, rfl⟩ := h
            cases hv with
            | hdr _ _ _ _ _ cap b n e p1 p2 p3 p4 p5 p6 =>
            have hga : Heap.get (f0 :: Hr) nm2 = some (.arr es' elems vf false) := by rw [get_cons, if_pos c1]; exact hg
            obtain ⟨g0, g1, g2, g3, g4⟩ := h1.blk _ _ hga _ _ p2
            obtain ⟨t1, t2, t3, t4⟩ := g4 _ b p2
            have t5 := (t4 hvf).2
            have hrr : RowRel w' S' b es' elems := ⟨(by obtain ⟨c, e, t2⟩ := t2; exact ⟨c, _, t2⟩), t3 rfl, t5⟩
            have hd := drop_name (q := nm2.2) h1 k2
            let μ1 : Mu := fun n t => if n = ((Hr.length, nm2.2) : Nm) then none else μ' n t
            have hd : HRel w' S' μ1 (delAll [nm2.2] f0 :: Hr) := hd
            have hmu1 : ∀ n t b, n.1 ≤ H0.length - 1 → μ n t = some b → μ1 n t = some b := fun n t b hn hb => by
              have hne : n ≠ (Hr.length, nm2.2) := fun e => by
                obtain ⟨y, hy⟩ := hH.bnd _ _ _ hb
                rw [e, k1] at hy; cases hy
              show (if n = ((Hr.length, nm2.2) : Nm) then none else μ' n t) = some b
              rw [if_neg hne]; exact he.mu n t b hn hb
            have hvb1 : VRel w' S' μ1 (H0.length - 1) vb (.bptr nm off) := hvb.mono he.sub (fun b hb => he.same b (hH.slt b hb) (.inl hb)) he.shp (fun n t b hn hb => hmu1 n t b hn hb) (Nat.le_refl _)
            obtain ⟨rows, n', hl, rfl, m, rfl⟩ := addRow_some g0 hd hvb1 hadd
            have hno : ∀ n t, μ1 n t ≠ some b := fun n t hb => by
              by_cases e : n = (Hr.length, nm2.2)
              · simp [μ1, e] at hb
              · simp only [μ1, if_neg e] at hb
                exact e ((h1.disj _ _ _ _ _ hb p2).trans enm)
            have hbl : b < w'.heap.size := h1.lt _ _ _ p2
            have had := adopt (nm := (nm.1, key)) (top := rix rows.length) (x := .mat es' (rows ++ [elems]) n') hd hl hno hbl (t3 rfl) (m.push (hno _) hrr g1) (fun b' hb' => by have := m.bnd _ _ hb'; omega)
            refine ⟨_, ?_, had, ?_, ?_⟩
            · rw [Nat.zero_mul]
              exact .rhdr _ es' _ _ cap b (by rw [Heap.length_set]; simp at hl ⊢; omega) (Mu.upd_self _ _ _ _) (by omega)
            · refine ⟨he.os, he.tape, he.out, he.size, he.sub, he.same, he.shp, he.lp, fun n t b' hn hb' => ?_, fun n t b' hb' hs => ?_, he.snew⟩
              · have := hmu1 n t b' hn hb'
                by_cases e : n = (nm.1, key) ∧ t = rix rows.length
                · obtain ⟨rfl, rfl⟩ := e
                  have := m.bnd _ _ this; omega
                · unfold Mu.upd; rw [if_neg e]; exact this
              · by_cases e : n = (nm.1, key) ∧ t = rix rows.length
                · obtain ⟨rfl, rfl⟩ := e
                  rw [Mu.upd_self] at hb'; cases hb'
                  exact he.own _ _ _ p2 hs
                · have h2 : μ1.upd (nm.1, key) (rix rows.length) b n t = μ1 n t := by unfold Mu.upd; rw [if_neg e]
                  rw [h2] at hb'
                  by_cases e2 : n = (Hr.length, nm2.2)
                  · simp [μ1, e2] at hb'
                  · simp only [μ1, if_neg e2] at hb'
                    exact he.own _ _ _ hb' hs
            · rw [Heap.length_set]; simp at hl1 ⊢; omega
          · cases h
        · cases h
      · cases h
    · cases h
  · cases h

end
end Go.Gh

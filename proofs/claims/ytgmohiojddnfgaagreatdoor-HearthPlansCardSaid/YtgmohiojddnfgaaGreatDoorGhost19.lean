/- A call's end: its scope goes, its result stays. -/
import Derived.Test.YtgmohiojddnfgaaGreatDoorGhost18
namespace Go.Gh
set_option linter.unusedSimpArgs false
set_option linter.unusedVariables false

section
variable {w w' : World} {S S' : Nat → Prop} {μ μ' : Mu} {H : Heap} {P : Program} {ℓ base : Nat}

theorem newKey_inj {c k k' : Nat} (h : newKey c k = newKey c k') : k = k' := by unfold newKey at h; omega
theorem newKey_sub (c k : Nat) : (newKey c k - (c + 1)) / 4096 = k := by unfold newKey; omega
theorem newKey_le (c k : Nat) : c + 1 ≤ newKey c k ∧ (newKey c k - (c + 1)) % 4096 = 0 := by unfold newKey; omega

theorem mem_dedup {x : Nat} : ∀ l : List Nat, x ∈ dedup l ↔ x ∈ l
  | [] => by simp [dedup]
  | k :: r => by
    unfold dedup
    split
    · rename_i h
      rw [mem_dedup r]
      simp only [List.contains_iff_mem] at h
      simp only [List.mem_cons]
      constructor
      · exact .inr
      · rintro (rfl | h')
        · exact h
        · exact h'
    · simp only [List.mem_cons, mem_dedup r]

theorem nodup_dedup : ∀ l : List Nat, (dedup l).Nodup
  | [] => by simp [dedup]
  | k :: r => by
    unfold dedup
    split
    · exact nodup_dedup r
    · rename_i h
      simp only [List.contains_iff_mem] at h
      exact List.nodup_cons.2 ⟨fun h' => h ((mem_dedup r).1 h'), nodup_dedup r⟩

theorem moveOut_spec {cl : GV → GV} {f : Fr} {c : Nat} : ∀ (ks : List Nat) (H0 H' : Heap), ks.Nodup → H0.length = H.length → 0 < H.length → moveOut cl f H c ks H0 = some H' →
    H'.length = H.length ∧ (∀ k ∈ ks, ∃ b b', f.get k = some b ∧ cleanBlk cl [] (H.length - 1) b = some b' ∧ H'.get (H.length - 1, newKey c k) = some b' ∧ H0.get (H.length - 1, newKey c k) = none ∧ tyOk (newKey c k) b' = true) ∧
      ∀ nm, (∀ k ∈ ks, nm ≠ (H.length - 1, newKey c k)) → H'.get nm = H0.get nm
  | [], H0, H', _, hl, _, h => by
    simp only [moveOut, Option.some.injEq] at h; subst h
    exact ⟨hl, fun k hk => by simp at hk, fun _ _ => rfl⟩
  | k :: ks, H0, H', hn, hl, hp, h => by
    obtain ⟨n1, n2⟩ := List.nodup_cons.1 hn
    simp only [moveOut] at h
    split at h
    · rename_i b hb
      split at h
      · rename_i b' hc hg
        split at h
        case isFalse => cases h
        rename_i hty
        obtain ⟨q1, q2, q3⟩ := moveOut_spec ks _ H' n2 (by rw [Heap.length_set]; exact hl) hp h
        have hne : ∀ k' ∈ ks, ((H.length - 1, newKey c k) : Nm) ≠ (H.length - 1, newKey c k') := fun k' hk' e => by
          have := newKey_inj (Prod.mk.inj e).2
          subst this; exact n1 hk'
        refine ⟨q1, fun k' hk' => ?_, fun nm hnm => ?_⟩
        · rcases List.mem_cons.1 hk' with rfl | hk'
          · refine ⟨b, b', hb, hc, ?_, hg, hty⟩
            rw [q3 _ hne]
            exact Heap.get_set _ (by simp [hl]; omega)
          · obtain ⟨x, x', x1, x2, x3, x4, x5⟩ := q2 k' hk'
            refine ⟨x, x', x1, x2, x3, ?_, x5⟩
            rw [Heap.get_set_other _ (Ne.symm (hne k' hk'))] at x4
            exact x4
        · rw [q3 nm fun k' hk' => hnm k' (List.mem_cons_of_mem _ hk')]
          exact Heap.get_set_other _ (hnm k (List.mem_cons_self ..))
      · cases h
    · cases h

def moveS (S : Nat → Prop) (μ : Mu) (L : Nat) (ks : List Nat) : Nat → Prop := fun b => S b ∨ ∃ k t, k ∉ ks ∧ μ (L, k) t = some b
def moveM (μ : Mu) (L c : Nat) (ks : List Nat) : Mu := fun nm t => if nm.1 = L - 1 ∧ (c + 1 ≤ nm.2 ∧ (nm.2 - (c + 1)) % 4096 = 0) ∧ (nm.2 - (c + 1)) / 4096 ∈ ks then μ (L, (nm.2 - (c + 1)) / 4096) t else dropM μ L nm t

theorem moveM_new {L c k : Nat} {ks : List Nat} (h : k ∈ ks) (t : Nat) : moveM μ L c ks (L - 1, newKey c k) t = μ (L, k) t := by
  unfold moveM
  rw [if_pos ⟨rfl, newKey_le c k, by rw [newKey_sub]; exact h⟩, newKey_sub]

theorem moveM_cases {L c : Nat} {ks : List Nat} (nm : Nm) : (∃ k ∈ ks, nm = (L - 1, newKey c k) ∧ ∀ t, moveM μ L c ks nm t = μ (L, k) t) ∨ ((∀ k ∈ ks, nm ≠ (L - 1, newKey c k)) ∧ ∀ t, moveM μ L c ks nm t = dropM μ L nm t) := by
  by_cases h : nm.1 = L - 1 ∧ (c + 1 ≤ nm.2 ∧ (nm.2 - (c + 1)) % 4096 = 0) ∧ (nm.2 - (c + 1)) / 4096 ∈ ks
  · refine .inl ⟨_, h.2.2, ?_, fun t => ?_⟩
    · refine Prod.ext h.1 ?_
      have := h.2.1
      simp only [newKey]; omega
    · unfold moveM; rw [if_pos h]
  · refine .inr ⟨fun k hk e => h ?_, fun t => ?_⟩
    · subst e
      exact ⟨rfl, newKey_le c k, by rw [newKey_sub]; exact hk⟩
    · unfold moveM; rw [if_neg h]

theorem clean1_nil {k l0 : Nat} {v : Value} {g : GV} (hv : VRel w S μ k v g) : VRel w S μ l0 v (clean1 [] l0 g) :=
  clean1_gen hv (fun _ h => h) fun nm es top lo len e hl => by simp only [sliceOfM, sliceOf, Heap.get]; exact .dead _

theorem clean1_nils {k l0 : Nat} {vs : List Value} {gs : List GV} (h : CRel w S μ k vs gs) : CRel w S μ l0 vs (gs.map (clean1 [] l0)) := by
  induction h with
  | nil => exact .nil
  | cons h1 h2 _ ih => exact .cons h1 (clean1_nil h2) ih

theorem capP_nil {k l0 : Nat} {v : Value} {g g' : GV} (hv : VRel w S μ k v g) (h : capP [] l0 g = some g') : VRel w S μ l0 v g' := by
  cases hv with
  | pure _ p hp => simp only [capP, Option.some.injEq] at h; subst h; exact .pure _ _ hp
  | pptr b o cs f hS hf h1 hr => simp only [capP, Option.some.injEq] at h; subst h; exact .pptr b o cs f hS hf h1 hr
  | nils a => simp only [capP, Option.some.injEq] at h; subst h; exact .nils a
  | bptr nm off b h1 h2 =>
    simp only [capP, Heap.get] at h
    split at h
    · simp only [Option.some.injEq] at h; subst h; exact .bptr nm off b ‹_› h2
    · cases h
  | _ => simp [capP] at h
theorem capsP_nil {k l0 : Nat} : ∀ {gs gs' : List GV} {f : Nat → Value}, capsP [] l0 gs = some gs' → (∀ j, j < gs.length → VRel w S μ k (f j) (gs.getD j gdead)) → gs'.length = gs.length ∧ ∀ j, j < gs'.length → VRel w S μ l0 (f j) (gs'.getD j gdead)
  | [], gs', f, h, _ => by
    simp only [capsP, Option.some.injEq] at h
    subst h
    exact ⟨rfl, fun j hj => absurd hj (Nat.not_lt_zero _)⟩
  | g :: gs, gs', f, h, hr => by
    simp only [capsP] at h
    split at h
    · rename_i g1 r1 e1 e2
      simp only [Option.some.injEq] at h
      subst h
      obtain ⟨a, b⟩ := capsP_nil (f := fun j => f (j + 1)) e2 (fun j hj => by simpa using hr (j + 1) (by simpa using hj))
      refine ⟨by simp [a], fun j hj => ?_⟩
      cases j with
      | zero => simpa using capP_nil (by simpa using hr 0 (by simp)) e1
      | succ j => simpa using b j (by simpa using hj)
    · cases h
theorem clean2_nil {k l0 : Nat} {v : Value} {g : GV} (hv : VRel w S μ k v g) : VRel w S μ l0 v (clean2 [] l0 g) := by
  cases g with
  | agg l =>
    obtain ⟨vs, rfl, hc⟩ := hv.cells
    exact mkAgg_rel' (clean1_nils hc)
  | func f la lc =>
    simp only [clean2]
    split
    · rename_i ha
      have := clean1_nil (l0 := l0) hv
      simpa only [clean1, ha, if_true] using this
    · split
      · rename_i hf
        split
        · rename_i cap' hc
          cases hv with
          | func _ a c _ _ h1 h2 hr1 hr2 =>
            obtain ⟨e1, e2⟩ := capsP_nil hc hr2
            exact .func f a c la cap' h1 (by rw [e1]; exact h2) (allLe_rel hf hr1) e2
        · exact vdead _
      · exact vdead _
  | _ => exact clean1_nil hv

/-- A block under another name. -/
theorem move_blk {cl : GV → GV} {nm nm' : Nm} {x y : Blk} (hx : BlkRel w S μ nm x) (hcl : ∀ v g, VRel w S μ nm.1 v g → VRel w S' μ' nm'.1 v (cl g)) (hc : cleanBlk cl [] nm'.1 x = some y) (hS : ∀ b, S b → S' b) (hm : ∀ t, μ' nm' t = μ nm t)
    (hs : ∀ t b, μ nm t = some b → S' b → S b) (hmu : ∀ n t b, n.1 ≤ nm'.1 → μ n t = some b → μ' n t = some b) (hty : tyOk nm'.2 y = true) : BlkRel w S' μ' nm' y := by
  have vm : ∀ {v g}, VRel w S μ nm'.1 v g → VRel w S' μ' nm'.1 v g := fun h => h.mono hS (fun _ _ => rfl) (fun _ _ h => h) hmu (Nat.le_refl _)
  have cm : ∀ {v g}, CRel w S μ nm'.1 v g → CRel w S' μ' nm'.1 v g := fun h => h.mono hS (fun _ _ => rfl) (fun _ _ h => h) hmu (Nat.le_refl _)
  have pm : ∀ {v p}, PRep w S v p → PRep w S' v p := fun h => h.mono hS (fun _ _ => rfl)
  cases x with
  | box cs =>
    simp only [cleanBlk, Option.some.injEq] at hc; subst hc
    obtain ⟨b, c, e, h1, h2, h3, h4⟩ := hx
    refine ⟨b, c, tyE nm e, by rw [hm]; exact h1, fun h => h2 (hs _ _ h1 h), by rw [tyE_low (nm := nm') (by simpa [tyOk] using hty)]; exact h3, ?_⟩
    clear h3 hty
    generalize c.toList = l at h4
    induction h4 with
    | nil => exact .nil
    | cons k1 k2 _ ih => exact .cons k1 (hcl _ _ k2) ih
  | arr es elems vf ro =>
    simp only [cleanBlk, Option.some.injEq] at hc; subst hc
    obtain ⟨h0, h1, h2, ⟨b0, h3⟩, h4⟩ := hx
    refine ⟨h0, h1, h2, ⟨b0, by rw [hm]; exact h3⟩, fun top b hb' => ?_⟩
    rw [hm] at hb'
    obtain ⟨g1, ⟨c, e, g2⟩, g3, g4⟩ := h4 top b hb'
    refine ⟨g1, ⟨c, tyE nm e, by rw [tyE_low (nm := nm') (by simpa [tyOk] using hty)]; exact g2⟩, fun hr h => g3 hr (hs _ _ hb' h), fun hv => ?_⟩
    obtain ⟨k1, k2⟩ := g4 hv
    refine ⟨fun hr => hS _ (k1 hr), fun i j hi hj => ?_⟩
    obtain ⟨u, u1, u2, u3⟩ := k2 i j hi hj
    exact ⟨u, u1, u2, pm u3⟩
  | map es =>
    simp only [cleanBlk, Option.some.injEq] at hc; subst hc
    obtain ⟨b, ms, clock, h1, h2, h3, h4, h5⟩ := hx
    refine ⟨b, ms, clock, by rw [hm]; exact h1, fun h => h2 (hs _ _ h1 h), h3, by simpa using h4, fun j hj => ?_⟩
    have hj' : j < es.length := by simpa using hj
    obtain ⟨m, m1, m2, m3⟩ := h5 j hj'
    refine ⟨m, m1, ?_, ?_⟩
    · simp only [List.getElem_map]; exact pm m2
    · simp only [List.getElem_map]; exact vm (clean2_nil m3)
  | loop l => simp [cleanBlk] at hc
  | gone => simp [cleanBlk] at hc
  | mat es rows n =>
    simp only [cleanBlk, Option.some.injEq] at hc; subst hc
    exact MatRel.mono hS (fun _ _ => rfl) hm (fun _ _ _ => rfl) hs hx

theorem get_cons {fr : Fr} {nm : Nm} : Heap.get (fr :: H) nm = if nm.1 = H.length then fr.get nm.2 else H.get nm := rfl

theorem move_heap {fr : Fr} {c : Nat} {ks : List Nat} {H' : Heap} (hH : HRel w S μ (fr :: H)) (hp : 0 < H.length) (hn : ks.Nodup) (h : moveOut (clM c fr H ks (H.length - 1)) fr H c ks H = some H') :
    HRel w (moveS S μ H.length ks) (moveM μ H.length c ks) H' ∧ Ev (H.length - 1) w S μ w (moveS S μ H.length ks) (moveM μ H.length c ks) ∧ H'.length = H.length := by
  obtain ⟨q1, q2, q3⟩ := moveOut_spec ks H H' hn rfl hp h
  have hlow : ∀ nm t b, nm.1 < H.length → μ nm t = some b → moveM μ H.length c ks nm t = some b := fun nm t b hl hm => by
    rcases moveM_cases (μ := μ) (L := H.length) (c := c) (ks := ks) nm with ⟨k, hk, rfl, _⟩ | ⟨_, e⟩
    · obtain ⟨_, _, _, _, _, x4, _⟩ := q2 k hk
      obtain ⟨y, hy⟩ := hH.bnd _ _ _ hm
      rw [get_cons, if_neg (by simp; omega), x4] at hy; cases hy
    · rw [e, dropM, if_pos hl]; exact hm
  have hsub : ∀ b, S b → moveS S μ H.length ks b := fun b h => .inl h
  have hrev : ∀ nm t b, moveM μ H.length c ks nm t = some b → ∃ nm', μ nm' t = some b ∧ ((∃ k ∈ ks, nm' = (H.length, k) ∧ nm = (H.length - 1, newKey c k)) ∨ (nm'.1 < H.length ∧ nm = nm' ∧ ∀ k ∈ ks, nm ≠ (H.length - 1, newKey c k))) := fun nm t b hm => by
    rcases moveM_cases (μ := μ) (L := H.length) (c := c) (ks := ks) nm with ⟨k, hk, e1, e⟩ | ⟨e1, e⟩
    · rw [e] at hm; exact ⟨_, hm, .inl ⟨k, hk, rfl, e1⟩⟩
    · rw [e] at hm
      obtain ⟨a, b⟩ := dropM_some hm
      exact ⟨nm, b, .inr ⟨a, rfl, e1⟩⟩
  refine ⟨⟨fun nm x hx t b hb => ?_, fun nm t b hb => ?_, fun nm nm' t t' b h1 h2 => ?_, fun nm t b hb => ?_, fun b hb => ?_, hH.glb.mono hsub (fun _ _ => rfl)⟩, ⟨rfl, rfl, rfl, Nat.le_refl _, hsub, fun _ _ _ => rfl, fun _ _ h => h, fun b r h => ⟨r, h⟩, fun nm t b hl hm => hlow nm t b (by omega) hm, fun nm t b hm _ => ?_, fun b hb _ => ?_⟩, q1⟩
  · rcases moveM_cases (μ := μ) (L := H.length) (c := c) (ks := ks) nm with ⟨k, hk, rfl, e⟩ | ⟨e1, e⟩
    · obtain ⟨x0, x', x1, x2, x3, x4, x5⟩ := q2 k hk
      rw [x3] at hx; simp only [Option.some.injEq] at hx; subst hx
      rw [e] at hb
      have hlow' : ∀ n t b, n.1 ≤ H.length - 1 → μ n t = some b → moveM μ H.length c ks n t = some b := fun n t b hl hm => hlow n t b (by omega) hm
      have hcl : ∀ v g, VRel w S μ H.length v g → VRel w (moveS S μ H.length ks) (moveM μ H.length c ks) (H.length - 1) v (clM c fr H ks (H.length - 1) g) := fun v g hv => by
        have base := (clean1_nil (l0 := H.length - 1) hv).mono hsub (fun _ _ => rfl) (fun _ _ h => h) hlow' (Nat.le_refl _)
        cases g with
        | hdr nm es top lo len =>
          simp only [clM]
          split
          · rename_i hc
            exact .pure _ _ (hdr_pureM hH hv hsub (fun t b hm => .inr ⟨nm.2, t, hc.2, by rw [← hc.1]; exact hm⟩))
          · split
            · rename_i hc1 hc2
              have hin : nm.2 ∈ ks := Decidable.byContradiction fun h => hc1 ⟨hc2.1, h⟩
              cases hv with
              | hdr _ _ _ _ _ cap b n e g1 g2 g3 g4 g5 g6 =>
              refine .hdr _ es top lo len cap b n e (Nat.le_refl _) ?_ g3 g4 g5 g6
              rw [moveM_new hin]
              have : nm = (H.length, nm.2) := Prod.ext hc2.1 rfl
              rw [← this]; exact g2
            · exact base
        | _ => exact base
      refine move_blk (nm := (H.length, k)) (hH.blk _ _ (by rw [get_cons, if_pos rfl]; exact x1) t b hb) hcl x2 hsub (fun t => e t) (fun t b hm hs => ?_) (fun n t b hl hm => hlow n t b (by simp at hl; omega) hm) x5
      rcases hs with hs | ⟨k', t', hk', hm'⟩
      · exact hs
      · have := (Prod.mk.inj (hH.disj _ _ _ _ _ hm hm')).2
        subst this; exact absurd hk hk'
    · rw [e] at hb
      obtain ⟨hlt, hb⟩ := dropM_some hb
      rw [q3 nm e1] at hx
      refine (hH.blk nm x (by rw [get_cons, if_neg (by omega)]; exact hx) t b hb).mono hsub (fun _ _ => rfl) (fun _ _ h => h) (fun n t b hn hm => hlow n t b (by omega) hm) (fun t => ?_) (fun _ _ _ => rfl) (fun t' b' hm hs => ?_)
      · rw [e, dropM, if_pos hlt]
      · rcases hs with hs | ⟨k', t', hk', hm'⟩
        · exact hs
        · have := hH.disj _ _ _ _ _ hm hm'
          subst this; simp at hlt
  · obtain ⟨nm', hm, hc⟩ := hrev nm t b hb
    rcases hc with ⟨k, hk, rfl, rfl⟩ | ⟨hl, rfl, hno⟩
    · obtain ⟨x0, x', x1, x2, x3, x4, x5⟩ := q2 k hk
      exact ⟨x', x3⟩
    · obtain ⟨y, hy⟩ := hH.bnd _ _ _ hm
      rw [get_cons, if_neg (by omega)] at hy
      exact ⟨y, by rw [q3 nm hno]; exact hy⟩
  · obtain ⟨n1, m1, c1⟩ := hrev nm t b h1
    obtain ⟨n2, m2, c2⟩ := hrev nm' t' b h2
    have e := hH.disj _ _ _ _ _ m1 m2
    subst e
    rcases c1 with ⟨k, hk, rfl, rfl⟩ | ⟨hl, rfl, _⟩
    · rcases c2 with ⟨k', hk', e, rfl⟩ | ⟨hl, _, _⟩
      · rw [(Prod.mk.inj e).2]
      · simp at hl
    · rcases c2 with ⟨k', hk', e, rfl⟩ | ⟨_, rfl, _⟩
      · subst e; simp at hl
      · rfl
  · obtain ⟨n1, m1, c1⟩ := hrev nm t b hb
    exact hH.lt _ _ _ m1
  · rcases hb with hb | ⟨k, t, _, hm⟩
    · exact hH.slt b hb
    · exact hH.lt _ _ _ hm
  · obtain ⟨n1, m1, c1⟩ := hrev nm t b hm
    exact ⟨n1, t, m1⟩
  · rcases hb with hb | ⟨k, t, _, hm⟩
    · exact .inl hb
    · exact .inr ⟨_, t, hm⟩

/-! ### the value under its new names -/
section
variable {L c : Nat} {ks : List Nat}

structure RenOk (w : World) (S : Nat → Prop) (μ : Mu) (S' : Nat → Prop) (μ' : Mu) (L c : Nat) (ks : List Nat) : Prop where
  sub : ∀ b, S b → S' b
  low : ∀ nm t b, nm.1 < L → μ nm t = some b → μ' nm t = some b
  new : ∀ k t, k ∈ ks → μ' (L - 1, newKey c k) t = μ (L, k) t
  pos : 0 < L

theorem RenOk.pure (h : RenOk w S μ S' μ' L c ks) {v : Value} {p : PV} (hv : PRep w S v p) : PRep w S' v p := hv.mono h.sub (fun _ _ => rfl)

theorem ren1_rel (h : RenOk w S μ S' μ' L c ks) {v : Value} {g : GV} (hv : VRel w S μ L v g) (hr : ∀ k ∈ refs1 L g, k ∈ ks) : VRel w S' μ' (L - 1) v (ren1 L c g) := by
  have hp := h.pos
  have key : ∀ (nm : Nm) (t b : Nat), nm.1 ≤ L → μ nm t = some b → (nm.1 = L → nm.2 ∈ ks) → nm.1 = L → μ' (L - 1, newKey c nm.2) t = some b := fun nm t b hl hm hk e => by
    rw [h.new _ t (hk e), ← hm, ← e]
  cases hv with
  | pure _ p hp => exact .pure _ _ (h.pure hp)
  | pptr b o cs f hS hf h1 hq => exact .pptr b o cs f (fun x => h.sub b (hS x)) hf h1 (fun j hj => h.pure (hq j hj))
  | nils a => exact .nils a
  | bptr nm off b h1 h2 =>
    simp only [ren1]
    split
    · rename_i e
      exact .bptr _ off b (Nat.le_refl _) (key nm 0 b h1 h2 (fun _ => hr _ (by simp [refs1, e])) e)
    · exact .bptr nm off b (by omega) (h.low nm 0 b (by omega) h2)
  | eptr nm es top i off b h1 h2 =>
    simp only [ren1]
    split
    · rename_i e
      exact .eptr _ es top i off b (Nat.le_refl _) (key nm top b h1 h2 (fun _ => hr _ (by simp [refs1, e])) e)
    · exact .eptr nm es top i off b (by omega) (h.low nm top b (by omega) h2)
  | hdr nm es top lo len cap b n e h1 h2 h3 h4 h5 h6 =>
    simp only [ren1]
    split
    · rename_i e'
      exact .hdr _ es top lo len cap b n e (Nat.le_refl _) (key nm top b h1 h2 (fun _ => hr _ (by simp [refs1, e'])) e') h3 h4 h5 h6
    · exact .hdr nm es top lo len cap b n e (by omega) (h.low nm top b (by omega) h2) h3 h4 h5 h6
  | map nm b h1 h2 =>
    simp only [ren1]
    split
    · rename_i e
      exact .map _ b (Nat.le_refl _) (key nm 0 b h1 h2 (fun _ => hr _ (by simp [refs1, e])) e)
    · exact .map nm b (by omega) (h.low nm 0 b (by omega) h2)
  | yield nm b h1 h2 =>
    simp only [ren1]
    split
    · exact vdead _
    · exact .yield nm b (by omega) (h.low nm 0 b (by omega) h2)
  | lits b o cap es l f hS he hes hf h1 hr hcap => exact vdead _
  | lptr b o cs f hS hf h1 hr => exact vdead _
  | agg vs l h h1 hr => exact vdead _
  | tuple vs l h hr => exact vdead _
  | func f a c la lc h1 h2 hr1 hr2 => exact vdead _
  | rhdr nm es i len cap b h1 h2 h3 => exact vdead _
  | rptr nm es i j off b h1 h2 => exact vdead _

theorem ren1_list (h : RenOk w S μ S' μ' L c ks) {f : Nat → Value} {l : List GV} (hv : ∀ j, j < l.length → VRel w S μ L (f j) (l.getD j gdead)) (hr : ∀ k ∈ l.flatMap (refs1 L), k ∈ ks) (j : Nat) (hj : j < (l.map (ren1 L c)).length) :
    VRel w S' μ' (L - 1) (f j) ((l.map (ren1 L c)).getD j gdead) := by
  have hj' : j < l.length := by simpa using hj
  have e : (l.map (ren1 L c)).getD j gdead = ren1 L c (l.getD j gdead) := by simp [List.getD_eq_getElem?_getD, hj']
  rw [e]
  refine ren1_rel h (hv j hj') fun k hk => hr k (List.mem_flatMap.2 ⟨l[j], List.getElem_mem hj', ?_⟩)
  have e2 : l.getD j gdead = l[j] := by simp [List.getD_eq_getElem?_getD, hj']
  rwa [e2] at hk

theorem ren2_rel (h : RenOk w S μ S' μ' L c ks) {v : Value} {g : GV} (hv : VRel w S μ L v g) (hr : ∀ k ∈ refs2 L g, k ∈ ks) : VRel w S' μ' (L - 1) v (ren2 L c g) := by
  cases g with
  | agg l =>
    cases hv with
    | agg vs _ h1 h2 h3 =>
      refine mkAgg_rel' (.of_get _ _ (by simpa using h1) fun j hj => ?_)
      have hj' : j < l.length := by simpa using hj
      refine ⟨?_, ?_⟩
      · have := h2 j hj'; rw [agetD] at this; exact this
      · have := ren1_list h h3 hr j hj; rw [agetD] at this; exact this
  | func f la lc =>
    cases hv with
    | func _ a cc _ _ h1 h2 h3 h4 =>
      refine .func f a cc _ _ (by simpa using h1) (by simpa using h2) (fun j hj => ren1_list h h3 (fun k hk => hr k ?_) j hj) (fun j hj => ren1_list h h4 (fun k hk => hr k ?_) j hj)
      · simp only [refs2, List.mem_append]; exact .inl hk
      · simp only [refs2, List.mem_append]; exact .inr hk
  | _ => exact ren1_rel h hv hr

theorem ren_rel (h : RenOk w S μ S' μ' L c ks) {v : Value} {g : GV} (hv : VRel w S μ L v g) (hr : ∀ k ∈ refs L g, k ∈ ks) : VRel w S' μ' (L - 1) v (ren L c g) := by
  cases g with
  | tuple l =>
    cases hv with
    | tuple vs _ h1 h2 =>
      refine mkTuple_rel (by simpa using h1) fun j hj => ?_
      have hj' : j < l.length := by simpa using hj
      have e : (l.map (ren2 L c)).getD j gdead = ren2 L c (l.getD j gdead) := by simp [List.getD_eq_getElem?_getD, hj']
      rw [e]
      refine ren2_rel h (h2 j hj') fun k hk => hr k (List.mem_flatMap.2 ⟨l[j], List.getElem_mem hj', ?_⟩)
      have e2 : l.getD j gdead = l[j] := by simp [List.getD_eq_getElem?_getD, hj']
      rwa [e2] at hk
  | _ => exact ren2_rel h hv hr
end

theorem leave_ok (K : Ctx) {f : FuncId} {c : Nat} {r v : GV} {u : Value} {H0 H' : Heap} (hH : HRel w S μ H0) (hv : VRel w S μ (H0.length - 1) u r) (h1 : 1 < H0.length) (h : gleave K f c r H0 = some (v, H')) :
    ∃ S' μ', VRel w S' μ' (H'.length - 1) u v ∧ HRel w S' μ' H' ∧ Ev (H0.length - 2) w S μ w S' μ' ∧ H'.length + 1 = H0.length := by
  unfold gleave at h
  split at h
  · cases h
  · rename_i fr H
    simp only [List.length_cons] at h1 hv ⊢
    have e0 : H.length + 1 - 1 = H.length := by omega
    have e2 : H.length + 1 - 2 = H.length - 1 := by omega
    rw [e0] at hv
    rw [e2]
    split at h
    · split at h
      · rename_i H1 hm
        simp only [Option.some.injEq, Prod.mk.injEq] at h
        obtain ⟨rfl, rfl⟩ := h
        obtain ⟨a1, a2, a3⟩ := move_heap hH (by omega) (nodup_dedup _) hm
        refine ⟨_, _, ?_, a1, a2, by omega⟩
        rw [a3]
        exact ren_rel (ks := dedup (deepRefs fr H.length (refs H.length r))) ⟨a2.sub, fun nm t b hl hm => a2.mu nm t b (by omega) hm, fun k t hk => moveM_new hk t, by omega⟩ hv (fun k hk => (mem_dedup _).2 (List.mem_append.2 (.inl hk)))
      · cases h
    · simp only [Option.some.injEq, Prod.mk.injEq] at h
      obtain ⟨rfl, rfl⟩ := h
      have := drop_val hH (l0 := H.length - 1) hv
      have e1 : H.length - 1 + 1 = H.length := by omega
      rw [e1] at this
      exact ⟨_, _, canon_rel this, drop_heap hH, drop_ev hH (by omega), rfl⟩

end
end Go.Gh

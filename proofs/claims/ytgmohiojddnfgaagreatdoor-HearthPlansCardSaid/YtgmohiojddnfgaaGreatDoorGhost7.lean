/- Operations that make memory or none: one by one. -/
import Derived.Test.YtgmohiojddnfgaaGreatDoorGhost6
namespace Go.Gh
set_option linter.unusedSimpArgs false
set_option linter.unusedVariables false

/-- An operation's run, told in the ghost world. -/
def OpOk (ℓ : Nat) (w : World) (S : Nat → Prop) (μ : Mu) (H : Heap) (r : Result Next) (v : GV) (H' : Heap) : Prop :=
  ∃ nx u w' S' μ', r = .ok nx w' ∧ (nx = .value u ∨ (nx = .skip ∧ u = undef)) ∧ VRel w' S' μ' (H'.length - 1) u v ∧ HRel w' S' μ' H' ∧ Ev ℓ w S μ w' S' μ' ∧ H'.length = H.length

section
variable {w : World} {S : Nat → Prop} {μ : Mu} {H : Heap} {P : Program} {ℓ : Nat}

theorem OpOk.same {u : Value} {v : GV} (hH : HRel w S μ H) (hv : VRel w S μ (H.length - 1) u v) : OpOk ℓ w S μ H (.ok (.value u) w) v H :=
  ⟨_, u, w, S, μ, rfl, .inl rfl, hv, hH, .refl _ _ _ _, rfl⟩

theorem OpOk.of {u : Value} {v : GV} {r : Result Next} (hH : HRel w S μ H) (hv : VRel w S μ (H.length - 1) u v) (hr : r = .ok (.value u) w) : OpOk ℓ w S μ H r v H := by
  subst hr; exact .same hH hv

theorem VRel.bool_inv {k : Nat} {v : Value} {b : Bool} (h : VRel w S μ k v (.pure (.bool b))) : v = .bool b := by
  have := h.pv; cases this; rfl
theorem VRel.int_inv {k : Nat} {v : Value} {q : IntKind} {n : Int} (h : VRel w S μ k v (.pure (.int q n))) : v = .int q n := by
  have := h.pv; cases this; rfl
theorem VRel.str_inv {k : Nat} {v : Value} {l : List UInt8} (h : VRel w S μ k v (.pure (.str l))) : ∃ s : ByteArray, v = .string s ∧ s.data.toList = l := by
  have := h.pv; cases this; exact ⟨_, rfl, rfl⟩
theorem VRel.agg_inv {k : Nat} {v : Value} {l : List PV} (h : VRel w S μ k v (.pure (.agg l))) : ∃ vs : Array Value, v = .agg vs ∧ CRel w S μ k vs.toList (l.map .pure) := by
  have := h.pv
  cases this with
  | agg vs _ h1 h2 h3 =>
    exact ⟨vs, rfl, .of_pures _ _ (by simpa using h1) fun j hj => by
      have a := h2 j hj; have b := h3 j hj
      rw [agetD] at a b; exact ⟨a, b⟩⟩

theorem noNew {nm : Nm} (hH : HRel w S μ H) (hg : H.get nm = none) (top b : Nat) : ∀ n t b', μ n t = some b' → μ.upd nm top b n t = some b' := by
  intro n t b' h
  by_cases e : n = nm
  · subst e; obtain ⟨y, hy⟩ := hH.bnd _ _ _ h; rw [hg] at hy; cases hy
  · rw [Mu.upd_other μ _ _ _ e]; exact h

theorem CRel.newN {k : Nat} {vs : List Value} {gs : List GV} {nm : Nm} (h : CRel w S μ k vs gs) (hH : HRel w S μ H) (hg : H.get nm = none) (o : Obj) (top : Nat) :
    CRel (w.alloc o) S (μ.upd nm top w.heap.size) k vs gs :=
  h.mono (fun _ h => h) (fun b hb => alloc_heap w o b (hH.slt b hb)) (alloc_shp w o) (fun n t b _ h => noNew hH hg _ _ n t b h) (Nat.le_refl _)

theorem gnewAt_some {l key : Nat} {b : Blk} {nm : Nm} {H' : Heap} (h : gnewAt H l key b = some (nm, H')) : nm = (l, key) ∧ l < H.length ∧ H.get nm = none ∧ H' = H.set nm b := by
  unfold gnewAt at h
  split at h
  · cases h
  · split at h
    · cases h
    · rename_i h1 _ h2
      split at h
      · simp only [Option.some.injEq, Prod.mk.injEq] at h
        obtain ⟨rfl, rfl⟩ := h
        exact ⟨rfl, by omega, h2, rfl⟩
      · cases h

theorem gnewAt_ty {l key : Nat} {b : Blk} {nm : Nm} {H' : Heap} (h : gnewAt H l key b = some (nm, H')) : tyOk key b = true := by
  unfold gnewAt at h
  split at h
  · cases h
  · split at h
    · cases h
    · split at h
      · assumption
      · cases h

theorem tyE_low {nm : Nm} {e : TypeId} (h : nm.2 < tyBase) : tyE nm e = e := by unfold tyE tyName; rw [if_pos h]

theorem gnewT_some {l t d : Nat} {b : Blk} {nm : Nm} {H' : Heap} (h : gnewT H l t d b = some (nm, H')) :
    nm = (l, tyKey t d) ∧ l < H.length ∧ H.get nm = none ∧ H' = H.set nm b ∧ ∀ e, tyE nm e = t := by
  unfold gnewT at h
  split at h
  · cases h
  · split at h
    · cases h
    · rename_i h1 _ h2
      split at h
      · rename_i h3
        simp only [Option.some.injEq, Prod.mk.injEq] at h
        obtain ⟨rfl, rfl⟩ := h
        exact ⟨rfl, by omega, h2, rfl, fun e => by unfold tyE; rw [h3]⟩
      · cases h

/-- A new variable. -/
theorem new_boxE {k : Nat} {vs : Array Value} {cs : List GV} {t : TypeId} {nm : Nm} (hH : HRel w S μ H) (hc : CRel w S μ k vs.toList cs) (hk : k ≤ H.length - 1)
    (hn : nm.1 = H.length - 1) (hl : nm.1 < H.length) (hg : H.get nm = none) (ht : tyE nm t = t) :
    OpOk ℓ w S μ H (.ok (.value (.pointer (some ⟨w.heap.size, 0, none⟩))) (w.alloc (.cells vs t))) (.bptr nm 0) (H.set nm (.box cs)) := by
  obtain ⟨h1, h2⟩ := hH.new ℓ hg hl (.cells vs t) 0 (.box cs) (by
    refine ⟨w.heap.size, vs, t, Mu.upd_self _ _ _ _, fun h => ?_, by rw [ht]; exact alloc_new w _, ?_⟩
    · have := hH.slt _ h; omega
    · exact (hc.newN hH hg _ 0).up (by omega))
  exact ⟨_, _, _, S, _, rfl, .inl rfl, .bptr _ _ _ (by simp [Heap.length_set]; omega) (Mu.upd_self _ _ _ _), h1, h2, Heap.length_set _ _ _⟩

theorem new_box {k d : Nat} {vs : Array Value} {cs : List GV} {t : TypeId} {nm : Nm} {H' : Heap} (hH : HRel w S μ H) (hc : CRel w S μ k vs.toList cs) (hk : k ≤ H.length - 1)
    (h : gnew H d (.box cs) = some (nm, H')) :
    OpOk ℓ w S μ H (.ok (.value (.pointer (some ⟨w.heap.size, 0, none⟩))) (w.alloc (.cells vs t))) (.bptr nm 0) H' := by
  have ht := gnewAt_ty h
  obtain ⟨rfl, hl, hg, rfl⟩ := gnewAt_some h
  exact new_boxE hH hc hk rfl hl hg (tyE_low (by simpa [tyOk] using ht))

theorem alloc_sound {d : Nat} {t : TypeId} {z : GV} {cs : List GV} {nm : Nm} {H' : Heap} (hH : HRel w S μ H) (hz : tzero P t = some z) (hc : cellsO z = some cs)
    (h : gnew H d (.box cs) = some (nm, H')) :
    OpOk ℓ w S μ H ((do pure (Next.value (← Instr.alloc t true (.tuple #[]))) : Sem Next).run P w) (.bptr nm 0) H' := by
  obtain ⟨v, h1, rfl⟩ := r_zero (P := P) w hz
  have hc' := cellsO_rel (ofConst_rel (w := w) (S := S) (μ := μ) (ℓ := H.length - 1) v) hc
  have := new_box (ℓ := ℓ) (t := t) hH hc' (Nat.le_refl _) h
  simpa [Instr.alloc, h1, newVar, newRow] using this

theorem box_sound {d : Nat} {t : TypeId} {v : Value} {x : GV} {cs : List GV} {nm : Nm} {H' : Heap} (hH : HRel w S μ H) (hx : VRel w S μ (H.length - 1) v x) (hc : cellsO x = some cs)
    (h : gnew H d (.box cs) = some (nm, H')) :
    OpOk ℓ w S μ H ((do pure (Next.value (← Instr.box t v)) : Sem Next).run P w) (.bptr nm 0) H' := by
  have := new_box (ℓ := ℓ) (t := t) hH (cellsO_rel hx hc) (Nat.le_refl _) h
  simpa [Instr.box, newVar, newRow] using this

/-! ### parts laid into cells -/
theorem fold_splice (off : Nat) : ∀ (vs : List Value) (k : Nat) (cells : Array Value), off + k + vs.length ≤ cells.size →
    ((vs.zipIdx k).foldl (fun (cs : Array Value) x => cs.setIfInBounds (off + x.2) x.1) cells).toList = splice cells.toList (off + k) vs
  | [], k, cells, _ => by simp [splice]
  | v :: r, k, cells, h => by
    simp only [List.length_cons] at h
    rw [List.zipIdx_cons, List.foldl_cons, fold_splice off r (k + 1) _ (by simp; omega)]
    apply List.ext_getElem?
    intro j
    have hl : (cells.setIfInBounds (off + k) v).toList = cells.toList.set (off + k) v := by simp
    rw [hl, splice_get _ _ _ _ (by simp; omega), splice_get _ _ _ _ (by simp; omega)]
    simp only [List.length_cons]
    by_cases c1 : j < off + k
    · rw [if_pos (by omega), if_pos c1, List.getElem?_set, if_neg (by omega)]
    · by_cases c2 : j = off + k
      · subst c2
        rw [if_pos (by omega), if_neg (by omega), if_pos (by omega), List.getElem?_set, if_pos rfl]
        simp; omega
      · by_cases c3 : j < off + k + (r.length + 1)
        · rw [if_neg (by omega), if_pos (by omega), if_neg c1, if_pos c3]
          obtain ⟨q, hq⟩ : ∃ q, j - (off + k) = q + 1 := ⟨j - (off + k) - 1, by omega⟩
          rw [hq, List.getElem?_cons_succ]; congr 1; omega
        · rw [if_neg (by omega), if_neg (by omega), if_neg c1, if_neg c3, List.getElem?_set, if_neg (by omega)]

theorem fill_sound {k : Nat} {place place' : Nat → Option (Nat × Nat)} (hp : ∀ i x, place' i = some x → place i = some x) :
    ∀ (ps : List (Nat × GV)) (vs : List (Nat × Value)) (cells : Array Value) (cs cs' : List GV), vs.length = ps.length →
      (∀ j, (h : j < ps.length) → ∃ v, vs[j]? = some (ps[j].1, v) ∧ VRel w S μ k v ps[j].2) → CRel w S μ k cells.toList cs → gfill place' cs ps = some cs' →
      ∃ c, Instr.fill place cells vs = some c ∧ CRel w S μ k c.toList cs'
  | [], vs, cells, cs, cs', hl, _, hc, hf => by
    have : vs = [] := List.eq_nil_of_length_eq_zero (by simpa using hl)
    subst this
    simp only [gfill, Option.some.injEq] at hf; subst hf
    exact ⟨cells, rfl, hc⟩
  | (i, g) :: ps, vs, cells, cs, cs', hl, hr, hc, hf => by
    cases vs with
    | nil => simp at hl
    | cons x vs =>
    obtain ⟨v, hv, hrel⟩ := hr 0 (by simp)
    simp at hv; subst hv
    simp only [gfill] at hf
    split at hf
    · cases hf
    · rename_i off size hpl
      split at hf
      · cases hf
      · rename_i us hus
        split at hf
        · cases hf
        · rename_i hcond
          have hk := cellsO_rel hrel hus
          have hlen := hk.length
          simp only [Array.length_toList] at hlen
          have hcl := hc.length
          simp only [Array.length_toList] at hcl
          have hsz : off + v.cells.size ≤ cells.size := by omega
          have hfold : ((v.cells.zipIdx.foldl (fun cs (c, j) => cs.setIfInBounds (off + j) c) cells)).toList = splice cells.toList off v.cells.toList := by
            have := fold_splice off v.cells.toList 0 cells (by simpa using hsz)
            rw [← Array.foldl_toList]
            simpa using this
          obtain ⟨c, h1, h2⟩ := fill_sound hp ps vs (v.cells.zipIdx.foldl (fun cs (c, j) => cs.setIfInBounds (off + j) c) cells) (splice cs off us) cs' (by simpa using hl)
            (fun j hj => hr (j + 1) (by simpa using hj)) (by rw [hfold]; exact hc.splice hk off) hf
          refine ⟨c, ?_, h2⟩
          simp only [Instr.fill, hp _ _ hpl]
          rw [if_neg (by simp; omega)]
          exact h1

theorem parts_rel (hG : GlbRel w S) {a : Act} {s : Slots} (hs : ∀ t, VRel w S μ ℓ (a.tmps.getD t undef) (look s t)) (parts : Array (Nat × Operand)) :
    (parts.map fun x => (x.1, a.eval x.2)).toList.length = (parts.toList.map (evp s)).length ∧
    ∀ j, (h : j < (parts.toList.map (evp s)).length) → ∃ v, (parts.map fun x => (x.1, a.eval x.2)).toList[j]? = some ((parts.toList.map (evp s))[j].1, v) ∧
      VRel w S μ ℓ v (parts.toList.map (evp s))[j].2 := by
  refine ⟨by simp, fun j h => ?_⟩
  have h' : j < parts.size := by simpa using h
  refine ⟨a.eval parts[j].2, ?_, ?_⟩
  · simp [h', evp]
  · simp only [List.getElem_map, Array.getElem_toList, evp]; exact ev_rel hG hs _

theorem mapM_run {α β : Type} (f : α → Sem β) (g : α → Option β) (w : World) : ∀ (l : List α) (r : List β), (∀ a b, g a = some b → (f a).run P w = .ok b w) →
    l.mapM g = some r → (l.mapM f).run P w = .ok r w
  | [], r, _, h => by simp at h; subst h; simp
  | a :: l, r, hf, h => by
    rw [List.mapM_cons] at h ⊢
    cases hg : g a with
    | none => simp [hg] at h
    | some b =>
      cases hl : l.mapM g with
      | none => simp [hg, hl] at h
      | some r' =>
        simp [hg, hl] at h; subst h
        simp [hf a b hg, mapM_run f g w l r' hf hl]

theorem places_run (w : World) : ∀ (fs : List Field) (l : List (Nat × Nat)), placesOf P fs = some l → (fs.mapM fun f => do pure (f.offset, ← sizeOf f.type) : Sem (List (Nat × Nat))).run P w = .ok l w
  | [], l, h => by simp [placesOf] at h; subst h; simp
  | f :: r, l, h => by
    simp only [placesOf] at h
    split at h
    · rename_i n l' h1 h2
      simp only [Option.some.injEq] at h; subst h
      have ih := places_run w r l' h2
      simp only [bind_pure_comp] at ih ⊢
      rw [List.mapM_cons]
      simp [r_size w h1, ih]
    · cases h

theorem build_sound {t : TypeId} {parts : Array (Nat × Operand)} {a : Act} {s : Slots} {z : GV} {zs cs : List GV} (hH : HRel w S μ H)
    (hs : ∀ t, VRel w S μ (H.length - 1) (a.tmps.getD t undef) (look s t)) (hz : tzero P t = some z) (hzc : cellsO z = some zs)
    (h : (match tarr P t with
          | some (_, e) => (match tsize P e with | some size => gfill (fun i => some (i * size, size)) zs (parts.toList.map (evp s)) | none => none)
          | none => (match tplaces P t with | some l => gfill (fun i => l[i]?) zs (parts.toList.map (evp s)) | none => none)) = some cs) :
    OpOk ℓ w S μ H ((do pure (Next.value (← Instr.build t (parts.map fun x => (x.1, a.eval x.2)))) : Sem Next).run P w) (mkAgg cs) H := by
  obtain ⟨v, h1, rfl⟩ := r_zero (P := P) w hz
  have hc := cellsO_rel (ofConst_rel (w := w) (S := S) (μ := μ) (ℓ := H.length - 1) v) hzc
  obtain ⟨p1, p2⟩ := parts_rel hH.glb hs parts
  unfold tarr tplaces at h
  cases hu : P.underlying t with
  | none => simp [hu] at h
  | some d =>
    cases d with
    | array n e =>
      simp only [hu] at h
      split at h
      · rename_i size hsz
        obtain ⟨c, c1, c2⟩ := fill_sound (place := fun i => some (i * size, size)) (fun i x hx => hx) _ _ v.cells zs cs p1 p2 hc h
        refine .of hH (mkAgg_rel' c2) ?_
        rw [Array.toList_map] at c1
        simp [Instr.build, h1, r_underlying w hu, r_size w hsz, c1]
      · cases h
    | struct fs =>
      simp only [hu] at h
      split at h
      · rename_i l hl
        have hpl := places_run w fs.toList l hl
        obtain ⟨c, c1, c2⟩ := fill_sound (place := fun i => l[i]?) (fun i x hx => hx) _ _ v.cells zs cs p1 p2 hc h
        refine .of hH (mkAgg_rel' c2) ?_
        rw [Array.toList_map] at c1
        simp only [bind_pure_comp] at hpl
        simp [Instr.build, h1, r_underlying w hu, Array.mapM_eq_mapM_toList, hpl, c1]
      · cases h
    | _ => simp [hu] at h

end
end Go.Gh

/- Small laws: cells, constants, runs of the model's small programs. -/
import Derived.Test.YtgmohiojddnfgaaGreatDoorGhost3
import Derived.Laws.CopyRow
namespace Go.Gh

set_option linter.unusedSimpArgs false
set_option linter.unusedVariables false

theorem VRel.pv {w : World} {S : Nat → Prop} {μ : Mu} {ℓ : Nat} {v : Value} {p : PV} (h : VRel w S μ ℓ v (.pure p)) : PRep w S v p := by
  cases h with | pure _ _ h => exact h

section crel
variable {w : World} {S : Nat → Prop} {μ : Mu} {ℓ : Nat}

theorem CRel.length {vs : List Value} {gs : List GV} (h : CRel w S μ ℓ vs gs) : vs.length = gs.length := by
  induction h with
  | nil => rfl
  | cons _ _ _ ih => simp [ih]

theorem CRel.append {vs us : List Value} {gs ks : List GV} (h : CRel w S μ ℓ vs gs) (k : CRel w S μ ℓ us ks) : CRel w S μ ℓ (vs ++ us) (gs ++ ks) := by
  induction h with
  | nil => exact k
  | cons h1 h2 _ ih => exact .cons h1 h2 ih

theorem CRel.take {vs : List Value} {gs : List GV} (h : CRel w S μ ℓ vs gs) : ∀ n : Nat, CRel w S μ ℓ (vs.take n) (gs.take n) := by
  induction h with
  | nil => intro n; simp; exact .nil
  | cons h1 h2 _ ih => intro n; cases n with
    | zero => simp; exact .nil
    | succ n => simp only [List.take_succ_cons]; exact .cons h1 h2 (ih n)

theorem CRel.drop {vs : List Value} {gs : List GV} (h : CRel w S μ ℓ vs gs) : ∀ n : Nat, CRel w S μ ℓ (vs.drop n) (gs.drop n) := by
  induction h with
  | nil => intro n; simp; exact .nil
  | cons h1 h2 h3 ih => intro n; cases n with
    | zero => simp only [List.drop_zero]; exact .cons h1 h2 h3
    | succ n => simp only [List.drop_succ_cons]; exact ih n

theorem CRel.get {vs : List Value} {gs : List GV} (h : CRel w S μ ℓ vs gs) : ∀ (j : Nat) (g : GV), gs[j]? = some g → ∃ v, vs[j]? = some v ∧ v.oneCell' = true ∧ VRel w S μ ℓ v g := by
  induction h with
  | nil => intro j g hg; simp at hg
  | @cons v _ _ _ h1 h2 _ ih => intro j g hg; cases j with
    | zero => simp at hg; subst hg; exact ⟨v, rfl, h1, h2⟩
    | succ j => simpa using ih j g (by simpa using hg)

theorem CRel.of_get : ∀ (vs : List Value) (gs : List GV), vs.length = gs.length → (∀ j, j < gs.length → (vs.getD j undef).oneCell' = true ∧ VRel w S μ ℓ (vs.getD j undef) (gs.getD j gdead)) →
    CRel w S μ ℓ vs gs
  | [], [], _, _ => .nil
  | v :: vs, g :: gs, h, k => .cons (k 0 (by simp)).1 (k 0 (by simp)).2 (CRel.of_get vs gs (by simpa using h) fun j hj => by simpa using k (j + 1) (by simpa using hj))
  | [], _ :: _, h, _ => by simp at h
  | _ :: _, [], h, _ => by simp at h

theorem CRel.getD {vs : List Value} {gs : List GV} (h : CRel w S μ ℓ vs gs) (j : Nat) (hj : j < gs.length) : (vs.getD j undef).oneCell' = true ∧ VRel w S μ ℓ (vs.getD j undef) (gs.getD j gdead) := by
  obtain ⟨v, h1, h2, h3⟩ := h.get j gs[j] (by simp [hj])
  simp only [List.getD_eq_getElem?_getD, h1, List.getElem?_eq_getElem hj, Option.getD_some]
  exact ⟨h2, h3⟩

theorem CRel.splice {vs us : List Value} {gs ks : List GV} (h : CRel w S μ ℓ vs gs) (k : CRel w S μ ℓ us ks) (off : Nat) :
    CRel w S μ ℓ (splice vs off us) (splice gs off ks) := by
  unfold Gh.splice
  rw [k.length]
  exact ((h.take off).append k).append (h.drop _)

theorem CRel.one {vs : List Value} {gs : List GV} (h : CRel w S μ ℓ vs gs) : ∀ v ∈ vs, v.oneCell' = true := by
  induction h with
  | nil => simp
  | cons h1 _ _ ih => intro v hv; rcases List.mem_cons.1 hv with rfl | hv; exact h1; exact ih v hv

theorem CRel.replicate {vs : List Value} {gs : List GV} (h : CRel w S μ ℓ vs gs) : ∀ n : Nat, CRel w S μ ℓ (List.replicate n vs).flatten (List.replicate n gs).flatten
  | 0 => .nil
  | n + 1 => by simp only [List.replicate_succ, List.flatten_cons]; exact h.append (CRel.replicate h n)

theorem CRel.pures : ∀ (vs : List Value) (ps : List PV), CRel w S μ ℓ vs (ps.map .pure) → vs.length = ps.length ∧ ∀ j, j < ps.length → (vs.getD j undef).oneCell' = true ∧ PRep w S (vs.getD j undef) (ps.getD j .dead) := by
  intro vs ps h
  refine ⟨by simpa using h.length, fun j hj => ?_⟩
  obtain ⟨h1, h2⟩ := h.getD j (by simpa using hj)
  refine ⟨h1, ?_⟩
  have e : (ps.map GV.pure).getD j gdead = .pure (ps.getD j .dead) := by simp [List.getD_eq_getElem?_getD, hj]
  rw [e] at h2
  exact h2.pv

theorem CRel.of_pures (vs : List Value) (ps : List PV) (h : vs.length = ps.length) (k : ∀ j, j < ps.length → (vs.getD j undef).oneCell' = true ∧ PRep w S (vs.getD j undef) (ps.getD j .dead)) :
    CRel w S μ ℓ vs (ps.map .pure) :=
  .of_get _ _ (by simpa using h) fun j hj => by
    have hj' : j < ps.length := by simpa using hj
    have e : (ps.map GV.pure).getD j gdead = .pure (ps.getD j .dead) := by simp [List.getD_eq_getElem?_getD, hj']
    rw [e]; exact ⟨(k j hj').1, .pure _ _ (k j hj').2⟩
end crel

theorem allPure_some : ∀ {l : List GV} {ps : List PV}, allPure l = some ps → l = ps.map .pure
  | [], ps, h => by simp [allPure] at h; subst h; rfl
  | g :: r, ps, h => by
    cases g with
    | pure p =>
      simp only [allPure] at h
      cases hr : allPure r with
      | none => rw [hr] at h; simp at h
      | some qs => rw [hr] at h; simp at h; subst h; simp [allPure_some hr]
    | _ => simp [allPure] at h

theorem allPure_map : ∀ l : List PV, allPure (l.map .pure) = some l
  | [] => rfl
  | x :: r => by simp [allPure, allPure_map r]

theorem mkAgg_map (l : List PV) : mkAgg (l.map .pure) = .pure (.agg l) := by simp only [mkAgg, allPure_map]

theorem agetD (vs : Array Value) (j : Nat) : vs.getD j undef = vs.toList.getD j undef := by
  simp [Array.getD_eq_getD_getElem?, List.getD_eq_getElem?_getD]

section vals
variable {w : World} {S : Nat → Prop} {μ : Mu} {ℓ : Nat}

theorem vdead (v : Value) : VRel w S μ ℓ v gdead := .pure v .dead (.dead v)

theorem VRel.of_cells {vs : List Value} {gs : List GV} (h : CRel w S μ ℓ vs gs) : VRel w S μ ℓ (.agg vs.toArray) (.agg gs) :=
  .agg _ _ (by simpa using h.length) (fun j hj => by rw [agetD]; exact (h.getD j hj).1) (fun j hj => by rw [agetD]; exact (h.getD j hj).2)

theorem mkAgg_rel {vs : List Value} {gs : List GV} (h : CRel w S μ ℓ vs gs) : VRel w S μ ℓ (.agg vs.toArray) (mkAgg gs) := by
  unfold mkAgg
  split
  · rename_i ps hp
    rw [allPure_some hp] at h
    obtain ⟨h1, h2⟩ := CRel.pures _ _ h
    exact .pure _ _ (.agg _ _ (by simpa using h1) (fun j hj => by rw [agetD]; exact (h2 j hj).1) (fun j hj => by rw [agetD]; exact (h2 j hj).2))
  · exact .of_cells h

theorem mkAgg_rel' {vs : Array Value} {gs : List GV} (h : CRel w S μ ℓ vs.toList gs) : VRel w S μ ℓ (.agg vs) (mkAgg gs) := by
  have := mkAgg_rel h; simpa using this

theorem mkTuple_rel {vs : Array Value} {gs : List GV} (hs : vs.size = gs.length) (h : ∀ j, j < gs.length → VRel w S μ ℓ (vs.getD j undef) (gs.getD j gdead)) :
    VRel w S μ ℓ (.tuple vs) (mkTuple gs) := by
  unfold mkTuple
  split
  · rename_i ps hp
    have e := allPure_some hp
    subst e
    refine .pure _ _ (.tuple _ _ (by simpa using hs) fun j hj => ?_)
    have h2 := h j (by simpa using hj)
    have e : (ps.map GV.pure).getD j gdead = .pure (ps.getD j .dead) := by simp [List.getD_eq_getElem?_getD, hj]
    rw [e] at h2
    exact h2.pv
  · exact .tuple _ _ hs h

theorem cellsO_rel {v : Value} {g : GV} {cs : List GV} (h : VRel w S μ ℓ v g) (hc : cellsO g = some cs) : CRel w S μ ℓ v.cells.toList cs := by
  have one : ∀ {v : Value} {g : GV}, v.oneCell' = true → v.cells = #[v] → VRel w S μ ℓ v g → some [g] = some cs → CRel w S μ ℓ v.cells.toList cs := by
    intro v g h1 h2 h3 h4
    simp at h4; subst h4; rw [h2]; exact .cons h1 h3 .nil
  cases h with
  | pure _ p hp =>
    cases hp with
    | agg vs l h1 h2 h3 =>
      simp only [cellsO, Option.some.injEq] at hc
      subst hc
      exact .of_pures _ _ (by simpa [Value.cells] using h1) fun j hj => by
        have a := h2 j hj; have b := h3 j hj
        rw [agetD] at a b
        exact ⟨a, b⟩
    | tuple vs l h1 h2 => simp [cellsO] at hc
    | dead v => simp [cellsO] at hc
    | int k n => exact one rfl rfl (.pure _ _ (.int k n)) hc
    | bool b => exact one rfl rfl (.pure _ _ (.bool b)) hc
    | str s => exact one rfl rfl (.pure _ _ (.str s)) hc
    | slice0 a cap => exact one rfl rfl (.pure _ _ (.slice0 a cap)) hc
    | slice b o cap es l f hS he hes hf h1 hr hcp => exact one rfl rfl (.pure _ _ (.slice b o cap es l f hS he hes hf h1 hr hcp)) hc
    | fn f => exact one rfl rfl (.pure _ _ (.fn f)) hc
    | nilp => exact one rfl rfl (.pure _ _ .nilp) hc
    | nilf => exact one rfl rfl (.pure _ _ .nilf) hc
    | nilm => exact one rfl rfl (.pure _ _ .nilm) hc
    | nili => exact one rfl rfl (.pure _ _ .nili) hc
    | iface t v p h => exact one rfl rfl (.pure _ _ (.iface t v p h)) hc
  | agg vs l h1 h2 h3 =>
    simp only [cellsO, Option.some.injEq] at hc
    subst hc
    exact .of_get _ _ (by simpa [Value.cells] using h1) fun j hj => by
      have a := h2 j hj; have b := h3 j hj
      rw [agetD] at a b
      exact ⟨a, b⟩
  | tuple vs l h1 h2 => simp [cellsO] at hc
  | pptr b o cs f hS hf h1 hr => exact one rfl rfl (.pptr b o cs f hS hf h1 hr) hc
  | lptr b o cs f hS hf h1 hr => exact one rfl rfl (.lptr b o cs f hS hf h1 hr) hc
  | nils a => exact one rfl rfl (.nils a) hc
  | lits b o cap es l f hS he hes hf h1 hr hcap => exact one rfl rfl (.lits b o cap es l f hS he hes hf h1 hr hcap) hc
  | bptr nm off b h1 h2 => exact one rfl rfl (.bptr nm off b h1 h2) hc
  | eptr nm es top i off b h1 h2 => exact one rfl rfl (.eptr nm es top i off b h1 h2) hc
  | hdr nm es top lo len cap b n e h1 h2 h3 h4 h5 h6 => exact one rfl rfl (.hdr nm es top lo len cap b n e h1 h2 h3 h4 h5 h6) hc
  | rhdr nm es i len cap b h1 h2 h3 => exact one rfl rfl (.rhdr nm es i len cap b h1 h2 h3) hc
  | rptr nm es i j off b h1 h2 => exact one rfl rfl (.rptr nm es i j off b h1 h2) hc
  | func f a c la lc h1 h2 h3 h4 => exact one rfl rfl (.func f a c la lc h1 h2 h3 h4) hc
  | yield nm b h1 h2 => exact one rfl rfl (.yield nm b h1 h2) hc
  | map nm b h1 h2 => exact one rfl rfl (.map nm b h1 h2) hc

theorem ofConst1_rel (v : Value) : VRel w S μ ℓ v (ofConst1 v) := by
  unfold ofConst1
  split
  · exact .pure _ _ (.int _ _)
  · exact .pure _ _ (.bool _)
  · exact .pure _ _ (.str _)
  · exact .nils _
  · exact .pure _ _ .nilp
  · exact .pure _ _ .nilf
  · exact .pure _ _ .nilm
  · exact .pure _ _ .nili
  · exact vdead _

theorem ofConst_rel (v : Value) : VRel w S μ ℓ v (ofConst v) := by
  unfold ofConst
  split
  · rename_i cs
    split
    · rename_i h
      refine mkAgg_rel' (.of_get _ _ (by simp) fun j hj => ?_)
      have hj' : j < cs.toList.length := by simpa using hj
      have e1 : cs.toList.getD j undef = cs.toList[j] := by rw [List.getD_eq_getElem?_getD, List.getElem?_eq_getElem hj']; rfl
      have e2 : (cs.toList.map ofConst1).getD j gdead = ofConst1 cs.toList[j] := by rw [List.getD_eq_getElem?_getD, List.getElem?_map, List.getElem?_eq_getElem hj']; rfl
      rw [e1, e2]
      exact ⟨List.all_eq_true.1 h _ (List.getElem_mem hj'), ofConst1_rel _⟩
    · exact vdead _
  · exact ofConst1_rel _

theorem GlbRel.mono {w w' : World} {S S' : Nat → Prop} (h : GlbRel w S) (hS : ∀ b, S b → S' b) (hw : ∀ b, S b → w'.heap[b]? = w.heap[b]?) : GlbRel w' S' := fun g cs hg => by
  obtain ⟨h1, h2⟩ := h g cs hg
  obtain ⟨c, ty, fr, h3, h4⟩ := h2
  exact ⟨hS g h1, c, ty, fr, by rw [hw g h1]; exact h3, h4⟩
theorem glob_val (hG : GlbRel w S) {g : Nat} {cs : List PV} (h : globs g = some cs) : VRel w S μ ℓ (.pointer (some ⟨g, 0, none⟩)) (.pptr cs) := by
  unfold globs at h
  cases hq : globQ g with
  | none => rw [hq] at h; cases h
  | some qs =>
    rw [hq] at h
    simp only [Option.map_some, Option.some.injEq] at h
    subst h
    obtain ⟨h1, c, ty, fr, hh, hsz, h2'⟩ := hG g qs hq
    have h2 : ∀ j, (h : j < qs.length) → ∃ u, w.cell? ⟨g, j, none⟩ = some u ∧ GqRel qs[j] u := fun j hj => by
      obtain ⟨u, u1, u2⟩ := h2' j hj
      exact ⟨u, by unfold World.cell?; simp [hh, u1], u2⟩
    have h3 : ∀ j, ∃ u, (h : j < qs.length) → w.cell? ⟨g, j, none⟩ = some u ∧ GqRel qs[j] u := fun j => by
      by_cases hj : j < qs.length
      · obtain ⟨u, hu⟩ := h2 j hj
        exact ⟨u, fun _ => hu⟩
      · exact ⟨undef, fun h => absurd h hj⟩
    have hl : ∀ j, j < (qs.map GQ.pv).length → j < qs.length := fun j hj => by simpa using hj
    refine .pptr g 0 (qs.map GQ.pv) (fun j => Classical.choose (h3 j)) (fun _ => h1) (fun j hj => by rw [Nat.zero_add]; exact (Classical.choose_spec (h3 j) (hl j hj)).1) (fun j hj => (Classical.choose_spec (h3 j) (hl j hj)).2.one) (fun j hj => ?_)
    have e : (qs.map GQ.pv).getD j .dead = (qs[j]'(hl j hj)).pv := by simp [List.getD_eq_getElem?_getD, hl j hj]
    rw [e]
    exact (Classical.choose_spec (h3 j) (hl j hj)).2.pv
theorem ev_rel (hG : GlbRel w S) {a : Act} {s : Slots} (hs : ∀ t, VRel w S μ ℓ (a.tmps.getD t undef) (look s t)) (x : Operand) : VRel w S μ ℓ (a.eval x) (ev s x) := by
  cases x with
  | tmp t => exact hs t
  | const v => exact ofConst_rel v
  | func f => exact .pure _ _ (.fn f)
  | global g =>
    show VRel w S μ ℓ (.pointer (some ⟨g, 0, none⟩)) (match globs g with | some cs => .pptr cs | none => gdead)
    cases h : globs g with
    | some cs => exact glob_val hG h
    | none => exact vdead _
end vals

/-! ### runs of the model's small programs -/
section runs
variable {P : Program} (w : World)

theorem r_underlying {t : TypeId} {d : TypeDesc} (h : P.underlying t = some d) : (underlying t).run P w = .ok d w := run_underlying h w

theorem r_size {t : TypeId} {n : Nat} (h : tsize P t = some n) : (sizeOf t).run P w = .ok n w := by
  unfold tsize at h
  cases hi : P.info? t with
  | none => simp [hi] at h
  | some i => simp [hi] at h; simp [sizeOf, typeInfo, hi, h]

theorem r_bytes {t : TypeId} {n : Nat} (h : tbytes P t = some n) : ∃ i, (typeInfo t).run P w = .ok i w ∧ i.bytes = n := by
  unfold tbytes at h
  cases hi : P.info? t with
  | none => simp [hi] at h
  | some i => simp [hi] at h; exact ⟨i, by simp [typeInfo, hi], h⟩

theorem r_agg {t : TypeId} {b : Bool} (h : tagg P t = some b) : (isAgg t).run P w = .ok b w := by
  unfold tagg at h
  cases hu : P.underlying t with
  | none => simp [hu] at h
  | some d =>
    simp only [isAgg, Sem.run_bind, r_underlying w hu, Result.andThen_ok]
    cases d <;> simp [hu] at h <;> subst h <;> rfl

theorem r_zero {t : TypeId} {g : GV} (h : tzero P t = some g) : ∃ v, (zeroValue t).run P w = .ok v w ∧ g = ofConst v := by
  unfold tzero at h
  cases hi : P.info? t with
  | none => simp [hi] at h
  | some i =>
    cases hz : i.zero with
    | none => simp [hi, hz] at h
    | some v => simp [hi, hz] at h; exact ⟨v, by simp [zeroValue, typeInfo, hi, hz], h.symm⟩

/-- Cells that lie one behind the other. -/
def CellsAt (w : World) (b o : Nat) (vs : List Value) : Prop := ∀ j v, vs[j]? = some v → w.cell? ⟨b, o + j, none⟩ = some v

theorem add_none (b o n : Nat) : (⟨b, o, none⟩ : Addr).add n = ⟨b, o + n, none⟩ := by unfold Addr.add; split <;> simp_all

theorem r_loadCells {b o : Nat} {vs : List Value} (h : CellsAt w b o vs) : (loadCells ⟨b, o, none⟩ vs.length).run P w = .ok vs.toArray w :=
  run_loadCells_list w _ vs fun j v hv => by rw [add_none]; exact h j v hv

theorem r_loadVar_agg {t : TypeId} {b o : Nat} {vs : List Value} (ha : tagg P t = some true) (hs : tsize P t = some vs.length) (h : CellsAt w b o vs) :
    (loadVar t ⟨b, o, none⟩).run P w = .ok (.agg vs.toArray) w := by
  simp [loadVar, r_agg w ha, r_size w hs, r_loadCells w h]

theorem r_loadVar_one {t : TypeId} {b o : Nat} {v : Value} (ha : tagg P t = some false) (h : w.cell? ⟨b, o, none⟩ = some v) :
    (loadVar t ⟨b, o, none⟩).run P w = .ok v w := by
  simp [loadVar, r_agg w ha, h]

theorem r_storeVar {t : TypeId} {b o : Nat} {v : Value} {c : Array Value} {e : TypeId} (hs : tsize P t = some v.cells.size) (hg : w.heap[b]? = some (.cells c e (0, 0)))
    (hl : o + v.cells.size ≤ c.size) (h1 : ∀ u ∈ v.cells.toList, u.oneCell' = true) :
    (storeVar t ⟨b, o, none⟩ v).run P w = .ok () (w.setRow b (splice c.toList o v.cells.toList).toArray) := by
  have := run_storeCells_at (P := P) b o e v.cells.toList 0 c w hg (by simpa using hl) h1
  simp only [storeVar, Sem.run_bind, r_size w hs, Result.andThen_ok, ne_eq, not_true_eq_false, if_false]
  simpa [splice, Nat.add_zero] using this
end runs

end Go.Gh

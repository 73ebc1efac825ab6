/- What an operation looks at, and what it leaves. -/
import Derived.Test.YtgmohiojddnfgaaGreatDoorGhost23
namespace Go.Gh
set_option linter.unusedSimpArgs false
set_option linter.unusedVariables false

section
variable (K : Ctx) {fn : FuncId} {o : Oper}

theorem ev_congr {s s' : Slots} {x : Operand} (h : ∀ t, x = .tmp t → look s t = look s' t) : ev s x = ev s' x := by
  cases x with
  | tmp t => exact h t rfl
  | _ => rfl

theorem mem_tmpsOf {l : List Operand} {t : Nat} (h : Operand.tmp t ∈ l) : t ∈ tmpsOf l := by
  unfold tmpsOf
  exact List.mem_filterMap.2 ⟨_, h, rfl⟩

theorem evs_congr {s s' : Slots} {l : List Operand} (h : ∀ x ∈ l, ev s x = ev s' x) : l.map (ev s) = l.map (ev s') := List.map_congr_left h

theorem evps_congr {s s' : Slots} {l : List (Nat × Operand)} (h : ∀ x ∈ l.map (·.2), ev s x = ev s' x) : l.map (evp s) = l.map (evp s') :=
  List.map_congr_left fun x hx => by simp only [evp]; rw [h x.2 (List.mem_map.2 ⟨x, hx, rfl⟩)]

/-- An operation looks at its operands alone, and where a block of an append goes. -/
theorem gop_congr {s s' : Slots} {H : Heap} (h : ∀ t, t ∈ depsO K fn o → look s t = look s' t) : gop K fn o s H = gop K fn o s' H := by
  have hev : ∀ x ∈ o.op.operands.toList, ev s x = ev s' x := fun x hx => ev_congr fun t ht => h t (by
    unfold depsO
    exact List.mem_append_left _ (List.mem_append_left _ (mem_tmpsOf (ht ▸ hx))))
  have hup : ∀ d t, o.dst = some d → K.up fn d = .box t → look s t = look s' t := fun d t hd hu => h t (by
    unfold depsO
    refine List.mem_append_left _ (List.mem_append_right _ ?_)
    simp [hd, hu])
  clear h
  obtain ⟨dst, op, type, pos, after, guard⟩ := o
  simp only at hev hup
  unfold gop
  cases op <;> simp only [Op.operands, Array.toList_append, List.mem_append, Array.toList_map] at hev <;> try rfl
  case move x => simp only [hev x (by simp)]
  case assign x => simp only [hev x (by simp)]
  case pick c x y => simp only [hev c (by simp), hev x (by simp), hev y (by simp)]
  case box t x => simp only [hev x (by simp)]
  case build t ps => simp only [evps_congr hev]
  case buildSlice t n ps => simp only [evps_congr hev]
  case load t a => simp only [hev a (by simp)]
  case store t a x => simp only [hev a (by simp), hev x (by simp)]
  case nilCheck x => simp only [hev x (by simp)]
  case binOp op t x y d => simp only [gbinN, hev x (by simp), hev y (by simp)]
  case unOp op t x => simp only [hev x (by simp)]
  case convert a b x => simp only [hev x (by simp)]
  case makeFunc f a c =>
    cases f with
    | func f =>
      have h1 : a.toList.map (ev s) = a.toList.map (ev s') := evs_congr fun x hx => hev x (.inl hx)
      have h2 : c.toList.map (ev s) = c.toList.map (ev s') := evs_congr fun x hx => hev x (.inr hx)
      simp only [h1, h2]
    | _ => rfl
  case makeMap t r => cases r <;> rfl
  case makeSlice t l c => simp only [hev l (by simp), hev c (by simp)]
  case slice t x lo hi mx =>
    have h1 : lo.map (ev s) = lo.map (ev s') := by cases lo <;> simp_all
    have h2 : hi.map (ev s) = hi.map (ev s') := by cases hi <;> simp_all
    have h3 : mx.map (ev s) = mx.map (ev s') := by cases mx <;> simp_all
    simp only [hev x (by simp), h1, h2, h3]
  case fieldAddr t x f => simp only [hev x (by simp)]
  case field t x f => simp only [hev x (by simp)]
  case indexAddr t x i => simp only [hev x (by simp), hev i (by simp)]
  case index t x i => simp only [hev x (by simp), hev i (by simp)]
  case lookup t x k ok => simp only [hev x (by simp), hev k (by simp)]
  case mapUpdate t m k v => simp only [hev m (by simp), hev k (by simp), hev v (by simp)]
  case insert t m k v => simp only [hev m (by simp), hev k (by simp), hev v (by simp)]
  case extract t i => simp only [hev t (by simp)]
  case call c =>
    have hargs : ∀ x ∈ c.args.toList, ev s x = ev s' x := fun x hx => hev x (by simp [Call.operands, hx])
    have hget : ∀ (i : Nat) x, c.args[i]? = some x → ev s x = ev s' x := fun i x hx => hargs x (by
      have := Array.mem_of_getElem? hx
      exact Array.mem_toList_iff.2 this)
    obtain ⟨callee, args, argTypes⟩ := c
    simp only at hargs hget
    cases callee with
    | builtin b =>
      cases b <;> simp only <;> try rfl
      · -- append
        cases h1 : argTypes[0]? with
        | none => rfl
        | some t =>
        cases h2 : args[0]? with
        | none => rfl
        | some x =>
        cases h3 : args[1]? with
        | none => rfl
        | some y =>
        cases h4 : dst with
        | none => rfl
        | some d =>
        have hu : upLevel H s (K.up fn d) = upLevel H s' (K.up fn d) := by
          unfold upLevel
          cases hk : K.up fn d with
          | scopes n => rfl
          | box q => simp only; rw [hup d q h4 hk]
        have hu2 : upBox s (K.up fn d) = upBox s' (K.up fn d) := by
          unfold upBox
          cases hk : K.up fn d with
          | scopes n => rfl
          | box q => simp only; rw [hup d q h4 hk]
        simp only [hget 0 x h2, hget 1 y h3, hu, hu2]
      · -- clear
        cases h1 : argTypes[0]? with
        | none => rfl
        | some t =>
        cases h2 : args[0]? with
        | none => rfl
        | some x => simp only [hget 0 x h2]
      · -- len
        cases h1 : argTypes[0]? with
        | none => rfl
        | some t =>
        cases h2 : args[0]? with
        | none => rfl
        | some x => simp only [hget 0 x h2]
      · rw [evs_congr hargs]
      · rw [evs_congr hargs]
      · rcases h1 : args.toList with _ | ⟨x, _ | ⟨y, r⟩⟩
        · rfl
        · have e1 := hargs x (by rw [h1]; simp)
          simp only [e1]
        · rfl
      · rcases h1 : args.toList with _ | ⟨x, _ | ⟨y, _ | ⟨z, r⟩⟩⟩
        · rfl
        · rfl
        · have e1 := hargs x (by rw [h1]; simp)
          have e2 := hargs y (by rw [h1]; simp)
          rcases h2 : argTypes.toList with _ | ⟨pt, _ | ⟨it, _ | ⟨q, r⟩⟩⟩
          · rfl
          · rfl
          · show gunsafeStr K pt H (ev s x) (ev s y) = gunsafeStr K pt H (ev s' x) (ev s' y)
            rw [e1, e2]
          · rfl
        · rfl
    | value f => rfl
    | invoke r m => rfl

theorem opPure_both {s : Slots} {H H' : Heap} {v : GV} (hp : opPure K fn o = true) (h : gop K fn o s H = some (v, H')) : H' = H ∧ (opR o = false → ∀ H2, gop K fn o s H2 = some (v, H2)) := by
  obtain ⟨dst, op, type, pos, after, guard⟩ := o
  unfold opPure at hp
  unfold opR
  unfold gop at h ⊢
  cases op <;> simp only at hp h ⊢ <;> try (cases hp; done)
  case makeFunc f a c =>
    cases f <;> simp only at h ⊢
    case func =>
      simp only [Option.some.injEq, Prod.mk.injEq] at h
      exact ⟨h.2.symm, fun _ H2 => by rw [h.1]⟩
    all_goals cases h
  case buildSlice t n ps =>
    repeat' split at h
    all_goals try (cases h; done)
    all_goals try (exfalso; simp_all; done)
    all_goals
      simp only [Option.some.injEq, Prod.mk.injEq] at h
      obtain ⟨rfl, rfl⟩ := h
      refine ⟨rfl, fun _ H2 => ?_⟩
      simp_all
  case build t ps =>
    repeat' split at h
    all_goals try (cases h; done)
    all_goals
      simp only [Option.some.injEq, Prod.mk.injEq] at h
      obtain ⟨rfl, rfl⟩ := h
      refine ⟨rfl, fun _ H2 => ?_⟩
      simp_all
  case load =>
    repeat' split at h
    all_goals try (cases h; done)
    simp only [Option.some.injEq, Prod.mk.injEq] at h
    exact ⟨h.2.symm, fun h => by cases h⟩
  case lookup =>
    repeat' split at h
    all_goals try (cases h; done)
    simp only [Option.some.injEq, Prod.mk.injEq] at h
    exact ⟨h.2.symm, fun h => by cases h⟩
  case call c =>
    obtain ⟨callee, args, argTypes⟩ := c
    cases callee with
    | builtin b =>
      cases b <;> simp only at hp h ⊢ <;> try (cases hp; done)
      all_goals
        repeat' split at h
        all_goals try (cases h; done)
        simp only [Option.some.injEq, Prod.mk.injEq] at h
        obtain ⟨rfl, rfl⟩ := h
        refine ⟨rfl, fun hr H2 => ?_⟩
        first | (cases hr; done) | simp_all
    | value f => cases hp
    | invoke r m => cases hp
  all_goals
    repeat' split at h
    all_goals try (cases h; done)
    all_goals
      simp only [Option.some.injEq, Prod.mk.injEq] at h
      obtain ⟨rfl, rfl⟩ := h
      refine ⟨rfl, fun _ H2 => ?_⟩
      first | rfl | simp_all

theorem opPure_heap {s : Slots} {H H' : Heap} {v : GV} (hp : opPure K fn o = true) (h : gop K fn o s H = some (v, H')) : H' = H := (opPure_both K hp h).1

theorem opPure_any {s : Slots} {H H' H2 : Heap} {v : GV} (hp : opPure K fn o = true) (hr : opR o = false) (h : gop K fn o s H = some (v, H')) : gop K fn o s H2 = some (v, H2) := (opPure_both K hp h).2 hr H2
end
end Go.Gh

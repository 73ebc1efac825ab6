/- Regions that draw their order: what comes surely before what; what an operation looks at. -/
import Derived.Test.YtgmohiojddnfgaaGreatDoorGhost25
namespace Go.Gh
set_option linter.unusedSimpArgs false
set_option linter.unusedVariables false

section
variable {ops : Array Oper}

theorem fold_bits (g : Nat → Nat) : ∀ (l : List Edge) (s0 b : Nat), (l.foldl (fun s e => if Region.binds .any e then s ||| 2 ^ e.on ||| g e.on else s) s0).testBit b = true →
    s0.testBit b = true ∨ ∃ e ∈ l, Region.binds .any e = true ∧ (e.on = b ∨ (g e.on).testBit b = true)
  | [], s0, b, h => .inl h
  | e :: l, s0, b, h => by
    rw [List.foldl_cons] at h
    rcases fold_bits g l _ b h with h1 | ⟨e', he', h1⟩
    · by_cases hb : Region.binds .any e = true
      · rw [if_pos hb, Nat.testBit_or, Nat.testBit_or, Nat.testBit_two_pow] at h1
        simp only [Bool.or_eq_true, decide_eq_true_eq] at h1
        rcases h1 with (h1 | h1) | h1
        · exact .inl h1
        · exact .inr ⟨e, List.mem_cons_self .., hb, .inl h1⟩
        · exact .inr ⟨e, List.mem_cons_self .., hb, .inr h1⟩
      · rw [if_neg hb] at h1
        exact .inl h1
    · exact .inr ⟨e', List.mem_cons_of_mem _ he', h1⟩

theorem before_spec (ops : Array Oper) (j b : Nat) (h : ((Region.before ops).getD j 0).testBit b = true) :
    ∃ o e, ops[j]? = some o ∧ e ∈ o.after ∧ Region.binds .any e = true ∧ (e.on = b ∨ (e.on < j ∧ ((Region.before ops).getD e.on 0).testBit b = true)) := by
  have key : (Region.before ops).size = ops.size ∧ ∀ j, j < ops.size → ∀ b, ((Region.before ops).getD j 0).testBit b = true →
      ∃ o e, ops[j]? = some o ∧ e ∈ o.after ∧ Region.binds .any e = true ∧ (e.on = b ∨ (e.on < j ∧ ((Region.before ops).getD e.on 0).testBit b = true)) := by
    unfold Region.before
    refine Array.foldl_induction (motive := fun (i : Nat) (acc : Array Nat) => acc.size = i ∧ ∀ j, j < i → ∀ b, (acc.getD j 0).testBit b = true →
      ∃ o e, ops[j]? = some o ∧ e ∈ o.after ∧ Region.binds .any e = true ∧ (e.on = b ∨ (e.on < j ∧ (acc.getD e.on 0).testBit b = true))) ⟨rfl, fun j hj => by omega⟩ ?_
    intro i acc ⟨h1, h2⟩
    refine ⟨by simp [h1], fun j hj b hb => ?_⟩
    have hold : ∀ x k, k < i.val → (acc.push x).getD k 0 = acc.getD k 0 := fun x k hk => by
      simp only [Array.getD_eq_getD_getElem?, Array.getElem?_push]
      rw [if_neg (by omega)]
    by_cases e : j = i.val
    · subst e
      have hx : ∀ x, (acc.push x).getD i.val 0 = x := fun x => by
        simp only [Array.getD_eq_getD_getElem?, Array.getElem?_push]
        rw [if_pos h1.symm]; rfl
      rw [hx, ← Array.foldl_toList] at hb
      rcases fold_bits (fun k => acc.getD k 0) _ _ _ hb with hb | ⟨e, he, hbe, hb⟩
      · simp at hb
      · refine ⟨ops[i.val], e, by simp, by simpa using he, hbe, ?_⟩
        rcases hb with hb | hb
        · exact .inl hb
        · refine .inr ?_
          have hlt : e.on < i.val := by
            rcases Nat.lt_or_ge e.on i.val with h' | h'
            · exact h'
            · exfalso
              have : acc.getD e.on 0 = 0 := by
                rw [Array.getD_eq_getD_getElem?, Array.getElem?_eq_none (by omega)]; rfl
              rw [this] at hb; simp at hb
          exact ⟨hlt, by rw [hold _ _ hlt]; exact hb⟩
    · have hj' : j < i.val := by omega
      rw [hold _ _ hj'] at hb
      obtain ⟨o, e, q1, q2, q3, q4⟩ := h2 j hj' b hb
      refine ⟨o, e, q1, q2, q3, ?_⟩
      rcases q4 with q4 | ⟨q4, q5⟩
      · exact .inl q4
      · exact .inr ⟨q4, by rw [hold _ _ (by omega)]; exact q5⟩
  rcases Nat.lt_or_ge j ops.size with hj | hj
  · exact key.2 j hj b h
  · exfalso
    rw [Array.getD_eq_getD_getElem?, Array.getElem?_eq_none (by rw [key.1]; exact hj)] at h
    simp at h

/-- Whoever is listed has all listed that comes surely before. -/
def Closed (ops : Array Oper) (listed : Array Bool) : Prop := ∀ j o, ops[j]? = some o → listed.getD j false = true → ∀ e ∈ o.after, Region.binds .any e = true → listed.getD e.on false = true

theorem closed_before {listed : Array Bool} (hc : Closed ops listed) : ∀ (j b : Nat), ((Region.before ops).getD j 0).testBit b = true → (∀ o, ops[j]? = some o → ∀ e ∈ o.after, Region.binds .any e = true → listed.getD e.on false = true) → listed.getD b false = true := by
  intro j
  induction j using Nat.strongRecOn with
  | _ j ih =>
    intro b hb hr
    obtain ⟨o, e, h1, h2, h3, h4⟩ := before_spec ops j b hb
    have hl := hr o h1 e h2 h3
    rcases h4 with rfl | ⟨h4, h5⟩
    · exact hl
    · exact ih e.on h4 b h5 fun o' ho' e' he' hb' => hc e.on o' ho' hl e' he' hb'

theorem closed_listed {listed : Array Bool} (hc : Closed ops listed) {j b : Nat} (hj : listed.getD j false = true) (hb : ((Region.before ops).getD j 0).testBit b = true) : listed.getD b false = true :=
  closed_before hc j b hb fun o ho e he hbe => hc j o ho hj e he hbe

theorem all_listed {listed : Array Bool} (hsz : listed.size = ops.size) (hback : ∀ j o, ops[j]? = some o → ∀ e ∈ o.after, Region.binds .any e = true → e.on < j) (h : Region.ready .any ops listed = []) :
    ∀ j, j < ops.size → listed.getD j false = true := by
  intro j
  induction j using Nat.strongRecOn with
  | _ j ih =>
    intro hj
    cases hl : listed.getD j false with
    | true => rfl
    | false =>
      exfalso
      have : j ∈ Region.ready .any ops listed := by
        rw [mem_ready]
        refine ⟨?_, ops[j], by simp, fun e he hb => ?_⟩
        · rw [Array.getD_eq_getD_getElem?] at hl ⊢
          rw [Array.getElem?_eq_getElem (by omega)] at hl ⊢
          exact hl
        · have := hback j ops[j] (by simp) e he hb
          exact ih _ this (by omega)
      rw [h] at this; cases this

/-- How many are not listed. -/
def unlisted (listed : Array Bool) (n : Nat) : Nat := ((List.range n).filter fun j => !listed.getD j false).length

theorem filter_lt {α : Type} {p q : α → Bool} {x : α} (h : ∀ y, q y = true → p y = true) (hp : p x = true) (hq : q x = false) : ∀ l : List α, x ∈ l → (l.filter q).length < (l.filter p).length
  | [], hx => by cases hx
  | y :: l, hx => by
    have hle : ∀ l : List α, (l.filter q).length ≤ (l.filter p).length := by
      intro l
      induction l with
      | nil => simp
      | cons z l ih =>
        simp only [List.filter_cons]
        cases hqz : q z with
        | true => simp [h z hqz, ih]
        | false => cases hpz : p z <;> simp <;> omega
    rcases List.mem_cons.1 hx with rfl | hx
    · simp only [List.filter_cons, hp, hq]
      have := hle l
      simp; omega
    · have := filter_lt h hp hq l hx
      simp only [List.filter_cons]
      cases hqz : q y with
      | true => simp [h y hqz]; exact this
      | false => cases hpz : p y <;> simp <;> omega

theorem getD_set {listed : Array Bool} {i j : Nat} (hi : i < listed.size) : (listed.setIfInBounds i true).getD j false = true ↔ j = i ∨ listed.getD j false = true := by
  by_cases e : j = i
  · subst e; simp [hi]
  · rw [getD_set_ne false (Ne.symm e)]; simp [e]

theorem unlisted_lt {listed : Array Bool} {i n : Nat} (hi : i < n) (hs : listed.size = n) (h : listed.getD i false = false) : unlisted (listed.setIfInBounds i true) n < unlisted listed n := by
  unfold unlisted
  refine filter_lt (x := i) (fun y hy => ?_) (by simp [h]) ?_ _ (by simpa using hi)
  · simp only [Bool.not_eq_true'] at hy ⊢
    cases hl : listed.getD y false with
    | false => rfl
    | true =>
      have := (getD_set (listed := listed) (i := i) (j := y) (by omega)).2 (.inr hl)
      rw [this] at hy; cases hy
  · have := (getD_set (listed := listed) (i := i) (j := i) (by omega)).2 (.inl rfl)
    simp [this]

theorem unlisted_zero {listed : Array Bool} {n : Nat} (h : unlisted listed n = 0) : ∀ j, j < n → listed.getD j false = true := by
  unfold unlisted at h
  intro j hj
  cases hl : listed.getD j false with
  | true => rfl
  | false =>
    exfalso
    have : j ∈ (List.range n).filter fun j => !listed.getD j false := List.mem_filter.2 ⟨by simpa using hj, by rw [hl]; rfl⟩
    rw [List.length_eq_zero_iff.1 h] at this
    cases this
end

/-! ### what drawOk says -/
section
variable (K : Ctx) {fn : FuncId} {all : List Oper} {pre : Array Nat}

theorem nodup_of : ∀ l : List Nat, nodupB l = true → l.Nodup
  | [], _ => List.nodup_nil
  | x :: r, h => by
    simp only [nodupB, Bool.and_eq_true, Bool.not_eq_true'] at h
    refine List.nodup_cons.2 ⟨fun hx => ?_, nodup_of r h.2⟩
    have : r.contains x = true := by simpa using hx
    rw [this] at h; exact absurd h.1 (by simp)

theorem dst_inj (h : nodupB (all.filterMap (·.dst)) = true) : ∀ {i j : Nat} {oi oj : Oper} {d : Nat}, all[i]? = some oi → all[j]? = some oj → oi.dst = some d → oj.dst = some d → i = j := by
  have hn := nodup_of _ h
  clear h
  induction all with
  | nil => intro i j oi oj d hi; simp at hi
  | cons o r ih =>
    have hmem : ∀ (k : Nat) (ok : Oper) d, r[k]? = some ok → ok.dst = some d → d ∈ r.filterMap (·.dst) := fun k ok d hk hd =>
      List.mem_filterMap.2 ⟨ok, List.mem_of_getElem? hk, hd⟩
    have hn' : (r.filterMap (·.dst)).Nodup := by
      cases ho : o.dst with
      | none => simpa [List.filterMap_cons, ho] using hn
      | some d => rw [List.filterMap_cons, ho] at hn; exact (List.nodup_cons.1 hn).2
    have hne : ∀ d, o.dst = some d → d ∉ r.filterMap (·.dst) := fun d hd => by
      rw [List.filterMap_cons, hd] at hn; exact (List.nodup_cons.1 hn).1
    intro i j oi oj d hi hj hdi hdj
    cases i with
    | zero =>
      cases j with
      | zero => rfl
      | succ j =>
        simp at hi hj; subst hi
        exact absurd (hmem j oj d hj hdj) (hne d hdi)
    | succ i =>
      cases j with
      | zero =>
        simp at hi hj; subst hj
        exact absurd (hmem i oi d hi hdi) (hne d hdj)
      | succ j =>
        simp at hi hj
        rw [ih hn' hi hj hdi hdj]

structure DrawOk (K : Ctx) (fn : FuncId) (all : List Oper) (pre : Array Nat) : Prop where
  nodup : nodupB (all.filterMap (·.dst)) = true
  back : ∀ (j : Nat) (o : Oper), all[j]? = some o → ∀ e ∈ o.after, Region.binds .any e = true → e.on < j
  dep : ∀ (i j : Nat) (oi oj : Oper) (d : Nat), all[i]? = some oi → all[j]? = some oj → oi.dst = some d → (d ∈ depsO K fn oj ∨ d ∈ depsG all oj) → i = j ∨ (i < j ∧ (pre.getD j 0).testBit i = true) ∨ (j < i ∧ (pre.getD i 0).testBit j = true)
  newG : ∀ (i j : Nat) (oi oj : Oper) (d : Nat), all[i]? = some oi → all[j]? = some oj → oi.dst = some d → isAlloc oi = true → d ∉ depsG all oj
  newO : ∀ (i j : Nat) (oi oj : Oper) (d : Nat), all[i]? = some oi → all[j]? = some oj → oi.dst = some d → isAlloc oi = true → d ∈ depsO K fn oj → opPure K fn oj = false ∧ isAlloc oj = false
  newW : ∀ (i j : Nat) (oi oj : Oper), all[i]? = some oi → all[j]? = some oj → isAlloc oi = true → opPure K fn oj = false → isAlloc oj = false → i < j → (pre.getD j 0).testBit i = true

theorem isAlloc_dst {o : Oper} (h : isAlloc o = true) : ∃ d t, o.dst = some d ∧ o.op = .alloc t ∧ o.guard = none := by
  obtain ⟨dst, op, type, pos, after, guard⟩ := o
  unfold isAlloc at h
  split at h
  · rename_i t d h1 h2 h3
    exact ⟨_, _, h2, h1, h3⟩
  · cases h

theorem mem_zipIdx' {α : Type} {l : List α} {i : Nat} {x : α} (h : l[i]? = some x) : (x, i) ∈ l.zipIdx := by
  rw [List.mem_zipIdx_iff_getElem?]; exact h

theorem drawOk_spec (h : drawOk K fn all pre = true) : DrawOk K fn all pre := by
  unfold drawOk at h
  simp only [Bool.and_eq_true] at h
  obtain ⟨h1, h2⟩ := h
  have hdep : ∀ (i j : Nat) (oi oj : Oper), all[i]? = some oi → all[j]? = some oj → depOk K fn all pre oj j oi i = true := fun i j oi oj hi hj => by
    have := List.all_eq_true.1 h2 _ (mem_zipIdx' hj)
    simp only [Bool.and_eq_true] at this
    exact List.all_eq_true.1 this.2 _ (mem_zipIdx' hi)
  refine ⟨h1, fun j o hj e he hb => ?_, fun i j oi oj d hi hj hd hD => ?_, fun i j oi oj d hi hj hd ha hD => ?_, fun i j oi oj d hi hj hd ha hD => ?_, fun i j oi oj hi hj ha hp hna hlt => ?_⟩
  · have := List.all_eq_true.1 h2 _ (mem_zipIdx' hj)
    simp only [Bool.and_eq_true] at this
    have := Array.all_eq_true_iff_forall_mem.1 this.1 e he
    simpa [hb] using this
  · have := hdep i j oi oj hi hj
    unfold depOk at this
    simp only [hd, Bool.and_eq_true, Bool.or_eq_true, Bool.not_eq_true', beq_iff_eq, decide_eq_true_eq] at this
    have hc : ((depsO K fn oj).contains d || (depsG all oj).contains d) = true := by
      rcases hD with hD | hD
      · have : (depsO K fn oj).contains d = true := by simpa using hD
        rw [this]; rfl
      · have : (depsG all oj).contains d = true := by simpa using hD
        rw [this]; simp
    rcases this.1.1 with ((h' | h') | h') | h'
    · rw [hc] at h'; cases h'
    · exact .inl h'
    · exact .inr (.inl h')
    · exact .inr (.inr h')
  · have := hdep i j oi oj hi hj
    unfold depOk at this
    simp only [hd, ha, Bool.and_eq_true, Bool.or_eq_true, Bool.not_eq_true', Bool.not_true, Bool.false_eq_true, false_or] at this
    have hc : (depsG all oj).contains d = true := by simpa using hD
    rw [hc] at this
    exact absurd this.1.2.1 (by simp)
  · have := hdep i j oi oj hi hj
    unfold depOk at this
    simp only [hd, ha, Bool.and_eq_true, Bool.or_eq_true, Bool.not_eq_true', Bool.not_true, Bool.false_eq_true, false_or] at this
    have hc : (depsO K fn oj).contains d = true := by simpa using hD
    rcases this.1.2.2 with h' | h'
    · rw [hc] at h'; cases h'
    · exact h'
  · have := hdep i j oi oj hi hj
    unfold depOk at this
    simp only [ha, hp, hna, Bool.and_eq_true, Bool.or_eq_true, Bool.not_eq_true', Bool.not_true, Bool.false_eq_true, false_or, decide_eq_true_eq] at this
    rcases this.2 with h' | h'
    · omega
    · exact h'

theorem wantedG_congr {s s' : Slots} {o : Oper} (h : ∀ t, t ∈ depsG all o → look s t = look s' t) : wantedG all s o = wantedG all s' o := by
  unfold wantedG
  unfold depsG at h
  cases hg : o.guard with
  | none => rfl
  | some x =>
    obtain ⟨j, want⟩ := x
    simp only [hg] at h ⊢
    cases hj : all[j]? with
    | none => rfl
    | some oj =>
      simp only [hj] at h ⊢
      cases hd : oj.dst with
      | none => rfl
      | some d => simp only; rw [h d (by simp [hd])]

theorem goCalls_ops {o : Oper} {f : Operand} {args : List Operand} (h : goCalls o = some (f, args)) : ∀ x ∈ f :: args, x ∈ o.op.operands.toList := by
  obtain ⟨dst, op, type, pos, after, guard⟩ := o
  unfold goCalls at h
  simp only at h
  split at h
  · rename_i f0 args0 ats
    simp only [Option.some.injEq, Prod.mk.injEq] at h
    obtain ⟨rfl, rfl⟩ := h
    intro x hx
    simp only [Op.operands, Call.operands]
    simpa using hx
  · cases h

theorem gstep_congr {rec : Rec} {o : Oper} {s s' : Slots} {H : Heap} (h : ∀ t, t ∈ depsO K fn o → look s t = look s' t) : gstep K rec fn o s H = gstep K rec fn o s' H := by
  unfold gstep
  cases hg : goCalls o with
  | none => exact gop_congr K h
  | some x =>
    obtain ⟨f, args⟩ := x
    have hx : ∀ x ∈ f :: args, ev s x = ev s' x := fun x hx => ev_congr fun t ht => h t (by
      unfold depsO
      exact List.mem_append_left _ (List.mem_append_left _ (mem_tmpsOf (ht ▸ goCalls_ops hg x hx))))
    simp only
    rw [hx f (List.mem_cons_self ..), evs_congr fun x h => hx x (List.mem_cons_of_mem _ h)]
    cases hl : K.lift fn (o.dst.getD 0) with
    | none => rfl
    | some t =>
      have e : look s t = look s' t := h t (by
        unfold depsO
        exact List.mem_append_right _ (by rw [hl]; simp))
      simp only [e]

theorem look_keepSlots (s : Slots) (t : Nat) : ∀ l : List Nat, t ∈ l → look (keepSlots s l) t = look s t
  | x :: r, h => by
    simp only [keepSlots, look]
    split
    · rename_i e; rw [e]
    · rename_i e
      exact look_keepSlots s t r ((List.mem_cons.1 h).resolve_left e)

theorem keep_rel {w : World} {S : Nat → Prop} {μ : Mu} {a : Act} {s : Slots} {k : Nat} (D : List Nat) (h : ∀ t, t ∈ D → VRel w S μ k (a.tmps.getD t undef) (look s t)) : ∀ t, VRel w S μ k (a.tmps.getD t undef) (look (keepSlots s D) t) := by
  intro t
  by_cases ht : t ∈ D
  · rw [look_keepSlots s t D ht]; exact h t ht
  · have : look (keepSlots s D) t = gdead := by
      clear h
      induction D with
      | nil => rfl
      | cons x r ih =>
        simp only [keepSlots, look]
        have hne : t ≠ x := fun e => ht (by rw [e]; exact List.mem_cons_self ..)
        rw [if_neg hne]
        exact ih fun h => ht (List.mem_cons_of_mem _ h)
    rw [this]; exact vdead _

end

/-! ### a block that lies there gets a name -/
theorem HRel.adopt {w : World} {S : Nat → Prop} {μ : Mu} {H : Heap} (hH : HRel w S μ H) {nm : Nm} (hg : H.get nm = none) (hl : nm.1 < H.length) {b : Nat} (hb : b < w.heap.size) (hno : ∀ n t, μ n t ≠ some b) {x : Blk}
    (hx : BlkRel w S (μ.upd nm 0 b) nm x) : HRel w S (μ.upd nm 0 b) (H.set nm x) := by
  have hnm : ∀ t c, μ nm t ≠ some c := fun t c h => by obtain ⟨y, hy⟩ := hH.bnd _ _ _ h; rw [hg] at hy; cases hy
  have cases' : ∀ n t c, μ.upd nm 0 b n t = some c → (n = nm ∧ t = 0 ∧ c = b) ∨ (n ≠ nm ∧ μ n t = some c) := fun n t c h => by
    by_cases e : n = nm
    · subst e
      by_cases et : t = 0
      · subst et; rw [Mu.upd_self] at h; cases h; exact .inl ⟨rfl, rfl, rfl⟩
      · rw [Mu.upd_top μ _ _ et] at h; exact absurd h (hnm t c)
    · rw [Mu.upd_other μ _ _ _ e] at h; exact .inr ⟨e, h⟩
  refine ⟨fun n y hy t c hc => ?_, fun n t c hc => ?_, fun n n' t t' c hc hc' => ?_, fun n t c hc => ?_, hH.slt, hH.glb⟩
  · by_cases e : n = nm
    · subst e; rw [Heap.get_set _ hl] at hy; cases hy; exact hx
    · rw [Heap.get_set_other _ e] at hy
      rw [Mu.upd_other μ _ _ _ e] at hc
      exact (hH.blk n y hy t c hc).mono (fun _ h => h) (fun _ _ => rfl) (fun _ _ h => h) (fun n' t b' _ h => noNew hH hg _ _ n' t b' h) (fun t => Mu.upd_other μ _ _ _ e) (fun _ _ _ => rfl) (fun _ _ _ h => h)
  · by_cases e : n = nm
    · subst e; exact ⟨x, Heap.get_set _ hl⟩
    · rw [Mu.upd_other μ _ _ _ e] at hc
      obtain ⟨y, hy⟩ := hH.bnd n t c hc
      exact ⟨y, by rw [Heap.get_set_other _ e]; exact hy⟩
  · rcases cases' n t c hc with ⟨h1, h2, h3⟩ | ⟨h1, h2⟩ <;> rcases cases' n' t' c hc' with ⟨k1, k2, k3⟩ | ⟨k1, k2⟩
    · rw [h1, k1]
    · subst h3; exact absurd k2 (hno _ _)
    · subst k3; exact absurd h2 (hno _ _)
    · exact hH.disj _ _ _ _ _ h2 k2
  · rcases cases' n t c hc with ⟨h1, h2, h3⟩ | ⟨h1, h2⟩
    · subst h3; exact hb
    · exact hH.lt _ _ _ h2

theorem Ev.adopt {ℓ : Nat} {w0 w : World} {S0 S : Nat → Prop} {μ0 μ : Mu} (h : Ev ℓ w0 S0 μ0 w S μ) {nm : Nm} {b : Nat} (hnm : ∀ t c, μ nm t ≠ some c) (hb : w0.heap.size ≤ b) : Ev ℓ w0 S0 μ0 w S (μ.upd nm 0 b) :=
  { h with
    mu := fun n t c hl hm => by
      have := h.mu n t c hl hm
      by_cases e : n = nm
      · subst e; exact absurd this (hnm _ _)
      · rw [Mu.upd_other μ _ _ _ e]; exact this
    own := fun n t c hm hc => by
      by_cases e : n = nm
      · subst e
        by_cases et : t = 0
        · subst et; rw [Mu.upd_self] at hm; cases hm; omega
        · rw [Mu.upd_top μ _ _ et] at hm; exact absurd hm (hnm _ _)
      · rw [Mu.upd_other μ _ _ _ e] at hm; exact h.own n t c hm hc }

end Go.Gh

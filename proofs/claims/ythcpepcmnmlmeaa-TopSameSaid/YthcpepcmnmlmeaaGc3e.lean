/- Texts joined: the evaluator over ghost values, its soundness, the walks. Spaces struck and names made short by a program, for the size. -/
import Derived.Test.YthcpepcmnmlmeaaGc3d
namespace Go.Gh
set_option linter.unusedVariables false
set_option linter.unusedSimpArgs false
set_option linter.unnecessarySimpa false
set_option maxRecDepth 100000
set_option maxHeartbeats 8000000
section
section
variable {ops : Array Oper}
theorem fold_bits (g : Nat → Nat) : ∀ (l : List Edge) (s0 b : Nat), (l.foldl (fun s e => if Region.binds .any e then s ||| 2 ^ e.on ||| g e.on else s) s0).testBit b = true →
  s0.testBit b = true ∨ ∃ e ∈ l, Region.binds .any e = true ∧ (e.on = b ∨ (g e.on).testBit b = true)
 | [], s0, b, h => .inl h
 | e :: l, s0, b, h => by
  rw [List.foldl_cons] at h
  rcases fold_bits g l _ b h with h1 | ⟨e', he', h1⟩
  ·by_cases hb : Region.binds .any e = true
   ·rw [if_pos hb, Nat.testBit_or, Nat.testBit_or, Nat.testBit_two_pow] at h1
    simp only [Bool.or_eq_true, decide_eq_true_eq] at h1
    rcases h1 with (h1 | h1) | h1
    ·exact .inl h1
    ·exact .inr ⟨e, List.mem_cons_self .., hb, .inl h1⟩
    ·exact .inr ⟨e, List.mem_cons_self .., hb, .inr h1⟩
   ·rw [if_neg hb] at h1
    exact .inl h1
  ·exact .inr ⟨e', List.mem_cons_of_mem _ he', h1⟩
theorem before_spec (ops : Array Oper) (j b : Nat) (h : ((Region.before ops).getD j 0).testBit b = true) :
  ∃ o e, ops[j]? = some o ∧ e ∈ o.after ∧ Region.binds .any e = true ∧ (e.on = b ∨ (e.on < j ∧ ((Region.before ops).getD e.on 0).testBit b = true)) := by
 have key : (Region.before ops).size = ops.size ∧ ∀ j, j < ops.size → ∀ b, ((Region.before ops).getD j 0).testBit b = true →
   ∃ o e, ops[j]? = some o ∧ e ∈ o.after ∧ Region.binds .any e = true ∧ (e.on = b ∨ (e.on < j ∧ ((Region.before ops).getD e.on 0).testBit b = true)) := by
  unfold Region.before
  refine Array.foldl_induction (motive := fun (i : Nat) (acc : Array Nat) => acc.size = i ∧ ∀ j, j < i → ∀ b, (acc.getD j 0).testBit b = true →
   ∃ o e, ops[j]? = some o ∧ e ∈ o.after ∧ Region.binds .any e = true ∧ (e.on = b ∨ (e.on < j ∧ (acc.getD e.on 0).testBit b = true))) ⟨rfl, fun j hj => by omega⟩ ?_
  intro i acc ⟨h1, h2⟩
  refine ⟨by simp [h1], fun j hj b hb => ?_⟩
  have hold : ∀ x k, k < i.val → (acc.push x).getD k 0 = acc.getD k 0 := fun x k hk => by
   simp only [Array.getD_eq_getD_getElem?, Array.getElem?_push]
   rw [if_neg (by omega)]
  by_cases e : j = i.val
  ·subst e
   have hx : ∀ x, (acc.push x).getD i.val 0 = x := fun x => by
    simp only [Array.getD_eq_getD_getElem?, Array.getElem?_push]
    rw [if_pos h1.symm]; rfl
   rw [hx, ← Array.foldl_toList] at hb
   rcases fold_bits (fun k => acc.getD k 0) _ _ _ hb with hb | ⟨e, he, hbe, hb⟩
   ·simp at hb
   ·refine ⟨ops[i.val], e, by simp, by simpa using he, hbe, ?_⟩
    rcases hb with hb | hb
    ·exact .inl hb
    ·refine .inr ?_
     have hlt : e.on < i.val := by
      rcases Nat.lt_or_ge e.on i.val with h' | h'
      ·exact h'
      ·exfalso
       have : acc.getD e.on 0 = 0 := by
        rw [Array.getD_eq_getD_getElem?, Array.getElem?_eq_none (by omega)]; rfl
       rw [this] at hb; simp at hb
     exact ⟨hlt, by rw [hold _ _ hlt]; exact hb⟩
  ·have hj' : j < i.val := by omega
   rw [hold _ _ hj'] at hb
   obtain ⟨o, e, q1, q2, q3, q4⟩ := h2 j hj' b hb
   refine ⟨o, e, q1, q2, q3, ?_⟩
   rcases q4 with q4 | ⟨q4, q5⟩
   ·exact .inl q4
   ·exact .inr ⟨q4, by rw [hold _ _ (by omega)]; exact q5⟩
 rcases Nat.lt_or_ge j ops.size with hj | hj
 ·exact key.2 j hj b h
 ·exfalso
  rw [Array.getD_eq_getD_getElem?, Array.getElem?_eq_none (by rw [key.1]; exact hj)] at h
  simp at h
def Closed (ops : Array Oper) (listed : Array Bool) : Prop := ∀ j o, ops[j]? = some o → listed.getD j false = true → ∀ e ∈ o.after, Region.binds .any e = true → listed.getD e.on false = true
theorem closed_before {listed : Array Bool} (hc : Closed ops listed) : ∀ (j b : Nat), ((Region.before ops).getD j 0).testBit b = true → (∀ o, ops[j]? = some o → ∀ e ∈ o.after, Region.binds .any e = true → listed.getD e.on false = true) → listed.getD b false = true := by
 intro j
 induction j using Nat.strongRecOn with
 | _ j ih =>
  intro b hb hr
  obtain ⟨o, e, h1, h2, h3, h4⟩ := before_spec ops j b hb
  have hl := hr o h1 e h2 h3
  rcases h4 with rfl | ⟨h4, h5⟩
  ·exact hl
  ·exact ih e.on h4 b h5 fun o' ho' e' he' hb' => hc e.on o' ho' hl e' he' hb'
theorem closed_listed {listed : Array Bool} (hc : Closed ops listed) {j b : Nat} (hj : listed.getD j false = true) (hb : ((Region.before ops).getD j 0).testBit b = true) : listed.getD b false = true :=
 closed_before hc j b hb fun o ho e he hbe => hc j o ho hj e he hbe
theorem all_listed {listed : Array Bool} (hsz : listed.size = ops.size) (hback : ∀ j o, ops[j]? = some o → ∀ e ∈ o.after, Region.binds .any e = true → e.on < j) (h : Region.ready .any ops listed = []) :
  ∀ j, j < ops.size → listed.getD j false = true := by
 intro j
 induction j using Nat.strongRecOn with
 | _ j ih =>
  intro hj
  cases hl : listed.getD j false with
  | true => rfl
  | false =>
   exfalso
   have : j ∈ Region.ready .any ops listed := by
    rw [mem_ready]
    refine ⟨?_, ops[j], by simp, fun e he hb => ?_⟩
    ·rw [Array.getD_eq_getD_getElem?] at hl ⊢
     rw [Array.getElem?_eq_getElem (by omega)] at hl ⊢
     exact hl
    ·have := hback j ops[j] (by simp) e he hb
     exact ih _ this (by omega)
   rw [h] at this; cases this
def unlisted (listed : Array Bool) (n : Nat) : Nat := ((List.range n).filter fun j => !listed.getD j false).length
theorem filter_lt {α : Type} {p q : α → Bool} {x : α} (h : ∀ y, q y = true → p y = true) (hp : p x = true) (hq : q x = false) : ∀ l : List α, x ∈ l → (l.filter q).length < (l.filter p).length
 | [], hx => by cases hx
 | y :: l, hx => by
  have hle : ∀ l : List α, (l.filter q).length ≤ (l.filter p).length := by
   intro l
   induction l with
   | nil => simp
   | cons z l ih =>
    simp only [List.filter_cons]
    cases hqz : q z with
    | true => simp [h z hqz, ih]
    | false => cases hpz : p z <;> simp <;> omega
  rcases List.mem_cons.1 hx with rfl | hx
  ·simp only [List.filter_cons, hp, hq]
   have := hle l
   simp; omega
  ·have := filter_lt h hp hq l hx
   simp only [List.filter_cons]
   cases hqz : q y with
   | true => simp [h y hqz]; exact this
   | false => cases hpz : p y <;> simp <;> omega
theorem getD_set {listed : Array Bool} {i j : Nat} (hi : i < listed.size) : (listed.setIfInBounds i true).getD j false = true ↔ j = i ∨ listed.getD j false = true := by
 by_cases e : j = i
 ·subst e; simp [hi]
 ·rw [getD_set_ne false (Ne.symm e)]; simp [e]
theorem unlisted_lt {listed : Array Bool} {i n : Nat} (hi : i < n) (hs : listed.size = n) (h : listed.getD i false = false) : unlisted (listed.setIfInBounds i true) n < unlisted listed n := by
 unfold unlisted
 refine filter_lt (x := i) (fun y hy => ?_) (by simp [h]) ?_ _ (by simpa using hi)
 ·simp only [Bool.not_eq_true'] at hy ⊢
  cases hl : listed.getD y false with
  | false => rfl
  | true =>
   have := (getD_set (listed := listed) (i := i) (j := y) (by omega)).2 (.inr hl)
   rw [this] at hy; cases hy
 ·have := (getD_set (listed := listed) (i := i) (j := i) (by omega)).2 (.inl rfl)
  simp [this]
theorem unlisted_zero {listed : Array Bool} {n : Nat} (h : unlisted listed n = 0) : ∀ j, j < n → listed.getD j false = true := by
 unfold unlisted at h
 intro j hj
 cases hl : listed.getD j false with
 | true => rfl
 | false =>
  exfalso
  have : j ∈ (List.range n).filter fun j => !listed.getD j false := List.mem_filter.2 ⟨by simpa using hj, by rw [hl]; rfl⟩
  rw [List.length_eq_zero_iff.1 h] at this
  cases this
end
section
variable (K : Ctx) {fn : FuncId} {all : List Oper} {pre : Array Nat}
theorem nodup_of : ∀ l : List Nat, nodupB l = true → l.Nodup
 | [], _ => List.nodup_nil
 | x :: r, h => by
  simp only [nodupB, Bool.and_eq_true, Bool.not_eq_true'] at h
  refine List.nodup_cons.2 ⟨fun hx => ?_, nodup_of r h.2⟩
  have : r.contains x = true := by simpa using hx
  rw [this] at h; exact absurd h.1 (by simp)
theorem dst_inj (h : nodupB (all.filterMap (·.dst)) = true) : ∀ {i j : Nat} {oi oj : Oper} {d : Nat}, all[i]? = some oi → all[j]? = some oj → oi.dst = some d → oj.dst = some d → i = j := by
 have hn := nodup_of _ h
 clear h
 induction all with
 | nil => intro i j oi oj d hi; simp at hi
 | cons o r ih =>
  have hmem : ∀ (k : Nat) (ok : Oper) d, r[k]? = some ok → ok.dst = some d → d ∈ r.filterMap (·.dst) := fun k ok d hk hd =>
   List.mem_filterMap.2 ⟨ok, List.mem_of_getElem? hk, hd⟩
  have hn' : (r.filterMap (·.dst)).Nodup := by
   cases ho : o.dst with
   | none => simpa [List.filterMap_cons, ho] using hn
   | some d => rw [List.filterMap_cons, ho] at hn; exact (List.nodup_cons.1 hn).2
  have hne : ∀ d, o.dst = some d → d ∉ r.filterMap (·.dst) := fun d hd => by
   rw [List.filterMap_cons, hd] at hn; exact (List.nodup_cons.1 hn).1
  intro i j oi oj d hi hj hdi hdj
  cases i with
  | zero =>
   cases j with
   | zero => rfl
   | succ j =>
    simp at hi hj; subst hi
    exact absurd (hmem j oj d hj hdj) (hne d hdi)
  | succ i =>
   cases j with
   | zero =>
    simp at hi hj; subst hj
    exact absurd (hmem i oi d hi hdi) (hne d hdj)
   | succ j =>
    simp at hi hj
    rw [ih hn' hi hj hdi hdj]
structure DrawOk (K : Ctx) (fn : FuncId) (all : List Oper) (pre : Array Nat) : Prop where
 nodup : nodupB (all.filterMap (·.dst)) = true
 back : ∀ (j : Nat) (o : Oper), all[j]? = some o → ∀ e ∈ o.after, Region.binds .any e = true → e.on < j
 dep : ∀ (i j : Nat) (oi oj : Oper) (d : Nat), all[i]? = some oi → all[j]? = some oj → oi.dst = some d → (d ∈ depsO K fn oj ∨ d ∈ depsG all oj) → i = j ∨ (i < j ∧ (pre.getD j 0).testBit i = true) ∨ (j < i ∧ (pre.getD i 0).testBit j = true)
 newG : ∀ (i j : Nat) (oi oj : Oper) (d : Nat), all[i]? = some oi → all[j]? = some oj → oi.dst = some d → isAlloc oi = true → d ∉ depsG all oj
 newO : ∀ (i j : Nat) (oi oj : Oper) (d : Nat), all[i]? = some oi → all[j]? = some oj → oi.dst = some d → isAlloc oi = true → d ∈ depsO K fn oj → opPure K fn oj = false ∧ isAlloc oj = false
 newW : ∀ (i j : Nat) (oi oj : Oper), all[i]? = some oi → all[j]? = some oj → isAlloc oi = true → opPure K fn oj = false → isAlloc oj = false → i < j → (pre.getD j 0).testBit i = true
theorem isAlloc_dst {o : Oper} (h : isAlloc o = true) : ∃ d t, o.dst = some d ∧ o.op = .alloc t ∧ o.guard = none := by
 obtain ⟨dst, op, type, pos, after, guard⟩ := o
 unfold isAlloc at h
 split at h
 ·rename_i t d h1 h2 h3
  exact ⟨_, _, h2, h1, h3⟩
 ·cases h
theorem mem_zipIdx' {α : Type} {l : List α} {i : Nat} {x : α} (h : l[i]? = some x) : (x, i) ∈ l.zipIdx := by
 rw [List.mem_zipIdx_iff_getElem?]; exact h
theorem drawOk_spec (h : drawOk K fn all pre = true) : DrawOk K fn all pre := by
 unfold drawOk at h
 simp only [Bool.and_eq_true] at h
 obtain ⟨h1, h2⟩ := h
 have hdep : ∀ (i j : Nat) (oi oj : Oper), all[i]? = some oi → all[j]? = some oj → depOk K fn all pre oj j oi i = true := fun i j oi oj hi hj => by
  have := List.all_eq_true.1 h2 _ (mem_zipIdx' hj)
  simp only [Bool.and_eq_true] at this
  exact List.all_eq_true.1 this.2 _ (mem_zipIdx' hi)
 refine ⟨h1, fun j o hj e he hb => ?_, fun i j oi oj d hi hj hd hD => ?_, fun i j oi oj d hi hj hd ha hD => ?_, fun i j oi oj d hi hj hd ha hD => ?_, fun i j oi oj hi hj ha hp hna hlt => ?_⟩
 ·have := List.all_eq_true.1 h2 _ (mem_zipIdx' hj)
  simp only [Bool.and_eq_true] at this
  have := Array.all_eq_true_iff_forall_mem.1 this.1 e he
  simpa [hb] using this
 ·have := hdep i j oi oj hi hj
  unfold depOk at this
  simp only [hd, Bool.and_eq_true, Bool.or_eq_true, Bool.not_eq_true', beq_iff_eq, decide_eq_true_eq] at this
  have hc : ((depsO K fn oj).contains d || (depsG all oj).contains d) = true := by
   rcases hD with hD | hD
   ·have : (depsO K fn oj).contains d = true := by simpa using hD
    rw [this]; rfl
   ·have : (depsG all oj).contains d = true := by simpa using hD
    rw [this]; simp
  rcases this.1.1 with ((h' | h') | h') | h'
  ·rw [hc] at h'; cases h'
  ·exact .inl h'
  ·exact .inr (.inl h')
  ·exact .inr (.inr h')
 ·have := hdep i j oi oj hi hj
  unfold depOk at this
  simp only [hd, ha, Bool.and_eq_true, Bool.or_eq_true, Bool.not_eq_true', Bool.not_true, Bool.false_eq_true, false_or] at this
  have hc : (depsG all oj).contains d = true := by simpa using hD
  rw [hc] at this
  exact absurd this.1.2.1 (by simp)
 ·have := hdep i j oi oj hi hj
  unfold depOk at this
  simp only [hd, ha, Bool.and_eq_true, Bool.or_eq_true, Bool.not_eq_true', Bool.not_true, Bool.false_eq_true, false_or] at this
  have hc : (depsO K fn oj).contains d = true := by simpa using hD
  rcases this.1.2.2 with h' | h'
  ·rw [hc] at h'; cases h'
  ·exact h'
 ·have := hdep i j oi oj hi hj
  unfold depOk at this
  simp only [ha, hp, hna, Bool.and_eq_true, Bool.or_eq_true, Bool.not_eq_true', Bool.not_true, Bool.false_eq_true, false_or, decide_eq_true_eq] at this
  rcases this.2 with h' | h'
  ·omega
  ·exact h'
theorem wantedG_congr {s s' : Slots} {o : Oper} (h : ∀ t, t ∈ depsG all o → look s t = look s' t) : wantedG all s o = wantedG all s' o := by
 unfold wantedG
 unfold depsG at h
 cases hg : o.guard with
 | none => rfl
 | some x =>
  obtain ⟨j, want⟩ := x
  simp only [hg] at h ⊢
  cases hj : all[j]? with
  | none => rfl
  | some oj =>
   simp only [hj] at h ⊢
   cases hd : oj.dst with
   | none => rfl
   | some d => simp only; rw [h d (by simp [hd])]
theorem goCalls_ops {o : Oper} {f : Operand} {args : List Operand} (h : goCalls o = some (f, args)) : ∀ x ∈ f :: args, x ∈ o.op.operands.toList := by
 obtain ⟨dst, op, type, pos, after, guard⟩ := o
 unfold goCalls at h
 simp only at h
 split at h
 ·rename_i f0 args0 ats
  simp only [Option.some.injEq, Prod.mk.injEq] at h
  obtain ⟨rfl, rfl⟩ := h
  intro x hx
  simp only [Op.operands, Call.operands]
  simpa using hx
 ·cases h
theorem gstep_congr {rec : Rec} {o : Oper} {s s' : Slots} {H : Heap} (h : ∀ t, t ∈ depsO K fn o → look s t = look s' t) : gstep K rec fn o s H = gstep K rec fn o s' H := by
 unfold gstep
 cases hg : goCalls o with
 | none => exact gop_congr K h
 | some x =>
  obtain ⟨f, args⟩ := x
  have hx : ∀ x ∈ f :: args, ev s x = ev s' x := fun x hx => ev_congr fun t ht => h t (by
   unfold depsO
   exact List.mem_append_left _ (List.mem_append_left _ (mem_tmpsOf (ht ▸ goCalls_ops hg x hx))))
  simp only
  rw [hx f (List.mem_cons_self ..), evs_congr fun x h => hx x (List.mem_cons_of_mem _ h)]
  cases hl : K.lift fn (o.dst.getD 0) with
  | none => rfl
  | some t =>
   have e : look s t = look s' t := h t (by
    unfold depsO
    exact List.mem_append_right _ (by rw [hl]; simp))
   simp only [e]
theorem look_keepSlots (s : Slots) (t : Nat) : ∀ l : List Nat, t ∈ l → look (keepSlots s l) t = look s t
 | x :: r, h => by
  simp only [keepSlots, look]
  split
  ·rename_i e; rw [e]
  ·rename_i e
   exact look_keepSlots s t r ((List.mem_cons.1 h).resolve_left e)
theorem keep_rel {w : World} {S : Nat → Prop} {μ : Mu} {a : Act} {s : Slots} {k : Nat} (D : List Nat) (h : ∀ t, t ∈ D → VRel w S μ k (a.tmps.getD t undef) (look s t)) : ∀ t, VRel w S μ k (a.tmps.getD t undef) (look (keepSlots s D) t) := by
 intro t
 by_cases ht : t ∈ D
 ·rw [look_keepSlots s t D ht]; exact h t ht
 ·have : look (keepSlots s D) t = gdead := by
   clear h
   induction D with
   | nil => rfl
   | cons x r ih =>
    simp only [keepSlots, look]
    have hne : t ≠ x := fun e => ht (by rw [e]; exact List.mem_cons_self ..)
    rw [if_neg hne]
    exact ih fun h => ht (List.mem_cons_of_mem _ h)
  rw [this]; exact vdead _
end
theorem HRel.adopt {w : World} {S : Nat → Prop} {μ : Mu} {H : Heap} (hH : HRel w S μ H) {nm : Nm} (hg : H.get nm = none) (hl : nm.1 < H.length) {b : Nat} (hb : b < w.heap.size) (hno : ∀ n t, μ n t ≠ some b) {x : Blk}
  (hx : BlkRel w S (μ.upd nm 0 b) nm x) : HRel w S (μ.upd nm 0 b) (H.set nm x) := by
 have hnm : ∀ t c, μ nm t ≠ some c := fun t c h => by obtain ⟨y, hy⟩ := hH.bnd _ _ _ h; rw [hg] at hy; cases hy
 have cases' : ∀ n t c, μ.upd nm 0 b n t = some c → (n = nm ∧ t = 0 ∧ c = b) ∨ (n ≠ nm ∧ μ n t = some c) := fun n t c h => by
  by_cases e : n = nm
  ·subst e
   by_cases et : t = 0
   ·subst et; rw [Mu.upd_self] at h; cases h; exact .inl ⟨rfl, rfl, rfl⟩
   ·rw [Mu.upd_top μ _ _ et] at h; exact absurd h (hnm t c)
  ·rw [Mu.upd_other μ _ _ _ e] at h; exact .inr ⟨e, h⟩
 refine ⟨fun n y hy t c hc => ?_, fun n t c hc => ?_, fun n n' t t' c hc hc' => ?_, fun n t c hc => ?_, hH.slt, hH.glb⟩
 ·by_cases e : n = nm
  ·subst e; rw [Heap.get_set _ hl] at hy; cases hy; exact hx
  ·rw [Heap.get_set_other _ e] at hy
   rw [Mu.upd_other μ _ _ _ e] at hc
   exact (hH.blk n y hy t c hc).mono (fun _ h => h) (fun _ _ => rfl) (fun _ _ h => h) (fun n' t b' _ h => noNew hH hg _ _ n' t b' h) (fun t => Mu.upd_other μ _ _ _ e) (fun _ _ _ => rfl) (fun _ _ _ h => h)
 ·by_cases e : n = nm
  ·subst e; exact ⟨x, Heap.get_set _ hl⟩
  ·rw [Mu.upd_other μ _ _ _ e] at hc
   obtain ⟨y, hy⟩ := hH.bnd n t c hc
   exact ⟨y, by rw [Heap.get_set_other _ e]; exact hy⟩
 ·rcases cases' n t c hc with ⟨h1, h2, h3⟩ | ⟨h1, h2⟩ <;> rcases cases' n' t' c hc' with ⟨k1, k2, k3⟩ | ⟨k1, k2⟩
  ·rw [h1, k1]
  ·subst h3; exact absurd k2 (hno _ _)
  ·subst k3; exact absurd h2 (hno _ _)
  ·exact hH.disj _ _ _ _ _ h2 k2
 ·rcases cases' n t c hc with ⟨h1, h2, h3⟩ | ⟨h1, h2⟩
  ·subst h3; exact hb
  ·exact hH.lt _ _ _ h2
theorem Ev.adopt {ℓ : Nat} {w0 w : World} {S0 S : Nat → Prop} {μ0 μ : Mu} (h : Ev ℓ w0 S0 μ0 w S μ) {nm : Nm} {b : Nat} (hnm : ∀ t c, μ nm t ≠ some c) (hb : w0.heap.size ≤ b) : Ev ℓ w0 S0 μ0 w S (μ.upd nm 0 b) :=
  { h with
    mu := fun n t c hl hm => by
      have := h.mu n t c hl hm
      by_cases e : n = nm
      · subst e; exact absurd this (hnm _ _)
      · rw [Mu.upd_other μ _ _ _ e]; exact this
    own := fun n t c hm hc => by
      by_cases e : n = nm
      · subst e
        by_cases et : t = 0
        · subst et; rw [Mu.upd_self] at hm; cases hm; omega
        · rw [Mu.upd_top μ _ _ et] at hm; exact absurd hm (hnm _ _)
      · rw [Mu.upd_other μ _ _ _ e] at hm; exact h.own n t c hm hc }
end
section
def Pend (w0 w : World) (S : Nat → Prop) (μ : Mu) (P : Program) (o : Oper) (u : Value) (b : Nat) : Prop :=
 u = .pointer (some ⟨b, 0, none⟩) ∧ w0.heap.size ≤ b ∧ b < w.heap.size ∧ ¬ S b ∧ (∀ nm t, μ nm t ≠ some b) ∧
 ∃ ty v cs, o.op = .alloc ty ∧ tzero P ty = some (ofConst v) ∧ cellsO (ofConst v) = some cs ∧ w.heap[b]? = some (.cells v.cells ty (0, 0))
section
variable {w w' : World} {S S' : Nat → Prop} {μ μ' : Mu} {ℓ : Nat}
theorem Pend.ev {w0 : World} {P : Program} {o : Oper} {u : Value} {b : Nat} (h : Pend w0 w S μ P o u b) (e : Ev ℓ w S μ w' S' μ') : Pend w0 w' S' μ' P o u b := by
 obtain ⟨h1, h2, h3, h4, h5, ty, v, cs, h6, h7, h8, h9⟩ := h
 refine ⟨h1, h2, Nat.lt_of_lt_of_le h3 e.size, fun hs => ?_, fun nm t hm => ?_, ty, v, cs, h6, h7, h8, by rw [e.same b h3 (.inr h5)]; exact h9⟩
 ·rcases e.snew b hs h3 with h | ⟨nm, t, h⟩
  ·exact h4 h
  ·exact h5 _ _ h
 ·obtain ⟨nm', t', h'⟩ := e.own nm t b hm h3
  exact h5 _ _ h'
end
section
variable (K : Ctx) (rec : Rec) (fn : FuncId) (ops : Array Oper) (st0 : GSt) (base : Nat) (r : Option Nat) (w0 : World) (S0 : Nat → Prop) (μ0 : Mu)
abbrev TT (j : Nat) : TS := dT K rec fn ops.toList st0 j
abbrev KK (j : Nat) : Nat := dk K rec fn ops.toList st0 j
abbrev VV (j : Nat) : GV := dv K rec fn ops.toList st0 j
structure SimC (listed : Array Bool) (a : Act) (w : World) (S : Nat → Prop) (μ : Mu) (e : Nat) (pd : Nat → Nat) : Prop where
 sz : listed.size = ops.size
 clo : Closed ops listed
 le : e ≤ ops.size
 ww : ∀ j, j < ops.size → KK K rec fn ops st0 j = 3 → (listed.getD j false = true ↔ j < e)
 al : ∀ j, j < e → KK K rec fn ops st0 j = 2 → listed.getD j false = true
 v1 : ∀ (j : Nat) (o : Oper) (d : Nat), ops.toList[j]? = some o → o.dst = some d → listed.getD j false = true → (KK K rec fn ops st0 j = 2 → j < e) → VRel w S μ (st0.h.length - 1) (a.tmps.getD d undef) (VV K rec fn ops st0 j)
 v0 : ∀ t, (∀ (j : Nat) (o : Oper), ops.toList[j]? = some o → listed.getD j false = true → o.dst ≠ some t) → VRel w S μ (st0.h.length - 1) (a.tmps.getD t undef) (look st0.s t)
 pa : ∀ (j : Nat) (o : Oper) (d : Nat), ops.toList[j]? = some o → o.dst = some d → listed.getD j false = true → KK K rec fn ops st0 j = 2 → e ≤ j → Pend w0 w S μ K.P o (a.tmps.getD d undef) (pd j)
 pinj : ∀ i j, i < ops.size → j < ops.size → listed.getD i false = true → listed.getD j false = true → KK K rec fn ops st0 i = 2 → KK K rec fn ops st0 j = 2 → e ≤ i → e ≤ j → pd i = pd j → i = j
 nt : a.tmps.size = st0.nt
 low : base ≤ w.heap.size
 defs : DefOk base w S μ a.defers
 round : ∀ l, r = some l → ∃ q : Loop, w.heap[l]? = some (.loop q)
 ev : Ev (st0.h.length - 1) w0 S0 μ0 w S μ
end
section
variable {K : Ctx} {rec : Rec} {fn : FuncId} {ops : Array Oper} {st0 : GSt} {base : Nat} {r : Option Nat} {w0 : World} {S0 : Nat → Prop} {μ0 : Mu}
variable {listed : Array Bool} {a : Act} {w w' : World} {S S' : Nat → Prop} {μ μ' : Mu} {e : Nat} {pd : Nat → Nat}
theorem SimC.step (h : SimC K rec fn ops st0 base r w0 S0 μ0 listed a w S μ e pd) (hlt : ∀ b, S b → b < w.heap.size) (he : Ev (st0.h.length - 1) w S μ w' S' μ') :
    SimC K rec fn ops st0 base r w0 S0 μ0 listed a w' S' μ' e pd :=
  { h with
    v1 := fun j o d h1 h2 h3 h4 => he.val hlt (Nat.le_refl _) (h.v1 j o d h1 h2 h3 h4)
    v0 := fun t ht => he.val hlt (Nat.le_refl _) (h.v0 t ht)
    pa := fun j o d h1 h2 h3 h4 h5 => (h.pa j o d h1 h2 h3 h4 h5).ev he
    low := Nat.le_trans h.low he.size
    defs := h.defs.ev he
    round := round_ev h.round he
    ev := h.ev.trans he }
theorem SimC.repd (h : SimC K rec fn ops st0 base r w0 S0 μ0 listed a w S μ e pd) {i : Nat} (hi : listed.getD i false = false) (b : Nat) :
    SimC K rec fn ops st0 base r w0 S0 μ0 listed a w S μ e (fun j => if j = i then b else pd j) :=
  { h with
    pa := fun j o d h1 h2 h3 h4 h5 => by
      have : j ≠ i := fun e => by rw [e, hi] at h3; cases h3
      simp only [if_neg this]
      exact h.pa j o d h1 h2 h3 h4 h5
    pinj := fun j k hj hk h1 h2 h3 h4 h5 h6 h7 => by
      have n1 : j ≠ i := fun e => by rw [e, hi] at h1; cases h1
      have n2 : k ≠ i := fun e => by rw [e, hi] at h2; cases h2
      simp only [if_neg n1, if_neg n2] at h7
      exact h.pinj j k hj hk h1 h2 h3 h4 h5 h6 h7 }
theorem toList_get {j : Nat} {o : Oper} : ops.toList[j]? = some o ↔ ops[j]? = some o := by rw [Array.getElem?_toList]
theorem ready_inv {i : Nat} (h : i ∈ Region.ready .any ops listed) (hsz : listed.size = ops.size) : listed.getD i false = false ∧ i < ops.size ∧ ∃ o, ops.toList[i]? = some o ∧ ops[i]? = some o ∧ ∀ e ∈ o.after, Region.binds .any e = true → listed.getD e.on false = true := by
 obtain ⟨h1, o, h2, h3⟩ := mem_ready.1 h
 have hi : i < ops.size := (Array.getElem?_eq_some_iff.1 h2).1
 refine ⟨?_, hi, o, toList_get.2 h2, h2, h3⟩
 rw [Array.getD_eq_getD_getElem?] at h1 ⊢
 rw [Array.getElem?_eq_getElem (by omega)] at h1 ⊢
 exact h1
theorem SimC.put (D : DrawOk K fn ops.toList (Region.before ops)) (h : SimC K rec fn ops st0 base r w0 S0 μ0 listed a w S μ e pd) {i e' : Nat} {o : Oper} (hi : i ∈ Region.ready .any ops listed) (ho : ops.toList[i]? = some o)
  (hd : ∀ d, o.dst = some d → d < st0.nt) (u : Value) (hu : KK K rec fn ops st0 i ≠ 2 → VRel w S μ (st0.h.length - 1) u (VV K rec fn ops st0 i))
  (ha : KK K rec fn ops st0 i = 2 → Pend w0 w S μ K.P o u (pd i) ∧ ∀ j, j < ops.size → listed.getD j false = true → KK K rec fn ops st0 j = 2 → e ≤ j → pd j ≠ pd i)
  (he : (KK K rec fn ops st0 i ≠ 3 ∧ e' = e) ∨ (KK K rec fn ops st0 i = 3 ∧ e = i ∧ e' = i + 1)) :
  SimC K rec fn ops st0 base r w0 S0 μ0 (listed.setIfInBounds i true) (a.put o.dst u) w S μ e' pd := by
 obtain ⟨hl, hin, o', ho', _, haft⟩ := ready_inv hi h.sz
 rw [ho] at ho'; cases ho'
 have hset : ∀ j, (listed.setIfInBounds i true).getD j false = true ↔ j = i ∨ listed.getD j false = true := fun j => getD_set (by rw [h.sz]; exact hin)
 have hpast : ∀ j d (oj : Oper), ops.toList[j]? = some oj → oj.dst = some d → j ≠ i → (a.put o.dst u).tmps.getD d undef = a.tmps.getD d undef := fun j d oj hj hdj hne => by
  cases hod : o.dst with
  | none => rfl
  | some d' =>
   have : d ≠ d' := fun e => hne (dst_inj D.nodup hj ho hdj (by rw [hod, e]))
   rw [put_getD a d' u d (by rw [h.nt]; exact hd d' hod), if_neg this]
 have hee : e ≤ e' := by rcases he with ⟨_, h'⟩ | ⟨_, h1, h2⟩ <;> omega
 have hlow : KK K rec fn ops st0 i = 2 → e ≤ i := fun h2 => by
  rcases Nat.lt_or_ge i e with h' | h'
  ·have := h.al i h' h2
   rw [hl] at this; cases this
  ·exact h'
 refine ⟨by rw [Array.size_setIfInBounds]; exact h.sz, fun j oj hj hlj ed hed hb => ?_, ?_, fun j hj h3 => ?_, fun j hj h2 => ?_, fun j oj d hj hdj hlj h2 => ?_, fun t ht => ?_, fun j oj d hj hdj hlj h2 hle => ?_,
  fun j k hj hk hlj hlk h2 h2' hle hle' heq => ?_, ?_, h.low, ?_, h.round, h.ev⟩
 ·refine (hset _).2 (.inr ?_)
  rcases (hset j).1 hlj with rfl | hlj
  ·have := toList_get.2 hj
   rw [ho] at this; cases this
   exact haft ed hed hb
  ·exact h.clo j oj hj hlj ed hed hb
 ·have := h.le
  rcases he with ⟨_, h'⟩ | ⟨_, h1, h2⟩ <;> omega
 ·rw [hset j]
  rcases he with ⟨h4, h5⟩ | ⟨h4, h5, h6⟩
  ·have : j ≠ i := fun e => h4 (e ▸ h3)
   rw [h5, ← h.ww j hj h3]; simp [this]
  ·rw [h.ww j hj h3]; omega
 ·refine (hset j).2 ?_
  by_cases e1 : j = i
  ·exact .inl e1
  ·refine .inr (h.al j ?_ h2)
   rcases he with ⟨_, h'⟩ | ⟨_, h1, h2⟩ <;> omega
 ·by_cases e1 : j = i
  ·subst e1
   rw [ho] at hj; cases hj
   rw [hdj, put_getD a d u d (by rw [h.nt]; exact hd d hdj), if_pos rfl]
   refine hu fun h2' => ?_
   have := h2 h2'; have := hlow h2'
   rcases he with ⟨h4, h5⟩ | ⟨h4, h5, h6⟩
   ·omega
   ·rw [h2'] at h4; cases h4
  ·rw [hpast j d oj hj hdj e1]
   refine h.v1 j oj d hj hdj (((hset j).1 hlj).resolve_left e1) fun h2' => ?_
   have := h2 h2'
   rcases he with ⟨_, h'⟩ | ⟨_, h1, h2⟩ <;> omega
 ·have hne : o.dst ≠ some t := ht i o ho ((hset i).2 (.inl rfl))
  have : (a.put o.dst u).tmps.getD t undef = a.tmps.getD t undef := by
   cases hod : o.dst with
   | none => rfl
   | some d' =>
    have : t ≠ d' := fun e => hne (by rw [hod, e])
    rw [put_getD a d' u t (by rw [h.nt]; exact hd d' hod), if_neg this]
  rw [this]
  exact h.v0 t fun j oj hj hlj => ht j oj hj ((hset j).2 (.inr hlj))
 ·by_cases e1 : j = i
  ·subst e1
   rw [ho] at hj; cases hj
   rw [hdj, put_getD a d u d (by rw [h.nt]; exact hd d hdj), if_pos rfl]
   exact (ha h2).1
  ·rw [hpast j d oj hj hdj e1]
   exact h.pa j oj d hj hdj (((hset j).1 hlj).resolve_left e1) h2 (by omega)
 ·by_cases e1 : j = i
  ·subst e1
   by_cases e2 : k = j
   ·exact e2.symm
   ·exact absurd heq.symm ((ha h2).2 k hk (((hset k).1 hlk).resolve_left e2) h2' (by omega))
  ·by_cases e2 : k = i
   ·subst e2
    exact absurd heq ((ha h2').2 j hj (((hset j).1 hlj).resolve_left e1) h2 (by omega))
   ·exact h.pinj j k hj hk (((hset j).1 hlj).resolve_left e1) (((hset k).1 hlk).resolve_left e2) h2 h2' (by omega) (by omega) heq
 ·cases hod : o.dst with
  | none => exact h.nt
  | some d => simpa [Act.put] using h.nt
 ·have : (a.put o.dst u).defers = a.defers := by cases o.dst <;> rfl
  rw [this]; exact h.defs
theorem dk_cases {nt j : Nat} {o : Oper} (ho : ops.toList[j]? = some o) (h : StepOk K rec fn ops.toList (Region.before ops) st0 nt j o) :
  (KK K rec fn ops st0 j = 0 ∧ wantedG ops.toList (TT K rec fn ops st0 j).s o = some false ∧ VV K rec fn ops st0 j = gundef ∧ (TT K rec fn ops st0 (j + 1)).f = (TT K rec fn ops st0 j).f ∧ (TT K rec fn ops st0 (j + 1)).b = (TT K rec fn ops st0 j).b) ∨
  (KK K rec fn ops st0 j = 1 ∧ wantedG ops.toList (TT K rec fn ops st0 j).s o = some true ∧ opPure K fn o = true ∧ (∃ Hx, gop K fn o (TT K rec fn ops st0 j).s (TT K rec fn ops st0 j).b = some (VV K rec fn ops st0 j, Hx)) ∧
   (TT K rec fn ops st0 (j + 1)).f = (TT K rec fn ops st0 j).f ∧ (TT K rec fn ops st0 (j + 1)).b = (TT K rec fn ops st0 j).b) ∨
  (KK K rec fn ops st0 j = 2 ∧ wantedG ops.toList (TT K rec fn ops st0 j).s o = some true ∧ opPure K fn o = false ∧ isAlloc o = true ∧ gstep K rec fn o (TT K rec fn ops st0 j).s (TT K rec fn ops st0 j).f = some (VV K rec fn ops st0 j, (TT K rec fn ops st0 (j + 1)).f) ∧
   (TT K rec fn ops st0 (j + 1)).b = (TT K rec fn ops st0 j).b) ∨
  (KK K rec fn ops st0 j = 3 ∧ wantedG ops.toList (TT K rec fn ops st0 j).s o = some true ∧ opPure K fn o = false ∧ isAlloc o = false ∧ gstep K rec fn o (TT K rec fn ops st0 j).s (TT K rec fn ops st0 j).f = some (VV K rec fn ops st0 j, (TT K rec fn ops st0 (j + 1)).f) ∧
   (TT K rec fn ops st0 (j + 1)).b = (TT K rec fn ops st0 (j + 1)).f) := by
 have hk := h.kind
 obtain ⟨e1, -, -⟩ := dT_succ K rec fn ops.toList st0 ho hk
 have eb : (TT K rec fn ops st0 (j + 1)).b = if KK K rec fn ops st0 j = 3 then (TT K rec fn ops st0 (j + 1)).f else (TT K rec fn ops st0 j).b := by
  show (dT K rec fn ops.toList st0 (j + 1)).b = _
  rw [e1]
 unfold dkind at hk
 split at hk
 ·rename_i hw
  simp only [Option.some.injEq, Prod.mk.injEq] at hk
  obtain ⟨k1, k2, k3⟩ := hk
  refine .inl ⟨k1.symm, hw, k2.symm, k3.symm, ?_⟩
  rw [eb, if_neg (by rw [show KK K rec fn ops st0 j = 0 from k1.symm]; omega)]
 ·rename_i hw
  split at hk
  ·rename_i hp
   split at hk
   ·rename_i v Hx hop
    simp only [Option.some.injEq, Prod.mk.injEq] at hk
    obtain ⟨k1, k2, k3⟩ := hk
    refine .inr (.inl ⟨k1.symm, hw, hp, ⟨Hx, by rw [hop, k2]⟩, k3.symm, ?_⟩)
    rw [eb, if_neg (by rw [show KK K rec fn ops st0 j = 1 from k1.symm]; omega)]
   ·cases hk
  ·rename_i hp
   split at hk
   ·rename_i v H hs
    simp only [Option.some.injEq, Prod.mk.injEq] at hk
    obtain ⟨k1, k2, k3⟩ := hk
    have hp' : opPure K fn o = false := by simpa using hp
    by_cases ha : isAlloc o = true
    ·rw [if_pos ha] at k1
     refine .inr (.inr (.inl ⟨k1.symm, hw, hp', ha, by rw [hs, k2, k3], ?_⟩))
     rw [eb, if_neg (by rw [show KK K rec fn ops st0 j = 2 from k1.symm]; omega)]
    ·rw [if_neg ha] at k1
     refine .inr (.inr (.inr ⟨k1.symm, hw, hp', by simpa using ha, by rw [hs, k2, k3], ?_⟩))
     rw [eb, if_pos k1.symm]
   ·cases hk
 ·cases hk
theorem same_base (ok : ∀ (j : Nat) (o : Oper), ops.toList[j]? = some o → StepOk K rec fn ops.toList (Region.before ops) st0 st0.nt j o) {e : Nat} : ∀ i, e ≤ i → i ≤ ops.size → (∀ x, e ≤ x → x < i → KK K rec fn ops st0 x ≠ 3) →
    (TT K rec fn ops st0 i).b = (TT K rec fn ops st0 e).b := by
  intro i
  induction i with
  | zero => intro h1 _ _; have : e = 0 := by omega
            rw [this]
  | succ i ih =>
    intro h1 h2 h3
    by_cases e1 : e = i + 1
    · rw [e1]
    · have ho : ops.toList[i]? = some ops[i] := by simp [show i < ops.size by omega]
      have h4 := h3 i (by omega) (by omega)
      rw [← ih (by omega) (by omega) fun x hx hx' => h3 x hx (by omega)]
      rcases dk_cases ho (ok i _ ho) with h | h | h | h
      · exact h.2.2.2.2
      · exact h.2.2.2.2.2
      · exact h.2.2.2.2.2
      · exact absurd h.1 h4
theorem first_in (p : Nat → Prop) (e : Nat) : ∀ i, e ≤ i → (∀ x, e ≤ x → x < i → ¬ p x) ∨ ∃ x, e ≤ x ∧ x < i ∧ p x ∧ ∀ y, e ≤ y → y < x → ¬ p y := by
 intro i
 induction i with
 | zero => intro h; exact .inl fun x _ h => by omega
 | succ i ih =>
  intro h
  rcases Nat.lt_or_ge i e with h' | h'
  ·exact .inl fun x h1 h2 => by omega
  rcases ih h' with h1 | ⟨x, h1, h2, h3, h4⟩
  ·by_cases hp : p i
   ·exact .inr ⟨i, h', by omega, hp, h1⟩
   ·refine .inl fun x hx hx' => ?_
    by_cases e1 : x = i
    ·rw [e1]; exact hp
    ·exact h1 x hx (by omega)
  ·exact .inr ⟨x, h1, by omega, h3, h4⟩
theorem last_in (p : Nat → Prop) (i : Nat) : ∀ e, (∀ x, i ≤ x → x < e → ¬ p x) ∨ ∃ x, i ≤ x ∧ x < e ∧ p x ∧ ∀ y, x < y → y < e → ¬ p y := by
 intro e
 induction e with
 | zero => exact .inl fun x _ h => by omega
 | succ e ih =>
  by_cases hp : i ≤ e ∧ p e
  ·exact .inr ⟨e, hp.1, by omega, hp.2, fun y h1 h2 => by omega⟩
  ·rcases ih with h | ⟨x, h1, h2, h3, h4⟩
   ·refine .inl fun x h1 h2 hx => ?_
    by_cases e1 : x = e
    ·subst e1; exact hp ⟨h1, hx⟩
    ·exact h x h1 (by omega) hx
   ·refine .inr ⟨x, h1, by omega, h3, fun y hy hy' hpy => ?_⟩
    by_cases e1 : y = e
    ·subst e1; exact hp ⟨by omega, hpy⟩
    ·exact h4 y hy (by omega) hpy
theorem sameAt_gop {o : Oper} {s : Slots} {v : GV} {H : Heap} (h : sameAt K fn o s v H = true) : ∃ Hx, gop K fn o s H = some (v, Hx) := by
 unfold sameAt at h
 split at h
 ·rename_i v' Hx hg
  exact ⟨Hx, by rw [hg, GV.beq_eq _ _ h]⟩
 ·cases h
theorem pure_at (ok : ∀ (j : Nat) (o : Oper), ops.toList[j]? = some o → StepOk K rec fn ops.toList (Region.before ops) st0 st0.nt j o)
  (h : SimC K rec fn ops st0 base r w0 S0 μ0 listed a w S μ e pd) {i : Nat} {o : Oper} (hi : i ∈ Region.ready .any ops listed) (ho : ops.toList[i]? = some o) (hk : KK K rec fn ops st0 i = 1) :
  opPure K fn o = true ∧ gop K fn o (TT K rec fn ops st0 i).s (TT K rec fn ops st0 e).b = some (VV K rec fn ops st0 i, (TT K rec fn ops st0 e).b) := by
 obtain ⟨hl, hin, o', ho', ho2, haft⟩ := ready_inv hi h.sz
 rw [ho] at ho'; cases ho'
 have hbefore : ∀ b, ((Region.before ops).getD i 0).testBit b = true → listed.getD b false = true := fun b hb => closed_before h.clo i b hb fun o' ho' ed hed hbe => by
  rw [ho2] at ho'; cases ho'; exact haft ed hed hbe
 have hs := ok i o ho
 obtain ⟨hp, Hx, hg⟩ : opPure K fn o = true ∧ ∃ Hx, gop K fn o (TT K rec fn ops st0 i).s (TT K rec fn ops st0 i).b = some (VV K rec fn ops st0 i, Hx) := by
  rcases dk_cases ho hs with h | h | h | h
  ·have := h.1; omega
  ·exact ⟨h.2.2.1, h.2.2.2.1⟩
  ·have := h.1; omega
  ·have := h.1; omega
 refine ⟨hp, ?_⟩
 suffices hx : ∃ Hx, gop K fn o (TT K rec fn ops st0 i).s (TT K rec fn ops st0 e).b = some (VV K rec fn ops st0 i, Hx) by
  obtain ⟨Hy, hy⟩ := hx
  rw [opPure_heap K hp hy] at hy
  exact hy
 cases hR : opR o with
 | false => exact ⟨_, opPure_any K hp hR hg⟩
 | true =>
  rcases Nat.lt_or_ge i e with hie | hie
  ·rcases last_in (fun x => KK K rec fn ops st0 x = 3) (i + 1) e with h1 | ⟨x, h1, h2, h3, h4⟩
   ·have e1 := same_base ok (e := i + 1) e (by omega) h.le h1
    have e2 : (TT K rec fn ops st0 (i + 1)).b = (TT K rec fn ops st0 i).b := same_base ok (i + 1) (by omega) (by omega) fun x hx hx' h3 => by
     have : x = i := by omega
     rw [this] at h3; omega
    rw [e1, e2]; exact ⟨_, hg⟩
   ·have hle := h.le
    have hox : ops.toList[x]? = some ops[x] := by simp [show x < ops.size by omega]
    have e1 := same_base ok (e := x + 1) e (by omega) h.le fun y hy hy' => h4 y (by omega) hy'
    have e2 : (TT K rec fn ops st0 (x + 1)).b = (TT K rec fn ops st0 (x + 1)).f := by
     rcases dk_cases hox (ok x _ hox) with h | h | h | h
     ·have := h.1; omega
     ·have := h.1; omega
     ·have := h.1; omega
     ·exact h.2.2.2.2.2
    rw [e1, e2]
    rcases (ok x _ hox).wr h3 i (by omega) hk o ho hR with h5 | h5
    ·exfalso
     have hlx := (h.ww x (by omega) h3).2 h2
     have := closed_listed h.clo hlx h5
     rw [hl] at this; cases this
    ·exact sameAt_gop h5
  ·rcases first_in (fun x => KK K rec fn ops st0 x = 3) e i hie with h1 | ⟨x, h1, h2, h3, h4⟩
   ·rw [← same_base ok i hie (by omega) h1]; exact ⟨_, hg⟩
   ·rw [← same_base ok x h1 (by omega) h4]
    rcases hs.rw hk hR x h2 h3 with h5 | h5
    ·exfalso
     have := (h.ww x (by omega) h3).1 (hbefore x h5)
     omega
    ·exact sameAt_gop h5
theorem slot_at (D : DrawOk K fn ops.toList (Region.before ops)) (ok : ∀ (j : Nat) (o : Oper), ops.toList[j]? = some o → StepOk K rec fn ops.toList (Region.before ops) st0 st0.nt j o)
  (h : SimC K rec fn ops st0 base r w0 S0 μ0 listed a w S μ e pd) {i : Nat} {o : Oper} (hi : i ∈ Region.ready .any ops listed) (ho : ops.toList[i]? = some o) {t : Nat}
  (ht : t ∈ depsO K fn o ∨ t ∈ depsG ops.toList o) (hal : ∀ (j : Nat) (oj : Oper), ops.toList[j]? = some oj → oj.dst = some t → KK K rec fn ops st0 j = 2 → j < i → j < e) :
  VRel w S μ (st0.h.length - 1) (a.tmps.getD t undef) (look (TT K rec fn ops st0 i).s t) := by
 obtain ⟨hl, hin, o', ho', ho2, haft⟩ := ready_inv hi h.sz
 rw [ho] at ho'; cases ho'
 have hbefore : ∀ b, ((Region.before ops).getD i 0).testBit b = true → listed.getD b false = true := fun b hb => closed_before h.clo i b hb fun o' ho' ed hed hbe => by
  rw [ho2] at ho'; cases ho'; exact haft ed hed hbe
 rcases look_dT K rec fn ops.toList (Region.before ops) st0 st0.nt ok D.nodup i t (by simp; omega) with ⟨j, oj, h1, h2, h3, h4⟩ | ⟨h1, h2⟩
 ·show VRel w S μ _ _ (look (dT K rec fn ops.toList st0 i).s t)
  rw [h4]
  rcases D.dep j i oj o t h2 ho h3 ht with h5 | ⟨h5, h6⟩ | ⟨h5, h6⟩
  ·omega
  ·exact h.v1 j oj t h2 h3 (hbefore j h6) fun hk => hal j oj h2 h3 hk h1
  ·omega
 ·show VRel w S μ _ _ (look (dT K rec fn ops.toList st0 i).s t)
  rw [h2]
  refine h.v0 t fun j oj hj hlj hdj => ?_
  rcases Nat.lt_or_ge j i with h3 | h3
  ·exact h1 j oj h3 hj hdj
  ·rcases D.dep j i oj o t hj ho hdj ht with h5 | ⟨h5, h6⟩ | ⟨h5, h6⟩
   ·subst h5; rw [hl] at hlj; cases hlj
   ·omega
   ·have := closed_listed h.clo hlj h6
    rw [hl] at this; cases this
theorem gnewE_box {K : Ctx} {H H' : Heap} {t d : Nat} {cs : List GV} {nm : Nm} (h : gnewE K H (H.length - 1) t d (.box cs) = some (nm, H')) : nm.1 = H.length - 1 ∧ nm.1 < H.length ∧ H.get nm = none ∧ H' = H.set nm (.box cs) ∧ tyE nm t = t := by
 unfold gnewE at h
 split at h
 ·obtain ⟨rfl, hl, hg, rfl, ht⟩ := gnewT_some h
  exact ⟨rfl, hl, hg, rfl, ht t⟩
 ·have ht := gnewAt_ty h
  obtain ⟨rfl, hl, hg, rfl⟩ := gnewAt_some h
  exact ⟨rfl, hl, hg, rfl, tyE_low (by simpa [tyOk] using ht)⟩
theorem adopt_one (ok : ∀ (j : Nat) (o : Oper), ops.toList[j]? = some o → StepOk K rec fn ops.toList (Region.before ops) st0 st0.nt j o)
  (h : SimC K rec fn ops st0 base r w0 S0 μ0 listed a w S μ e pd) (hH : HRel w S μ (TT K rec fn ops st0 e).f) (hlen : (TT K rec fn ops st0 e).f.length = st0.h.length) (hpos : 0 < st0.h.length) (he : e < ops.size)
  (h3 : KK K rec fn ops st0 e ≠ 3) (h2 : KK K rec fn ops st0 e = 2 → listed.getD e false = true) :
  ∃ μ', SimC K rec fn ops st0 base r w0 S0 μ0 listed a w S μ' (e + 1) pd ∧ HRel w S μ' (TT K rec fn ops st0 (e + 1)).f ∧ (TT K rec fn ops st0 (e + 1)).f.length = st0.h.length := by
 have ho : ops.toList[e]? = some ops[e] := by simp [he]
 have go : ∀ μ', (KK K rec fn ops st0 e = 2 → ∀ d, ops[e].dst = some d → VRel w S μ' (st0.h.length - 1) (a.tmps.getD d undef) (VV K rec fn ops st0 e)) →
   (∀ n t b, μ n t = some b → μ' n t = some b) → (∀ j, e < j → j < ops.size → listed.getD j false = true → KK K rec fn ops st0 j = 2 → ∀ nm t, μ' nm t ≠ some (pd j)) →
   DefOk base w S μ' a.defers → Ev (st0.h.length - 1) w0 S0 μ0 w S μ' → SimC K rec fn ops st0 base r w0 S0 μ0 listed a w S μ' (e + 1) pd := by
  intro μ' hv hm hpd hdef hev
  have hmono : ∀ {v : Value} {g : GV}, VRel w S μ (st0.h.length - 1) v g → VRel w S μ' (st0.h.length - 1) v g := fun hv => hv.mono (fun _ h => h) (fun _ _ => rfl) (fun _ _ h => h) (fun n t b _ h => hm n t b h) (Nat.le_refl _)
  refine { h with
   le := he
   ww := fun j hj hj3 => by
    rw [h.ww j hj hj3]
    have : j ≠ e := fun e1 => h3 (e1 ▸ hj3)
    omega
   al := fun j hj hj2 => by
    by_cases e1 : j = e
    ·rw [e1]; exact h2 (e1 ▸ hj2)
    ·exact h.al j (by omega) hj2
   v1 := fun j o d hj hd hl hk => by
    by_cases e1 : j = e ∧ KK K rec fn ops st0 j = 2
    ·obtain ⟨e1, e2⟩ := e1
     subst e1
     rw [ho] at hj; cases hj
     exact hv e2 d hd
    ·refine hmono (h.v1 j o d hj hd hl fun hk' => ?_)
     have := hk hk'
     have : j ≠ e := fun e2 => e1 ⟨e2, hk'⟩
     omega
   v0 := fun t ht => hmono (h.v0 t ht)
   pa := fun j o d hj hd hl hk hle => by
    obtain ⟨p1, p2, p3, p4, p5, p6⟩ := h.pa j o d hj hd hl hk (by omega)
    have hjs : j < ops.size := by have := (List.getElem?_eq_some_iff.1 hj).1; simpa using this
    exact ⟨p1, p2, p3, p4, hpd j (by omega) hjs hl hk, p6⟩
   pinj := fun i j hi hj hli hlj hki hkj hei hej => h.pinj i j hi hj hli hlj hki hkj (by omega) (by omega)
   defs := hdef
   ev := hev }
 rcases dk_cases ho (ok e _ ho) with q | q | q | q
 ·refine ⟨μ, go μ (fun h => by have := q.1; omega) (fun _ _ _ h => h) (fun j h1 h2 h3 h4 => ?_) h.defs h.ev, by rw [q.2.2.2.1]; exact hH, by rw [q.2.2.2.1]; exact hlen⟩
  have hoj : ops.toList[j]? = some ops[j] := by simp [h2]
  obtain ⟨d, t, hd, _⟩ : ∃ d t, ops[j].dst = some d ∧ ops[j].op = .alloc t := by
   rcases dk_cases hoj (ok j _ hoj) with q | q | q | q
   ·have := q.1; omega
   ·have := q.1; omega
   ·obtain ⟨d, t, h1, h2, _⟩ := isAlloc_dst q.2.2.2.1; exact ⟨d, t, h1, h2⟩
   ·have := q.1; omega
  exact (h.pa j _ d hoj hd h3 h4 (by omega)).2.2.2.2.1
 ·refine ⟨μ, go μ (fun h => by have := q.1; omega) (fun _ _ _ h => h) (fun j h1 h2 h3 h4 => ?_) h.defs h.ev, by rw [q.2.2.2.2.1]; exact hH, by rw [q.2.2.2.2.1]; exact hlen⟩
  have hoj : ops.toList[j]? = some ops[j] := by simp [h2]
  obtain ⟨d, t, hd, _⟩ : ∃ d t, ops[j].dst = some d ∧ ops[j].op = .alloc t := by
   rcases dk_cases hoj (ok j _ hoj) with q | q | q | q
   ·have := q.1; omega
   ·have := q.1; omega
   ·obtain ⟨d, t, h1, h2, _⟩ := isAlloc_dst q.2.2.2.1; exact ⟨d, t, h1, h2⟩
   ·have := q.1; omega
  exact (h.pa j _ d hoj hd h3 h4 (by omega)).2.2.2.2.1
 ·obtain ⟨q1, q2, q3, q4, q5, q6⟩ := q
  obtain ⟨d, ty, hd, hop, _⟩ := isAlloc_dst q4
  obtain ⟨p1, p2, p3, p4, p5, ty', v, cs, p6, p7, p8, p9⟩ := h.pa e _ d ho hd (h2 q1) q1 (Nat.le_refl _)
  have hgo : goCalls ops[e] = none := by unfold goCalls; rw [hop]
  unfold gstep at q5
  rw [hgo] at q5
  simp only at q5
  have hty : ty = ty' := by rw [hop] at p6; cases p6; rfl
  subst hty
  unfold gop at q5
  rw [hop] at q5
  simp only [hd, p7, p8] at q5
  cases hnew : gnewE K (TT K rec fn ops st0 e).f ((TT K rec fn ops st0 e).f.length - 1) ty d (.box cs) with
  | none => rw [hnew] at q5; cases q5
  | some x =>
   obtain ⟨nm, H1⟩ := x
   rw [hnew] at q5
   simp only [Option.some.injEq, Prod.mk.injEq] at q5
   obtain ⟨q5, q7⟩ := q5
   obtain ⟨g1, g2, g3, rfl, gt⟩ := gnewE_box hnew
   have hno : ∀ t c, μ nm t ≠ some c := fun t c hc => by
    obtain ⟨y, hy⟩ := hH.bnd _ _ _ hc; rw [g3] at hy; cases hy
   have hA := hH.adopt g3 g2 (b := pd e) p3 p5 (x := .box cs) ⟨pd e, v.cells, ty, Mu.upd_self _ _ _ _, p4, by rw [gt]; exact p9, (cellsO_rel (ofConst_rel v) p8)⟩
   refine ⟨_, go _ (fun _ d' hd' => ?_) (fun n t b hb => noNew hH g3 _ _ n t b hb) (fun j h1 h2' h3' h4' nm' t hm => ?_) ⟨fun dd hdd => ?_, h.defs.apart⟩ (h.ev.adopt hno p2), by rw [← q7]; exact hA, by rw [← q7, Heap.length_set]; exact hlen⟩
   ·rw [hd] at hd'; cases hd'
    rw [p1, ← q5]
    exact .bptr _ _ _ (by rw [g1, hlen]; omega) (Mu.upd_self _ _ _ _)
   ·have hoj : ops.toList[j]? = some ops[j] := by simp [h2']
    obtain ⟨dj, _, hdj, _⟩ : ∃ d t, ops[j].dst = some d ∧ ops[j].op = .alloc t := by
     rcases dk_cases hoj (ok j _ hoj) with q | q | q | q
     ·have := q.1; omega
     ·have := q.1; omega
     ·obtain ⟨d, t, h1, h2, _⟩ := isAlloc_dst q.2.2.2.1; exact ⟨d, t, h1, h2⟩
     ·have := q.1; omega
    have hP := h.pa j _ dj hoj hdj h3' h4' (by omega)
    by_cases en : nm' = nm
    ·subst en
     by_cases et : t = 0
     ·subst et; rw [Mu.upd_self] at hm
      have : pd e = pd j := by simpa using hm
      have := h.pinj e j he h2' (h2 q1) h3' q1 h4' (Nat.le_refl _) (by omega) this
      omega
     ·rw [Mu.upd_top _ _ _ et] at hm; exact hno _ _ hm
    ·rw [Mu.upd_other _ _ _ _ en] at hm; exact hP.2.2.2.2.1 _ _ hm
   ·obtain ⟨q, k1, k2, k3, k4, k5⟩ := h.defs.each dd hdd
    refine ⟨q, k1, k2, k3, k4, fun nm' t hm => ?_⟩
    by_cases en : nm' = nm
    ·subst en
     by_cases et : t = 0
     ·subst et; rw [Mu.upd_self] at hm
      have : pd e = q := by simpa using hm
      rw [this, k3] at p9; cases p9
     ·rw [Mu.upd_top _ _ _ et] at hm; exact hno _ _ hm
    ·rw [Mu.upd_other _ _ _ _ en] at hm; exact k5 _ _ hm
 ·exact absurd q.1 h3
theorem adopt_all (ok : ∀ (j : Nat) (o : Oper), ops.toList[j]? = some o → StepOk K rec fn ops.toList (Region.before ops) st0 st0.nt j o) (hpos : 0 < st0.h.length) : ∀ (n i e : Nat) (μ : Mu), i - e = n → e ≤ i → i ≤ ops.size →
    SimC K rec fn ops st0 base r w0 S0 μ0 listed a w S μ e pd → HRel w S μ (TT K rec fn ops st0 e).f → (TT K rec fn ops st0 e).f.length = st0.h.length →
    (∀ x, e ≤ x → x < i → KK K rec fn ops st0 x ≠ 3 ∧ (KK K rec fn ops st0 x = 2 → listed.getD x false = true)) →
    ∃ μ', SimC K rec fn ops st0 base r w0 S0 μ0 listed a w S μ' i pd ∧ HRel w S μ' (TT K rec fn ops st0 i).f ∧ (TT K rec fn ops st0 i).f.length = st0.h.length := by
  intro n
  induction n with
  | zero => intro i e μ h1 h2 h3 h hH hl _
            have : e = i := by omega
            subst this; exact ⟨μ, h, hH, hl⟩
  | succ n ih =>
    intro i e μ h1 h2 h3 h hH hl hx
    obtain ⟨g1, g2⟩ := hx e (Nat.le_refl _) (by omega)
    obtain ⟨μ1, k1, k2, k3⟩ := adopt_one ok h hH hl hpos (by omega) g1 g2
    exact ih i (e + 1) μ1 (by omega) (by omega) h3 k1 k2 k3 fun x hx1 hx2 => hx x (by omega) hx2
end
end
section
section
variable {K : Ctx} {rec : Rec} {fn : FuncId} {ops : Array Oper} {st0 : GSt} {base : Nat} {r : Option Nat} {w0 : World} {S0 : Nat → Prop} {μ0 : Mu}
variable {listed : Array Bool} {a : Act} {w w' : World} {S S' : Nat → Prop} {μ μ' : Mu} {e : Nat} {pd : Nat → Nat}
theorem alloc_run {P : Program} {o : Oper} {ty : TypeId} {v : Value} (hop : o.op = .alloc ty) (hz : tzero P ty = some (ofConst v)) (w : World) :
  ∃ v', (execOp a.eval o).run P w = .ok (.value (.pointer (some ⟨w.heap.size, 0, none⟩))) (w.alloc (.cells v'.cells ty)) ∧ tzero P ty = some (ofConst v') := by
 obtain ⟨v', h1, h2⟩ := r_zero (P := P) w hz
 refine ⟨v', ?_, by rw [hz, h2]⟩
 obtain ⟨dst, op, type, pos, after, guard⟩ := o
 simp only at hop; subst hop
 simp [execOp, Instr.alloc, h1, newVar, newRow]
theorem alloc_shape {s : Slots} {H H' : Heap} {v : GV} {o : Oper} (ha : isAlloc o = true) (h : gstep K rec fn o s H = some (v, H')) :
  ∃ d ty z cs, o.dst = some d ∧ o.op = .alloc ty ∧ o.guard = none ∧ tzero K.P ty = some (ofConst z) ∧ cellsO (ofConst z) = some cs := by
 obtain ⟨d, ty, h1, h2, h3⟩ := isAlloc_dst ha
 have hgo : goCalls o = none := by unfold goCalls; rw [h2]
 unfold gstep at h
 rw [hgo] at h
 simp only at h
 unfold gop at h
 rw [h2] at h
 simp only [h1] at h
 cases hz : tzero K.P ty with
 | none => rw [hz] at h; cases h
 | some z =>
  have hz' : ∃ zv, z = ofConst zv := by
   unfold tzero at hz
   split at hz
   ·split at hz
    ·rename_i zv _; exact ⟨zv, by simpa using hz.symm⟩
    ·cases hz
   ·cases hz
  obtain ⟨zv, rfl⟩ := hz'
  rw [hz] at h
  simp only at h
  cases hc : cellsO (ofConst zv) with
  | none => rw [hc] at h; cases h
  | some cs => exact ⟨d, ty, zv, cs, h1, h2, h3, hz, hc⟩
theorem wpOp_of {i : Nat} {o : Oper} {Kn : Act → World → Prop} {Q : Exit → Act → World → Prop} {P : Program} (ho : ops[i]? = some o) {b : Bool} (hw : Region.wanted o (yielded ops a.tmps) = b)
  (h : if b then o.wpIn (Fw r) 0 P a w Kn Q else Kn (a.put o.dst undef) w) : wpOpIn (Fw r) 0 P ops Q i Kn a w := by
 unfold wpOpIn
 simp only [ho, hw]
 cases b with
 | true => simpa using h
 | false => simp only [Bool.false_eq_true, if_false] at h ⊢; exact ⟨fun _ _ => trivial, h⟩
theorem draw_fin (D : DrawOk K fn ops.toList (Region.before ops)) (ok : ∀ (j : Nat) (o : Oper), ops.toList[j]? = some o → StepOk K rec fn ops.toList (Region.before ops) st0 st0.nt j o) (hpos : 0 < st0.h.length)
  (h : SimC K rec fn ops st0 base r w0 S0 μ0 listed a w S μ e pd) (hH : HRel w S μ (TT K rec fn ops st0 e).f) (hlen : (TT K rec fn ops st0 e).f.length = st0.h.length) (hall : ∀ j, j < ops.size → listed.getD j false = true)
  {st' : GSt} (h1 : st'.s = (TT K rec fn ops st0 ops.size).s) (h2 : st'.h = (TT K rec fn ops st0 ops.size).f) (h3 : st'.nt = st0.nt) : Post base r st0 w0 S0 μ0 .normal st' .normal a w := by
 obtain ⟨μ', k1, k2, k3⟩ := adopt_all ok hpos _ ops.size e μ rfl h.le (Nat.le_refl _) h hH hlen fun x hx hx2 => by
  refine ⟨fun h4 => ?_, fun _ => hall x hx2⟩
  have := (h.ww x hx2 h4).1 (hall x hx2)
  omega
 refine ⟨rfl, by rw [h2, k3], h3, S, μ', ⟨by rw [h2]; exact k2, fun t => ?_, by rw [h3]; exact k1.nt, by rw [h2, k3]; exact hpos, k1.low, k1.defs, k1.round⟩, k1.ev.level (by omega)⟩
 rw [h2, k3, h1]
 rcases look_dT K rec fn ops.toList (Region.before ops) st0 st0.nt ok D.nodup ops.size t (by simp) with ⟨j, oj, q1, q2, q3, q4⟩ | ⟨q1, q2⟩
 ·show VRel w S μ' _ _ (look (dT K rec fn ops.toList st0 ops.size).s t)
  rw [q4]
  exact k1.v1 j oj t q2 q3 (hall j q1) fun _ => q1
 ·show VRel w S μ' _ _ (look (dT K rec fn ops.toList st0 ops.size).s t)
  rw [q2]
  refine k1.v0 t fun j oj hj hlj => q1 j oj ?_ hj
  have := (List.getElem?_eq_some_iff.1 hj).1
  simpa using this
theorem draw_sim (hK : CtxOk K) (hrec : RecOk K.P rec) (D : DrawOk K fn ops.toList (Region.before ops)) (ok : ∀ (j : Nat) (o : Oper), ops.toList[j]? = some o → StepOk K rec fn ops.toList (Region.before ops) st0 st0.nt j o) (hpos : 0 < st0.h.length)
  {st' : GSt} (z1 : st'.s = (TT K rec fn ops st0 ops.size).s) (z2 : st'.h = (TT K rec fn ops st0 ops.size).f) (z3 : st'.nt = st0.nt) :
  ∀ (fuel : Nat) (listed : Array Bool) (a : Act) (w : World) (S : Nat → Prop) (μ : Mu) (e : Nat) (pd : Nat → Nat), unlisted listed ops.size ≤ fuel → SimC K rec fn ops st0 base r w0 S0 μ0 listed a w S μ e pd →
   HRel w S μ (TT K rec fn ops st0 e).f → (TT K rec fn ops st0 e).f.length = st0.h.length → (TT K rec fn ops st0 e).f = (TT K rec fn ops st0 e).b →
   wpAnyIn (Fw r) 0 K.P .any ops (Post base r st0 w0 S0 μ0 .normal st') fuel listed a w := by
 intro fuel
 induction fuel with
 | zero =>
  intro listed a w S μ e pd hu h hH hlen hfb
  have hall := unlisted_zero (Nat.le_zero.1 hu)
  refine ⟨?_, draw_fin D ok hpos h hH hlen hall z1 z2 z3⟩
  cases hr : Region.ready .any ops listed with
  | nil => rfl
  | cons i l =>
   obtain ⟨g1, g2, _⟩ := ready_inv (i := i) (by rw [hr]; exact List.mem_cons_self ..) h.sz
   rw [hall i g2] at g1; cases g1
 | succ fuel ih =>
  intro listed a w S μ e pd hu h hH hlen hfb
  refine ⟨fun hr => draw_fin D ok hpos h hH hlen (all_listed h.sz (fun j o hj => D.back j o (toList_get.2 hj)) hr) z1 z2 z3, fun i hi => ?_⟩
  obtain ⟨hl, hin, o, ho, ho2, haft⟩ := ready_inv hi h.sz
  have hbefore : ∀ b, ((Region.before ops).getD i 0).testBit b = true → listed.getD b false = true := fun b hb => closed_before h.clo i b hb fun o' ho' ed hed hbe => by
   rw [ho2] at ho'; cases ho'; exact haft ed hed hbe
  have hs := ok i o ho
  have hul := unlisted_lt hin h.sz hl
  have hguard : ∀ b, wantedG ops.toList (TT K rec fn ops st0 i).s o = some b → Region.wanted o (yielded ops a.tmps) = b := fun b hb => by
   have h1 : ∀ t, t ∈ depsG ops.toList o → VRel w S μ (st0.h.length - 1) (a.tmps.getD t undef) (look (TT K rec fn ops st0 i).s t) := fun t ht => by
    refine slot_at D ok h hi ho (.inr ht) fun j oj hj hd hk hji => ?_
    exfalso
    have hja : isAlloc oj = true := by
     rcases dk_cases hj (ok j _ hj) with q | q | q | q
     ·have := q.1; omega
     ·have := q.1; omega
     ·exact q.2.2.2.1
     ·have := q.1; omega
    exact D.newG j i oj o t hj ho hd hja ht
   have h2 := keep_rel (depsG ops.toList o) h1
   have h3 : wantedG ops.toList (keepSlots (TT K rec fn ops st0 i).s (depsG ops.toList o)) o = some b := by
    rw [← hb]; exact wantedG_congr fun t ht => look_keepSlots _ t _ ht
   have := wanted_ok h2 h3
   simpa using this
  rcases dk_cases ho hs with q | q | q | q
  ·
   refine wpOp_of ho2 (hguard false q.2.1) ?_
   simp only [Bool.false_eq_true, if_false]
   have h' := SimC.put D h hi ho hs.dst undef (e' := e) (fun _ => by rw [q.2.2.1]; exact undef_rel) (fun h2 => by have := q.1; omega) (.inl ⟨by rw [q.1]; omega, rfl⟩)
   exact ih _ _ w S μ e pd (by omega) h' hH hlen hfb
  ·
   refine wpOp_of ho2 (hguard true q.2.1) ?_
   simp only [if_true]
   obtain ⟨hp, hg⟩ := pure_at ok h hi ho q.1
   rw [← hfb] at hg
   have hslots := keep_rel (a := a) (w := w) (S := S) (μ := μ) (k := st0.h.length - 1) (s := (TT K rec fn ops st0 i).s) (depsO K fn o) fun t ht => slot_at D ok h hi ho (.inl ht) fun j oj hj hd hk hji => by
    exfalso
    have hja : isAlloc oj = true := by
     rcases dk_cases hj (ok j _ hj) with q | q | q | q
     ·have := q.1; omega
     ·have := q.1; omega
     ·exact q.2.2.2.1
     ·have := q.1; omega
    have := (D.newO j i oj o t hj ho hd hja ht).1
    rw [hp] at this; cases this
   have hstep : gstep K rec fn o (keepSlots (TT K rec fn ops st0 i).s (depsO K fn o)) (TT K rec fn ops st0 e).f = some (VV K rec fn ops st0 i, (TT K rec fn ops st0 e).f) := by
    rw [gstep_congr K (s' := (TT K rec fn ops st0 i).s) fun t ht => look_keepSlots _ t _ ht]
    exact gstep_pure hK.tab hp (by rw [hlen]; exact hpos) hg
   rw [← hlen] at hslots
   refine step_ok K hK hrec hH (by rw [hlen]; exact hpos) hslots hstep fun u w' S' μ' hv hh he hl' => ?_
   rw [hlen] at he hv
   have h1 := h.step hH.slt he
   have h' := SimC.put D h1 hi ho hs.dst u (e' := e) (fun _ => hv) (fun h2 => by have := q.1; omega) (.inl ⟨by rw [q.1]; omega, rfl⟩)
   exact ih _ _ w' S' μ' e pd (by omega) h' hh hlen hfb
  ·
   obtain ⟨q1, q2, q3, q4, q5, q6⟩ := q
   refine wpOp_of ho2 (hguard true q2) ?_
   simp only [if_true]
   obtain ⟨d, ty, z, cs, hd, hop, hgu, hz, hc⟩ := alloc_shape q4 q5
   refine ⟨fun _ _ => trivial, ?_⟩
   rw [Oper.semAt_eq _ _ _ (fun c e => by rw [hop] at e; cases e)]
   obtain ⟨v', hrun, hz'⟩ := alloc_run (a := a) (P := K.P) hop hz w
   rw [hrun, Oper.uponIn_value]
   obtain ⟨s1, s2⟩ := hH.skip (st0.h.length - 1) (.cells v'.cells ty)
   have h1 := (h.step hH.slt s2).repd hl w.heap.size
   have hc' : cellsO (ofConst v') = some cs := by
    rw [hz] at hz'
    simp only [Option.some.injEq] at hz'
    rw [← hz']; exact hc
   have h' := SimC.put D h1 hi ho hs.dst (.pointer (some ⟨w.heap.size, 0, none⟩)) (e' := e) (fun h2 => absurd q1 h2) (fun _ => ⟨⟨by simp, by simp only [if_true]; exact h.ev.size, by simp only [if_true]; rw [alloc_size]; omega,
     by simp only [if_true]; exact fun hs => by have := hH.slt _ hs; omega, by simp only [if_true]; exact fun nm t hm => by have := hH.lt _ _ _ hm; omega, ty, v', cs, hop, hz', hc', by simp only [if_true]; exact alloc_new _ _⟩,
     fun j hj hlj hk hle => by
      have hne : j ≠ i := fun e1 => by rw [e1, hl] at hlj; cases hlj
      simp only [if_true, if_neg hne]
      have hoj : ops.toList[j]? = some ops[j] := by simp [hj]
      obtain ⟨dj, hdj⟩ : ∃ d, ops[j].dst = some d := by
       rcases dk_cases hoj (ok j _ hoj) with q | q | q | q
       ·have := q.1; omega
       ·have := q.1; omega
       ·obtain ⟨d, t, h1, h2, _⟩ := isAlloc_dst q.2.2.2.1; exact ⟨d, h1⟩
       ·have := q.1; omega
      have := (h.pa j _ dj hoj hdj hlj hk hle).2.2.1
      omega⟩) (.inl ⟨by rw [q1]; omega, rfl⟩)
   exact ih _ _ _ S μ e _ (by omega) h' s1 hlen hfb
  ·
   obtain ⟨q1, q2, q3, q4, q5, q6⟩ := q
   refine wpOp_of ho2 (hguard true q2) ?_
   simp only [if_true]
   have hei : e ≤ i := by
    rcases Nat.lt_or_ge i e with h' | h'
    ·have := (h.ww i hin q1).2 h'
     rw [hl] at this; cases this
    ·exact h'
   obtain ⟨μ1, k1, k2, k3⟩ := adopt_all ok hpos _ i e μ rfl hei (by omega) h hH hlen fun x hx hx2 => by
    have hox : ops.toList[x]? = some ops[x] := by simp [show x < ops.size by omega]
    refine ⟨fun h3 => ?_, fun h2 => ?_⟩
    ·have := (h.ww x (by omega) h3).1 (hbefore x (hs.ww q1 x hx2 h3))
     omega
    ·have hxa : isAlloc ops[x] = true := by
      rcases dk_cases hox (ok x _ hox) with q | q | q | q
      ·have := q.1; omega
      ·have := q.1; omega
      ·exact q.2.2.2.1
      ·have := q.1; omega
     exact hbefore x (D.newW x i _ o hox ho hxa q3 q4 hx2)
   have hslots := keep_rel (a := a) (w := w) (S := S) (μ := μ1) (k := st0.h.length - 1) (s := (TT K rec fn ops st0 i).s) (depsO K fn o) fun t ht => slot_at D ok k1 hi ho (.inl ht) fun j oj hj hd hk hji => hji
   have hstep : gstep K rec fn o (keepSlots (TT K rec fn ops st0 i).s (depsO K fn o)) (TT K rec fn ops st0 i).f = some (VV K rec fn ops st0 i, (TT K rec fn ops st0 (i + 1)).f) := by
    rw [gstep_congr K (s' := (TT K rec fn ops st0 i).s) fun t ht => look_keepSlots _ t _ ht]
    exact q5
   rw [← k3] at hslots
   refine step_ok K hK hrec k2 (by rw [k3]; exact hpos) hslots hstep fun u w' S' μ' hv hh he hl' => ?_
   rw [k3] at he
   rw [hl', k3] at hv
   have h1 := k1.step k2.slt he
   have h' := SimC.put D h1 hi ho hs.dst u (e' := i + 1) (fun _ => hv) (fun h2 => by rw [q1] at h2; cases h2) (.inr ⟨q1, rfl, rfl⟩)
   exact ih _ _ w' S' μ' (i + 1) pd (by omega) h' hh (by rw [hl', k3]) q6.symm
theorem HRel.draw {H : Heap} (h : HRel w S μ H) (n : Nat) : HRel { w with drawn := n } S μ H :=
 ⟨fun nm x hx t b hb => BlkRel.mono (w := w) (w' := { heap := w.heap, tape := w.tape, drawn := n, os := w.os, output := w.output }) (S := S) (S' := S) (μ := μ) (μ' := μ) (fun _ h => h) (fun _ _ => rfl) (fun _ _ h => h) (fun _ _ _ _ h => h) (fun _ => rfl) (fun _ _ _ => rfl) (fun _ _ _ h => h) (h.blk nm x hx t b hb), h.bnd, h.disj, h.lt, h.slt, h.glb.mono (fun _ h => h) (fun _ _ => rfl)⟩
theorem Ev.draw (ℓ n : Nat) : Ev ℓ w S μ { w with drawn := n } S μ :=
 ⟨rfl, rfl, rfl, Nat.le_refl _, fun _ h => h, fun _ _ _ => rfl, fun _ _ h => h, fun _ r h => ⟨r, h⟩, fun _ _ _ _ h => h, fun nm t _ h _ => ⟨nm, t, h⟩, fun _ h _ => .inl h⟩
end
theorem drawRule (K : Ctx) (hK : CtxOk K) : DrawRule K := by
 intro rec hrec fn id ops st e st' h base r w S μ a hst
 simp only [gbody] at h
 split at h
 ·rename_i hd
  split at h
  ·rename_i st1 hdr
   simp only [Option.some.injEq, Prod.mk.injEq] at h
   obtain ⟨rfl, rfl⟩ := h
   have D := drawOk_spec K hd
   obtain ⟨g1, g2, g3, g4⟩ := gdraw_trace K rec fn ops.toList (Region.before ops) st ops.toList 0 [] [] st.h st rfl rfl rfl rfl rfl (fun x h => by omega) (fun q h => by omega) hdr
   have hlen : ops.toList.length = ops.size := by simp
   rw [hlen] at g2 g3
   refine wpIn_region_any hK.mixed ?_
   have hE : Ev (st.h.length - 1) w S μ { w with drawn := w.drawn + 1 } S μ := Ev.draw _ _
   have hfalse : ∀ j, (Array.replicate ops.size false).getD j false = false := fun j => by
    rw [Array.getD_eq_getD_getElem?]
    by_cases hj : j < ops.size
    ·simp [hj]
    ·simp [hj]
   refine draw_sim (base := base) (r := r) (w0 := w) (S0 := S) (μ0 := μ) hK hrec D (fun j o ho => g1 j o (by omega) ho) hst.pos g2 g3 g4 ops.size (Array.replicate ops.size false) a
    { w with drawn := w.drawn + 1 } S μ 0 (fun _ => 0) ?_ ?_ ?_ ?_ ?_
   ·unfold unlisted
    refine Nat.le_trans (List.length_filter_le _ _) (by simp)
   ·refine ⟨by simp, fun j o _ hl => ?_, Nat.zero_le _, fun j _ _ => ?_, fun j h => by omega, fun j o d _ _ hl => ?_, fun t _ => ?_, fun j o d _ _ hl => ?_, fun i j _ _ hl => ?_, hst.nt, hst.low, hst.defs.ev hE, round_ev hst.round hE, hE⟩
    ·rw [hfalse] at hl; cases hl
    ·rw [hfalse]; simp
    ·rw [hfalse] at hl; cases hl
    ·exact hE.val hst.heap.slt (Nat.le_refl _) (hst.slots t)
    ·rw [hfalse] at hl; cases hl
    ·rw [hfalse] at hl; cases hl
   ·exact hst.heap.draw _
   ·rfl
   ·rfl
  ·cases h
 ·cases h
theorem gexec_sound (K : Ctx) (hK : CtxOk K) (n : Nat) : RecOk K.P (gexec K n) := gexec_ok K hK (drawRule K hK) n
end
section
section
variable (K : Ctx) {rec : Rec} {F : Nat → Rec}
def Evtl {α : Type} (F : Nat → Rec) (X : Rec → Option α) (r : α) : Prop := ∃ N, ∀ n, N ≤ n → X (F n) = some r
theorem Evtl.const {α : Type} {x : Option α} {r : α} (h : x = some r) : Evtl F (fun _ => x) r := ⟨0, fun _ _ => h⟩
def Lim (rec : Rec) (F : Nat → Rec) : Prop := ∀ fn c st r, rec fn c st = some r → Evtl F (fun rec => rec fn c st) r
variable (hF : Lim rec F)
include hF
theorem gcall0_lim {f : FuncId} {args : List GV} {c : Nat} {H : Heap} {r : GV × Heap} (h : gcall0 K rec f args c H = some r) : Evtl F (fun rec => gcall0 K rec f args c H) r := by
 unfold gcall0 at h
 split at h
 ·cases h
 ·rename_i fn hfn
  split at h
  ·cases h
  ·rename_i code hcode
   split at h
   ·cases h
   ·rename_i hc
    cases hr : rec f code ⟨slotsOf 0 (args.map canon), [] :: H, fn.ntmps⟩ with
    | none => rw [hr] at h; cases h
    | some x =>
     rw [hr] at h
     obtain ⟨N, hN⟩ := hF _ _ _ _ hr
     refine ⟨N, fun n hn => ?_⟩
     have := hN n hn
     simp only at this
     simp only [gcall0, hfn, hcode, hc, if_false, this]
     exact h
theorem gborrow_lim {f : FuncId} {args : List GV} {c : Nat} {H : Heap} {r : GV × Heap} (h : gborrow K rec f args c H = some r) : Evtl F (fun rec => gborrow K rec f args c H) r := by
 unfold gborrow at h
 split at h
 ·cases h
 ·rename_i hn
  split at h
  ·rename_i v H0 hg
   obtain ⟨N, hN⟩ := gcall0_lim K hF hg
   refine ⟨N, fun n hn' => ?_⟩
   have := hN n hn'
   simp only at this
   simp only [gborrow, hn, this]
   exact h
  ·cases h
 ·rename_i nm hn
  split at h
  ·rename_i cs hbx
   split at h
   ·cases h
   ·rename_i hcs
    split at h
    ·rename_i v H0 hg
     obtain ⟨N, hN⟩ := gcall0_lim K hF hg
     refine ⟨N, fun n hn' => ?_⟩
     have := hN n hn'
     simp only at this
     simp only [gborrow, hn, hbx, hcs, if_false, this]
     exact h
    ·cases h
  ·cases h
theorem gcallN_lim {f : FuncId} {args : List GV} {c : Nat} {H : Heap} {r : GV × Heap} (h : gcallN K rec f args c H = some r) : Evtl F (fun rec => gcallN K rec f args c H) r := by
 unfold gcallN at h ⊢
 split at h
 ·rename_i hc
  simp only [hc, if_true]
  exact .const h
 ·rename_i hc
  simp only [hc, if_false]
  split at h
  ·rename_i hb
   simp only [hb, if_true]
   exact gborrow_lim K hF h
  ·rename_i hb
   simp only [hb, if_false]
   split at h
   ·rename_i hf
    simp only [hf, if_true]
    exact gcall0_lim K hF h
   ·rename_i hf
    simp only [hf, if_false]
    exact gcall0_lim K hF h
theorem gcall_lim {f : FuncId} {args : List GV} {c : Nat} {H : Heap} {r : GV × Heap} (h : gcall K rec f args c H = some r) : Evtl F (fun rec => gcall K rec f args c H) r := by
 unfold gcall at h ⊢
 by_cases hc : K.cln f = true
 ·rw [if_pos hc] at h
  simp only [hc, if_true]
  cases he : K.ext f with
  | some e => rw [he] at h; exact .const h
  | none => rw [he] at h; exact gcallN_lim K hF h
 ·rw [if_neg hc] at h
  simp only [hc, if_false]
  exact gcallN_lim K hF h
theorem ground_lim {nm : Nm} {args : List GV} {H : Heap} {r : GV × Heap} (h : ground rec nm args H = some r) : Evtl F (fun rec => ground rec nm args H) r := by
 unfold ground at h
 split at h
 ·rename_i l hl
  split at h
  ·rename_i hs
   split at h
   ·rename_i s hp
    split at h
    ·rename_i st ha
     obtain ⟨N1, h1⟩ := hF _ _ _ _ ha
     split at h
     ·rename_i fr H1 hst
      split at h
      ·rename_i l1 hl1
       split at h
       ·cases h
       ·rename_i hl1s
        cases hb : rec l.fn l.body ⟨st.s, fr :: Heap.set H1 nm (.loop { l1 with state := .busy }), l.nt⟩ with
        | none => rw [hb] at h; cases h
        | some x =>
         rw [hb] at h
         obtain ⟨N2, h2⟩ := hF _ _ _ _ hb
         refine ⟨max N1 N2, fun n hn => ?_⟩
         have e1 := h1 n (by omega)
         have e2 := h2 n (by omega)
         simp only at e1 e2
         simp only [ground, hl, hs, hp, e1, hst, hl1, hl1s, if_true, if_false, e2]
         exact h
      ·cases h
     ·cases h
    ·cases h
   ·cases h
  ·cases h
 ·cases h
theorem gcallF_lim {f : GV} {args : List GV} {c : Nat} {H : Heap} {r : GV × Heap} (h : gcallF K rec f args c H = some r) : Evtl F (fun rec => gcallF K rec f args c H) r := by
 unfold gcallF at h
 split at h
 ·exact gcall_lim K hF h
 ·exact gcall_lim K hF h
 ·cases h
theorem gcallee_lim {f : GV} {args : List GV} {c : Nat} {H : Heap} {r : GV × Heap} (h : gcallee K rec f args c H = some r) : Evtl F (fun rec => gcallee K rec f args c H) r := by
 unfold gcallee at h ⊢
 split at h
 ·exact ground_lim hF h
 ·exact gcallF_lim K hF h
theorem gstep_lim {fn : FuncId} {o : Oper} {s : Slots} {H : Heap} {r : GV × Heap} (h : gstep K rec fn o s H = some r) : Evtl F (fun rec => gstep K rec fn o s H) r := by
 unfold gstep at h ⊢
 split at h
 ·rename_i f args hg
  cases hl : K.lift fn (o.dst.getD 0) with
  | none =>
   rw [hl] at h
   simp only at h ⊢
   exact gcallee_lim K hF h
  | some t =>
   rw [hl] at h
   simp only at h ⊢
   split at h
   ·rename_i x hx
    obtain ⟨N, hN⟩ := gcallee_lim K hF hx
    refine ⟨N, fun n hn => ?_⟩
    have := hN n hn
    simp only at this
    simp only [this]
    exact h
   ·cases h
 ·exact .const h
theorem gops_lim {fn : FuncId} {all : List Oper} : ∀ {ops : List Oper} {st st' : GSt}, gops K rec fn all ops st = some st' → Evtl F (fun rec => gops K rec fn all ops st) st'
 | [], st, st', h => .const h
 | o :: r, st, st', h => by
  simp only [gops] at h
  split at h
  ·rename_i hw
   split at h
   ·rename_i st1 hp
    obtain ⟨N, hN⟩ := gops_lim h
    refine ⟨N, fun n hn => ?_⟩
    simp only [gops, hw, hp]
    exact hN n hn
   ·cases h
  ·rename_i hw
   split at h
   ·rename_i v H hs
    obtain ⟨N1, h1⟩ := gstep_lim K hF hs
    split at h
    ·rename_i st1 hp
     obtain ⟨N, hN⟩ := gops_lim h
     refine ⟨max N1 N, fun n hn => ?_⟩
     have e1 := h1 n (by omega)
     simp only at e1
     simp only [gops, hw, e1, hp]
     exact hN n (by omega)
    ·cases h
   ·cases h
  ·cases h
theorem gdraw_lim {fn : FuncId} {all : List Oper} {pre : Array Nat} : ∀ {ops : List Oper} {i : Nat} {wl : List (Nat × Heap)} {rl : List RLog} {hb : Heap} {st st' : GSt}, gdraw K rec fn all pre i ops wl rl hb st = some st' →
  Evtl F (fun rec => gdraw K rec fn all pre i ops wl rl hb st) st'
 | [], i, wl, rl, hb, st, st', h => .const h
 | o :: r, i, wl, rl, hb, st, st', h => by
  simp only [gdraw] at h
  split at h
  ·rename_i hw
   split at h
   ·rename_i st1 hp
    obtain ⟨N, hN⟩ := gdraw_lim h
    refine ⟨N, fun n hn => ?_⟩
    simp only [gdraw, hw, hp]
    exact hN n hn
   ·cases h
  ·rename_i hw
   split at h
   ·rename_i hpure
    split at h
    ·rename_i v Hx hop
     split at h
     ·rename_i st1 hput
      split at h
      ·rename_i hR
       split at h
       ·rename_i hall
        obtain ⟨N, hN⟩ := gdraw_lim h
        refine ⟨N, fun n hn => ?_⟩
        simp only [gdraw, hw, hpure, hop, hput, hR, hall, if_true]
        exact hN n hn
       ·cases h
      ·rename_i hR
       obtain ⟨N, hN⟩ := gdraw_lim h
       refine ⟨N, fun n hn => ?_⟩
       simp only [gdraw, hw, hpure, hop, hput, hR, if_true, if_false, Bool.false_eq_true]
       exact hN n hn
     ·cases h
    ·cases h
   ·rename_i hpure
    split at h
    ·rename_i v H hs
     obtain ⟨N1, h1⟩ := gstep_lim K hF hs
     split at h
     ·rename_i st1 hput
      split at h
      ·rename_i ha
       obtain ⟨N, hN⟩ := gdraw_lim h
       refine ⟨max N1 N, fun n hn => ?_⟩
       have e1 := h1 n (by omega)
       simp only at e1
       simp only [gdraw, hw, hpure, e1, hput, ha, if_true, if_false, Bool.false_eq_true]
       exact hN n (by omega)
      ·rename_i ha
       split at h
       ·rename_i hall
        obtain ⟨N, hN⟩ := gdraw_lim h
        refine ⟨max N1 N, fun n hn => ?_⟩
        have e1 := h1 n (by omega)
        simp only at e1
        simp only [gdraw, hw, hpure, e1, hput, ha, hall, if_true, if_false, Bool.false_eq_true]
        exact hN n (by omega)
       ·cases h
     ·cases h
    ·cases h
  ·cases h
theorem gbody_lim {fn : FuncId} {c : Code} {st : GSt} {r : GX × GSt} (h : gbody K rec fn c st = some r) : Evtl F (fun rec => gbody K rec fn c st) r := by
 unfold gbody at h
 split at h
 ·exact .const h
 ·exact .const h
 ·rename_i id ops
  cases hg : gops K rec fn ops.toList ops.toList st with
  | none => rw [hg] at h; cases h
  | some st1 =>
   rw [hg] at h
   obtain ⟨N, hN⟩ := gops_lim K hF hg
   refine ⟨N, fun n hn => ?_⟩
   have := hN n hn
   simp only at this
   simp only [gbody, this]
   exact h
 ·rename_i id ops
  split at h
  ·rename_i hd
   cases hg : gdraw K rec fn ops.toList (Region.before ops) 0 ops.toList [] [] st.h st with
   | none => rw [hg] at h; cases h
   | some st1 =>
    rw [hg] at h
    obtain ⟨N, hN⟩ := gdraw_lim K hF hg
    refine ⟨N, fun n hn => ?_⟩
    have := hN n hn
    simp only at this
    simp only [gbody, hd, this, if_true]
    exact h
  ·cases h
 ·rename_i a b
  cases ha : rec fn a st with
  | none => rw [ha] at h; cases h
  | some x =>
   obtain ⟨e, st1⟩ := x
   obtain ⟨N1, h1⟩ := hF _ _ _ _ ha
   rw [ha] at h
   cases e with
   | normal =>
    simp only at h
    obtain ⟨N2, h2⟩ := hF _ _ _ _ h
    refine ⟨max N1 N2, fun n hn => ?_⟩
    have e1 := h1 n (by omega)
    have e2 := h2 n (by omega)
    simp only at e1 e2
    simp only [gbody, e1, e2]
   | exit id => exact ⟨N1, fun n hn => by have e1 := h1 n hn; simp only at e1; simp only [gbody, e1]; exact h⟩
   | ret => exact ⟨N1, fun n hn => by have e1 := h1 n hn; simp only at e1; simp only [gbody, e1]; exact h⟩
 ·rename_i c x y
  split at h
  ·rename_i b hb
   cases b with
   | true =>
    obtain ⟨N, hN⟩ := hF _ _ _ _ (by simpa using h)
    exact ⟨N, fun n hn => by have := hN n hn; simp only at this; simp only [gbody, hb, if_true, this]⟩
   | false =>
    obtain ⟨N, hN⟩ := hF _ _ _ _ (by simpa using h)
    exact ⟨N, fun n hn => by have := hN n hn; simp only at this; simp only [gbody, hb, Bool.false_eq_true, if_false, this]⟩
  ·cases h
 ·rename_i id c
  cases hc : rec fn c st with
  | none => rw [hc] at h; cases h
  | some x =>
   obtain ⟨N, hN⟩ := hF _ _ _ _ hc
   rw [hc] at h
   exact ⟨N, fun n hn => by have := hN n hn; simp only at this; simp only [gbody, this]; exact h⟩
 ·rename_i c
  simp only at h
  cases hc : rec fn c { st with s := keepO ((K.ann fn (firstRegion c)).map (·.1)) st.s, h := [] :: st.h } with
  | none => rw [hc] at h; cases h
  | some x =>
   obtain ⟨e, st1⟩ := x
   obtain ⟨N1, h1⟩ := hF _ _ _ _ hc
   rw [hc] at h
   cases e with
   | normal =>
    simp only at h
    cases hs : gnext K fn c st1 with
    | none => rw [hs] at h; cases h
    | some st2 =>
     rw [hs] at h
     simp only at h
     obtain ⟨N2, h2⟩ := hF _ _ _ _ h
     refine ⟨max N1 N2, fun n hn => ?_⟩
     have e1 := h1 n (by omega)
     have e2 := h2 n (by omega)
     simp only at e1 e2
     simp only [gbody, e1, hs, e2]
   | exit id => exact ⟨N1, fun n hn => by have e1 := h1 n hn; simp only at e1; simp only [gbody, e1]; exact h⟩
   | ret => exact ⟨N1, fun n hn => by have e1 := h1 n hn; simp only at e1; simp only [gbody, e1]; exact h⟩
 ·obtain ⟨N, hN⟩ := hF _ _ _ _ h
  exact ⟨N, fun n hn => by have := hN n hn; simp only at this; simp only [gbody, this]⟩
 ·exact .const h
 ·exact .const h
 ·rename_i f ps assign body
  simp only at h
  split at h
  ·rename_i nm H hn
   cases hg : gcallF K rec (ev st.s f) [.yield nm] 0 H with
   | none => rw [hg] at h; cases h
   | some x =>
    obtain ⟨N, hN⟩ := gcallF_lim K hF hg
    rw [hg] at h
    refine ⟨N, fun n hnn => ?_⟩
    have := hN n hnn
    simp only at this
    simp only [gbody, hn, this]
    exact h
  ·cases h
 ·cases h
end
section
variable (K : Ctx)
theorem gexec_stable : ∀ m, Lim (gexec K m) (gexec K)
 | 0 => fun fn c st r h => by simp [gexec] at h
 | m + 1 => fun fn c st r h => by
  obtain ⟨N, hN⟩ := gbody_lim K (gexec_stable m) h
  refine ⟨N + 1, fun n hn => ?_⟩
  obtain ⟨k, rfl⟩ : ∃ k, n = k + 1 := ⟨n - 1, by omega⟩
  exact hN k (by omega)
open Classical in
noncomputable def geval : Rec := fun fn c st => if h : ∃ r, Evtl (gexec K) (fun rec => rec fn c st) r then some (Classical.choose h) else none
theorem geval_iff {fn : FuncId} {c : Code} {st : GSt} {r : GX × GSt} : geval K fn c st = some r ↔ Evtl (gexec K) (fun rec => rec fn c st) r := by
 unfold geval
 constructor
 ·intro h
  split at h
  ·rename_i hx
   cases h
   exact Classical.choose_spec hx
  ·cases h
 ·intro h
  have hx : ∃ r, Evtl (gexec K) (fun rec => rec fn c st) r := ⟨r, h⟩
  rw [dif_pos hx]
  obtain ⟨N1, h1⟩ := h
  obtain ⟨N2, h2⟩ := Classical.choose_spec hx
  have e1 := h1 (max N1 N2) (by omega)
  have e2 := h2 (max N1 N2) (by omega)
  rw [← e2, ← e1]
theorem geval_eq (fn : FuncId) (c : Code) (st : GSt) : geval K fn c st = gbody K (geval K) fn c st := by
 refine Option.ext fun r => ?_
 constructor
 ·intro h
  obtain ⟨N, hN⟩ := (geval_iff K).1 h
  have h1 : gbody K (gexec K N) fn c st = some r := hN (N + 1) (by omega)
  have hL : Lim (gexec K N) (fun _ => geval K) := fun fn c st r h => ⟨0, fun _ _ => (geval_iff K).2 (gexec_stable K N fn c st r h)⟩
  obtain ⟨M, h2⟩ := gbody_lim K hL h1
  exact h2 M (Nat.le_refl _)
 ·intro h
  obtain ⟨N, hN⟩ := gbody_lim K (F := gexec K) (fun fn c st r h => (geval_iff K).1 h) h
  refine (geval_iff K).2 ⟨N + 1, fun n hn => ?_⟩
  obtain ⟨k, rfl⟩ : ∃ k, n = k + 1 := ⟨n - 1, by omega⟩
  exact hN k (by omega)
theorem geval_sound (hK : CtxOk K) : RecOk K.P (geval K) := fun fn c st e st' h => by
 obtain ⟨N, hN⟩ := (geval_iff K).1 h
 exact gexec_sound K hK N fn c st e st' (hN N (Nat.le_refl _))
end
end
section
def opW (K : Ctx) (fn : FuncId) (o : Oper) : Bool := !opPure K fn o && !isAlloc o
def opRd (K : Ctx) (fn : FuncId) (o : Oper) : Bool := opPure K fn o && opR o
def statOk (K : Ctx) (fn : FuncId) (L : List (Nat × Nat)) (all : List Oper) (pre : Array Nat) : Bool :=
 all.zipIdx.all fun (oi, i) => all.zipIdx.all fun (oq, q) =>
  decide (i ≤ q) || (pre.getD i 0).testBit q ||
   ((!(opW K fn oi && opW K fn oq)) && (L.contains (i, q) || (!(opW K fn oi && opRd K fn oq) && !(opRd K fn oi && opW K fn oq))))
structure Obl where
 i : Nat
 o : Oper
 s : Slots
 v : GV
 h : Heap
section
variable (K : Ctx) (fn : FuncId)
def dstOk (nt : Nat) : Option Tmp → Prop
 | none => True
 | some d => d < nt
def WPv {α : Type} (x : Option α) (k : α → Prop) : Prop := ∃ r, x = some r ∧ k r
def wpops (all : List Oper) : List Oper → GSt → (GSt → Prop) → Prop
 | [], st, Q => Q st
 | o :: r, st, Q =>
  WPv (wantedG all st.s o) fun b =>
   if b = false then dstOk st.nt o.dst ∧ wpops all r ⟨putS st.s o.dst gundef, st.h, st.nt⟩ Q
   else WPv (gstep K (geval K) fn o st.s st.h) fun x => dstOk st.nt o.dst ∧ wpops all r ⟨putS st.s o.dst x.1, x.2, st.nt⟩ Q
def wpdraw (all : List Oper) (L : List (Nat × Nat)) : Nat → List Oper → List Obl → List (Nat × Heap) → Heap → GSt → (GSt → Prop) → Prop
 | _, [], _, _, _, st, Q => Q st
 | i, o :: r, obl, old, hb, st, Q =>
  WPv (wantedG all st.s o) fun b =>
   if b = false then dstOk st.nt o.dst ∧ wpdraw all L (i + 1) r obl old hb ⟨putS st.s o.dst gundef, st.h, st.nt⟩ Q
   else if opPure K fn o = true then
    WPv (gop K fn o st.s hb) fun x => dstOk st.nt o.dst ∧ (∀ y ∈ old, y.1 = i → y.2 = hb ∨ sameAt K fn o st.s x.1 y.2 = true) ∧
     wpdraw all L (i + 1) r ((L.filter fun p => p.2 == i).map (fun p => ⟨p.1, o, st.s, x.1, hb⟩) ++ obl) old hb ⟨putS st.s o.dst x.1, st.h, st.nt⟩ Q
   else
    WPv (gstep K (geval K) fn o st.s st.h) fun x => dstOk st.nt o.dst ∧
     if isAlloc o = true then wpdraw all L (i + 1) r obl old hb ⟨putS st.s o.dst x.1, x.2, st.nt⟩ Q
     else (∀ y ∈ obl, y.i = i → x.2 = y.h ∨ sameAt K fn y.o y.s y.v x.2 = true) ∧
      wpdraw all L (i + 1) r obl ((L.filter fun p => p.2 == i).map (fun p => (p.1, hb)) ++ old) x.2 ⟨putS st.s o.dst x.1, x.2, st.nt⟩ Q
theorem put_dst {st : GSt} {d : Option Tmp} (v : GV) (h : dstOk st.nt d) : st.put d v = some ⟨putS st.s d v, st.h, st.nt⟩ := by
 cases d with
 | none => rfl
 | some d => simp only [dstOk] at h; simp only [GSt.put, h, if_true, putS]
theorem wpops_sound {all : List Oper} {Q : GSt → Prop} : ∀ {ops : List Oper} {st : GSt}, wpops K fn all ops st Q → ∃ st', gops K (geval K) fn all ops st = some st' ∧ Q st'
 | [], st, h => ⟨st, rfl, h⟩
 | o :: r, st, h => by
  simp only [wpops] at h
  obtain ⟨b, hw, h⟩ := h
  cases b with
  | false =>
   simp only [if_true] at h
   obtain ⟨st', g1, g2⟩ := wpops_sound h.2
   exact ⟨st', by simp only [gops, hw, put_dst _ h.1]; exact g1, g2⟩
  | true =>
   simp only [Bool.true_eq_false, if_false] at h
   obtain ⟨⟨v, H⟩, hg, h1, h2⟩ := h
   obtain ⟨st', g1, g2⟩ := wpops_sound h2
   exact ⟨st', by simp only [gops, hw, hg, put_dst (st := ⟨st.s, H, st.nt⟩) v h1]; exact g1, g2⟩
theorem sameAt_of {o : Oper} {s : Slots} {v : GV} {H Hx : Heap} (h : gop K fn o s H = some (v, Hx)) : sameAt K fn o s v H = true := by
 unfold sameAt; rw [h]; simp
theorem wpdraw_sound {all : List Oper} {L : List (Nat × Nat)} {pre : Array Nat} (hst : statOk K fn L all pre = true) {Q : GSt → Prop} : ∀ (ops : List Oper) (i : Nat) (obl : List Obl) (old : List (Nat × Heap)) (wl : List (Nat × Heap)) (rl : List RLog) (hb : Heap) (st : GSt),
  all.drop i = ops →
  (∀ x ∈ wl, x.1 < i ∧ (∃ o, all[x.1]? = some o ∧ opW K fn o = true) ∧ ∀ j, (j, x.1) ∈ L → (j, x.2) ∈ old) →
  (∀ q ∈ rl, q.i < i ∧ (∃ o, all[q.i]? = some o ∧ opRd K fn o = true) ∧ (∃ h Hx, gop K fn q.o q.s h = some (q.v, Hx) ∧ ∀ j, (j, q.i) ∈ L → (⟨j, q.o, q.s, q.v, h⟩ : Obl) ∈ obl)) →
  wpdraw K fn all L i ops obl old hb st Q → ∃ st', gdraw K (geval K) fn all pre i ops wl rl hb st = some st' ∧ Q st' := by
 intro ops
 induction ops with
 | nil => intro i obl old wl rl hb st _ _ _ h; exact ⟨st, rfl, h⟩
 | cons o r ih =>
  intro i obl old wl rl hb st hd hwl hrl h
  have ho : all[i]? = some o := by
   have : (all.drop i)[0]? = some o := by rw [hd]; rfl
   rw [List.getElem?_drop] at this
   simpa using this
  have hd' : all.drop (i + 1) = r := by
   have : (all.drop i).drop 1 = r := by rw [hd]; rfl
   rwa [List.drop_drop] at this
  have hstat : ∀ q oq, q < i → all[q]? = some oq → (pre.getD i 0).testBit q = true ∨
    ((!(opW K fn o && opW K fn oq)) && (L.contains (i, q) || (!(opW K fn o && opRd K fn oq) && !(opRd K fn o && opW K fn oq)))) = true := by
   intro q oq hq hoq
   have h1 := List.all_eq_true.1 hst _ (mem_zipIdx' ho)
   have h2 := List.all_eq_true.1 h1 _ (mem_zipIdx' hoq)
   simp only [Bool.or_eq_true, decide_eq_true_eq] at h2
   rcases h2 with (h2 | h2) | h2
   ·omega
   ·exact .inl h2
   ·exact .inr h2
  simp only [wpdraw] at h
  obtain ⟨b, hw, h⟩ := h
  cases b with
  | false =>
   simp only [if_true] at h
   obtain ⟨h1, h2⟩ := h
   obtain ⟨st', g1, g2⟩ := ih (i + 1) obl old wl rl hb _ hd' (fun x hx => ⟨by have := (hwl x hx).1; omega, (hwl x hx).2⟩) (fun q hq => ⟨by have := (hrl q hq).1; omega, (hrl q hq).2⟩) h2
   exact ⟨st', by simp only [gdraw, hw, put_dst _ h1]; exact g1, g2⟩
  | true =>
   simp only [Bool.true_eq_false, if_false] at h
   by_cases hp : opPure K fn o = true
   ·rw [if_pos hp] at h
    obtain ⟨⟨v, Hx⟩, hg, h1, h2, h3⟩ := h
    simp only at h2 h3
    simp only [gdraw, hw, hp, if_true, hg, put_dst _ h1]
    have hold : ∀ x ∈ wl, opR o = true → ((pre.getD i 0).testBit x.1 || sameAt K fn o st.s v x.2) = true := by
     intro x hx hR
     obtain ⟨x1, ⟨ox, x2, x3⟩, x4⟩ := hwl x hx
     rcases hstat x.1 ox x1 x2 with h4 | h4
     ·rw [h4]; rfl
     ·have hrd : opRd K fn o = true := by unfold opRd; rw [hp, hR]; rfl
      rw [hrd, x3] at h4
      simp only [Bool.and_true, Bool.true_and, Bool.not_true, Bool.and_false, Bool.or_false, Bool.and_eq_true] at h4
      have hm : (i, x.1) ∈ L := by simpa using h4.2
      rcases h2 _ (x4 i hm) rfl with h5 | h5
      ·have : sameAt K fn o st.s v x.2 = true := by rw [h5]; exact sameAt_of K fn hg
       rw [this]; simp
      ·rw [h5]; simp
    cases hR : opR o with
    | true =>
     have hall : (wl.all fun x => (pre.getD i 0).testBit x.1 || sameAt K fn o st.s v x.2) = true := List.all_eq_true.2 fun x hx => hold x hx hR
     simp only [if_true, hall]
     refine ih (i + 1) _ old wl _ hb _ hd' (fun x hx => ⟨by have := (hwl x hx).1; omega, (hwl x hx).2⟩) (fun q hq => ?_) h3
     rcases List.mem_cons.1 hq with rfl | hq
     ·refine ⟨by simp, ⟨o, ho, by unfold opRd; rw [hp, hR]; rfl⟩, hb, Hx, hg, fun j hj => List.mem_append_left _ (List.mem_map.2 ⟨(j, i), List.mem_filter.2 ⟨hj, by simp⟩, rfl⟩)⟩
     ·obtain ⟨q1, q2, hh, Hy, q3, q4⟩ := hrl q hq
      exact ⟨by omega, q2, hh, Hy, q3, fun j hj => List.mem_append_right _ (q4 j hj)⟩
    | false =>
     simp only [Bool.false_eq_true, if_false]
     refine ih (i + 1) _ old wl rl hb _ hd' (fun x hx => ⟨by have := (hwl x hx).1; omega, (hwl x hx).2⟩) (fun q hq => ?_) h3
     obtain ⟨q1, q2, hh, Hy, q3, q4⟩ := hrl q hq
     exact ⟨by omega, q2, hh, Hy, q3, fun j hj => List.mem_append_right _ (q4 j hj)⟩
   ·rw [if_neg hp] at h
    obtain ⟨⟨v, H⟩, hg, h1, h2⟩ := h
    simp only at h2
    have hp' : opPure K fn o = false := by simpa using hp
    simp only [gdraw, hw, hp, if_false, hg, Bool.false_eq_true, put_dst (st := ⟨st.s, H, st.nt⟩) v h1]
    by_cases ha : isAlloc o = true
    ·rw [if_pos ha] at h2
     simp only [ha, if_true]
     exact ih (i + 1) obl old wl rl hb _ hd' (fun x hx => ⟨by have := (hwl x hx).1; omega, (hwl x hx).2⟩) (fun q hq => ⟨by have := (hrl q hq).1; omega, (hrl q hq).2⟩) h2
    ·rw [if_neg ha] at h2
     have ha' : isAlloc o = false := by simpa using ha
     have hW : opW K fn o = true := by unfold opW; rw [hp', ha']; rfl
     have hnR : opRd K fn o = false := by unfold opRd; rw [hp']; rfl
     obtain ⟨h3, h4⟩ := h2
     have hwl2 : (wl.all fun x => (pre.getD i 0).testBit x.1) = true := List.all_eq_true.2 fun x hx => by
      obtain ⟨x1, ⟨ox, x2, x3⟩, x4⟩ := hwl x hx
      rcases hstat x.1 ox x1 x2 with h4 | h4
      ·exact h4
      ·rw [hW, x3] at h4; simp at h4
     have hrl2 : (rl.all fun q => (pre.getD i 0).testBit q.i || sameAt K fn q.o q.s q.v H) = true := List.all_eq_true.2 fun q hq => by
      obtain ⟨q1, ⟨oq, q2, q2'⟩, hh, Hy, q3, q4⟩ := hrl q hq
      rcases hstat q.i oq q1 q2 with h4 | h4
      ·rw [h4]; rfl
      ·rw [hW, q2', hnR] at h4
       simp only [Bool.and_true, Bool.true_and, Bool.not_true, Bool.false_and, Bool.or_false, Bool.and_eq_true] at h4
       have hm : (i, q.i) ∈ L := by simpa using h4.2
       rcases h3 _ (q4 i hm) rfl with h5 | h5
       ·have : sameAt K fn q.o q.s q.v H = true := by
         simp only at h5
         rw [h5]; exact sameAt_of K fn q3
        rw [this]; simp
       ·simp only at h5; rw [h5]; simp
     simp only [ha, hwl2, hrl2, Bool.and_self, if_true, if_false, Bool.false_eq_true]
     refine ih (i + 1) obl _ _ rl H _ hd' (fun x hx => ?_) (fun q hq => ⟨by have := (hrl q hq).1; omega, (hrl q hq).2⟩) h4
     rcases List.mem_cons.1 hx with rfl | hx
     ·exact ⟨by simp, ⟨o, ho, hW⟩, fun j hj => List.mem_append_left _ (List.mem_map.2 ⟨(j, i), List.mem_filter.2 ⟨hj, by simp⟩, rfl⟩)⟩
     ·obtain ⟨x1, x2, x3⟩ := hwl x hx
      exact ⟨by omega, x2, fun j hj => List.mem_append_right _ (x3 j hj)⟩
end
def good (K : Ctx) (N : FuncId → Nat → List (Nat × Nat)) (fn : FuncId) : Code → Bool
 | .region id ops true => drawOk K fn ops.toList (Region.before ops) && statOk K fn (N fn id) ops.toList (Region.before ops)
 | .seq a b => good K N fn a && good K N fn b
 | .cond _ a b => good K N fn a && good K N fn b
 | .block _ a => good K N fn a
 | .loop a => good K N fn a
 | .scope a => good K N fn a
 | .rangeFunc _ _ a b => good K N fn a && good K N fn b
 | _ => true
section
variable (K : Ctx) (N : FuncId → Nat → List (Nat × Nat)) (fn : FuncId)
def WP (c : Code) (st : GSt) (Q : GX → GSt → Prop) : Prop := good K N fn c = true → ∃ e st', geval K fn c st = some (e, st') ∧ Q e st'
def blockQ (id : Nat) (Q : GX → GSt → Prop) (e : GX) (st : GSt) : Prop := match e with | .exit id' => if id' = id then Q .normal st else Q (.exit id') st | e => Q e st
theorem keep_clean (H : Heap) (l0 : Nat) (s : Slots) : ∀ ks, keepSlots (cleanSlots H l0 s) ks = cleanSlots H l0 (keepSlots s ks)
 | [] => rfl
 | t :: r => by
  simp only [keepSlots, cleanSlots, keep_clean H l0 s r]
  congr 2
  induction s with
  | nil => rfl
  | cons x s ih =>
   obtain ⟨d, v⟩ := x
   simp only [cleanSlots, look]
   split
   ·rfl
   ·exact ih
def loopQ (W : Slots → Heap → Nat → Prop) (ks ks2 : List Nat) (Q : GX → GSt → Prop) (e : GX) (st : GSt) : Prop :=
 match st.h with
 | fr :: H => 0 < H.length ∧ (match e with
  | .normal => W (cleanSlots (fr :: H) (H.length - 1) (keepSlots st.s ks)) H st.nt
  | e => Q e ⟨cleanSlots (fr :: H) (H.length - 1) (keepSlots st.s ks2), H, st.nt⟩)
 | [] => False
def loopQc (W : Slots → Heap → Nat → Prop) (ks ks2 : List Nat) (Q : GX → GSt → Prop) (e : GX) (st : GSt) : Prop :=
 match st.h with
 | fr :: H => 0 < H.length ∧ (match e with
  | .normal => WPv (gcol ⟨cleanSlots (fr :: H) (H.length - 1) (keepSlots st.s ks), H, st.nt⟩) fun st => W st.s st.h st.nt
  | e => Q e ⟨cleanSlots (fr :: H) (H.length - 1) (keepSlots st.s ks2), H, st.nt⟩)
 | [] => False
def WPLb (b : Bool) (c : Code) (ks ks2 : List Nat) (Q : GX → GSt → Prop) (s : Slots) (H : Heap) (nt : Nat) : Prop :=
 good K N fn c = true → K.ann fn (firstRegion c) = some (ks, ks2) → K.car fn (firstRegion c) = b → ∃ e st', (match geval K fn c ⟨s, [] :: H, nt⟩ with
  | some (.normal, st) => (match gnext K fn c st with | some st => geval K fn (.loop c) st | none => none)
  | some (e, st) => (match gscope (some ks2) st with | some st => some (e, st) | none => none)
  | none => none) = some (e, st') ∧ Q e st'
def WPL (c : Code) (ks ks2 : List Nat) (Q : GX → GSt → Prop) (s : Slots) (H : Heap) (nt : Nat) : Prop := WPLb K N fn false c ks ks2 Q s H nt
def WPLc (c : Code) (ks ks2 : List Nat) (Q : GX → GSt → Prop) (s : Slots) (H : Heap) (nt : Nat) : Prop := WPLb K N fn true c ks ks2 Q s H nt
def asB : GV → Option Bool
 | .pure (.bool b) => some b
 | _ => none
def wp : Code → GSt → (GX → GSt → Prop) → Prop
 | .skip, st, Q => Q .normal st
 | .label _, st, Q => Q .normal st
 | .exit id, st, Q => Q (.exit id) st
 | .ret, st, Q => Q .ret st
 | .region _ ops false, st, Q => wpops K fn ops.toList ops.toList st (Q .normal)
 | .region id ops true, st, Q => wpdraw K fn ops.toList (N fn id) 0 ops.toList [] [] st.h st (Q .normal)
 | .seq a b, st, Q => wp a st fun e st => match e with | .normal => wp b st Q | e => Q e st
 | .cond c x y, st, Q => WPv (asB (ev st.s c)) fun b => if b = true then wp x st Q else wp y st Q
 | .block id c, st, Q => wp c st (blockQ id Q)
 | .loop c, st, Q => WPv (K.ann fn (firstRegion c)) fun a => if K.car fn (firstRegion c) = true then WPLc K N fn c a.1 a.2 Q (keepSlots st.s a.1) st.h st.nt else WPL K N fn c a.1 a.2 Q (keepSlots st.s a.1) st.h st.nt
 | .rangeFunc f ps assign body, st, Q => WP K N fn (.rangeFunc f ps assign body) st Q
 | .scope c, st, Q => wp c st Q
 | _, _, _ => False
theorem wp_sound : ∀ (c : Code) {st : GSt} {Q : GX → GSt → Prop}, wp K N fn c st Q → WP K N fn c st Q
 | .skip, st, Q, h => fun _ => ⟨_, _, by rw [geval_eq]; rfl, h⟩
 | .label _, st, Q, h => fun _ => ⟨_, _, by rw [geval_eq]; rfl, h⟩
 | .exit id, st, Q, h => fun _ => ⟨_, _, by rw [geval_eq]; rfl, h⟩
 | .ret, st, Q, h => fun _ => ⟨_, _, by rw [geval_eq]; rfl, h⟩
 | .region id ops false, st, Q, h => fun _ => by
  obtain ⟨st', h1, h2⟩ := wpops_sound K fn h
  rw [geval_eq]
  exact ⟨_, _, by simp only [gbody, h1], h2⟩
 | .region id ops true, st, Q, h => fun hg => by
  simp only [good, Bool.and_eq_true] at hg
  obtain ⟨st', h1, h2⟩ := wpdraw_sound K fn hg.2 _ 0 [] [] [] [] _ _ rfl (by simp) (by simp) h
  rw [List.drop_zero] at h1
  rw [geval_eq]
  exact ⟨_, _, by simp only [gbody, hg.1, if_true, h1], h2⟩
 | .seq a b, st, Q, h => fun hg => by
  simp only [good, Bool.and_eq_true] at hg
  obtain ⟨e, st1, h1, h2⟩ := wp_sound a h hg.1
  rw [geval_eq]
  simp only [gbody, h1]
  cases e with
  | normal =>
   obtain ⟨e2, st2, h3, h4⟩ := wp_sound b h2 hg.2
   exact ⟨e2, st2, h3, h4⟩
  | exit id => exact ⟨_, _, rfl, h2⟩
  | ret => exact ⟨_, _, rfl, h2⟩
 | .cond c x y, st, Q, h => fun hg => by
  simp only [good, Bool.and_eq_true] at hg
  obtain ⟨b, h1, h2⟩ := h
  have hc : ev st.s c = .pure (.bool b) := by
   unfold asB at h1
   split at h1
   ·rename_i b' hb; rw [hb]; cases h1; rfl
   ·cases h1
  rw [geval_eq]
  simp only [gbody, hc]
  cases b with
  | true =>
   simp only [if_true] at h2 ⊢
   exact wp_sound x h2 hg.1
  | false =>
   simp only [Bool.false_eq_true, if_false] at h2 ⊢
   exact wp_sound y h2 hg.2
 | .block id c, st, Q, h => fun hg => by
  obtain ⟨e, st1, h1, h2⟩ := wp_sound c h (by simpa only [good] using hg)
  rw [geval_eq]
  simp only [gbody, h1]
  cases e with
  | exit id' =>
   simp only [blockQ] at h2
   split at h2
   ·rename_i he; exact ⟨_, _, by simp only [he, if_true], h2⟩
   ·rename_i he; exact ⟨_, _, by simp only [he, if_false], h2⟩
  | normal => exact ⟨_, _, rfl, h2⟩
  | ret => exact ⟨_, _, rfl, h2⟩
 | .loop c, st, Q, h => fun hg => by
  obtain ⟨⟨ks, ks2⟩, ha, h⟩ := h
  have h0 : WPLb K N fn (K.car fn (firstRegion c)) c ks ks2 Q (keepSlots st.s ks) st.h st.nt := by
   cases hc : K.car fn (firstRegion c) with
   | true => simp only [hc, if_true] at h; exact h
   | false => simp only [hc, Bool.false_eq_true, if_false] at h; exact h
  obtain ⟨e, st', h1, h2⟩ := h0 (by simpa only [good] using hg) ha rfl
  refine ⟨e, st', ?_, h2⟩
  rw [geval_eq]
  simp only [gbody, ha, Option.map_some, keepO]
  exact h1
 | .rangeFunc f ps assign body, st, Q, h => h
 | .scope c, st, Q, h => fun hg => by
  obtain ⟨e, st1, h1, h2⟩ := wp_sound c h (by simpa only [good] using hg)
  rw [geval_eq]
  exact ⟨e, st1, by simp only [gbody, h1], h2⟩
 | .goto _, _, _, h => h.elim
 | .refuse _, _, _, h => h.elim
theorem WPL_step {c : Code} {ks ks2 : List Nat} {Q : GX → GSt → Prop} {s : Slots} {H : Heap} {nt : Nat} (h : wp K N fn c ⟨s, [] :: H, nt⟩ (loopQ (WPL K N fn c ks ks2 Q) ks ks2 Q)) : WPL K N fn c ks ks2 Q s H nt := fun hg ha hc => by
 obtain ⟨e, st1, h1, h2⟩ := wp_sound K N fn c h hg
 rw [h1]
 unfold loopQ at h2
 split at h2
 ·rename_i fr H1 hh
  obtain ⟨h3, h4⟩ := h2
  have hne : ¬ H1.length = 0 := by omega
  cases e with
  | normal =>
   simp only [gnext, hc, Bool.false_eq_true, gscope, hh, hne, if_false, keepO]
   simp only at h4
   obtain ⟨e2, st2, g1, g2⟩ := h4 hg ha hc
   refine ⟨e2, st2, ?_, g2⟩
   rw [geval_eq]
   simp only [gbody, ha, Option.map_some, keepO]
   rw [keep_clean]
   exact g1
  | exit id =>
   simp only [gscope, hh, hne, if_false, keepO]
   exact ⟨_, _, rfl, h4⟩
  | ret =>
   simp only [gscope, hh, hne, if_false, keepO]
   exact ⟨_, _, rfl, h4⟩
 ·exact h2.elim
def outQ (f : FuncId) (g : Func) (c : Nat) (R : GV × Heap → Prop) (e : GX) (st : GSt) : Prop :=
 (match e with | .exit _ => False | _ => True) ∧ WPv (gresults K g st) fun rs => WPv (gleave K f c (packG rs) st.h) R
theorem call_enter0 {f : FuncId} {g : Func} {code : Code} {args : List GV} {c : Nat} {H : Heap} {R : GV × Heap → Prop} (hf : K.P.funcs[f]? = some g) (hb : g.body = some code)
  (hn : (g.name == "runtime.NumGoroutine") = false) (hgood : good K N f code = true) (hl : args.length ≤ g.ntmps) (hH : 0 < H.length)
  (h : wp K N f code ⟨slotsOf 0 (args.map canon), [] :: H, g.ntmps⟩ (outQ K f g c R)) : WPv (gcall0 K (geval K) f args c H) R := by
 obtain ⟨e, st, h1, h2, rs, h3, x, h4, h5⟩ := wp_sound K N f code h hgood
 refine ⟨x, ?_, h5⟩
 have hnt : ¬ g.ntmps < args.length := by omega
 have hH0 : ¬ H.length = 0 := by omega
 simp only [gcall0, hf, hb, hn, hnt, hH0, decide_false, Bool.or_self, Bool.false_eq_true, if_false, h1]
 cases e with
 | exit id => exact h2.elim
 | normal =>
  simp only [h3]
  rw [← h4]
  rcases rs with _ | ⟨r, _ | ⟨r2, l⟩⟩ <;> rfl
 | ret =>
  simp only [h3]
  rw [← h4]
  rcases rs with _ | ⟨r, _ | ⟨r2, l⟩⟩ <;> rfl
theorem gcall_plain {f : FuncId} {args : List GV} {c : Nat} {H : Heap} {rec : Rec} (hc : K.cln f = false) (hb : K.bor f = false) (hz : frzVals H args = (args, H)) : gcall K rec f args c H = gcall0 K rec f args c H := by
 unfold gcall gcallN
 rw [hc, hb, hz]
 simp
theorem gcall_bor {f : FuncId} {args : List GV} {c : Nat} {H : Heap} {rec : Rec} (hc : K.cln f = false) (hb : K.bor f = true) : gcall K rec f args c H = gborrow K rec f ((frzVals H args).1.map canon) c H := by
 unfold gcall gcallN
 rw [hc, hb]
 simp
theorem bor_flat {f : FuncId} {args args' : List GV} {c : Nat} {H : Heap} {rec : Rec} {p : PV} (hc : K.cln f = false) (hb : K.bor f = true) (hz : (frzVals H args).1.map canon = args') (hq : borBox args' = some none) (hH : 0 < H.length)
  (h0 : ∀ H : Heap, 0 < H.length → gcall0 K rec f args' c H = some (.pure p, H)) (hf : flatP p = true) : gcall K rec f args c H = some (.pure p, H) := by
 rw [gcall_bor K hc hb, hz]
 unfold gborrow
 rw [hq]
 simp only
 rw [h0 _ (by simpa [emptyH] using hH)]
 simp only [lentEnd, lentV, lent2, lent1, hf, if_true, refs, refs2, refs1, dedup, lentIns]
theorem call_enter {f : FuncId} {g : Func} {code : Code} {args : List GV} {c : Nat} {H : Heap} {R : GV × Heap → Prop} (hf : K.P.funcs[f]? = some g) (hb : g.body = some code)
  (hn : (g.name == "runtime.NumGoroutine") = false) (hgood : good K N f code = true) (hz : frzVals H args = (args, H)) (hc : K.cln f = false) (hbo : K.bor f = false) (hl : args.length ≤ g.ntmps) (hH : 0 < H.length)
  (h : wp K N f code ⟨slotsOf 0 (args.map canon), [] :: H, g.ntmps⟩ (outQ K f g c R)) : WPv (gcall K (geval K) f args c H) R := by
 rw [gcall_plain K hc hbo hz]
 exact call_enter0 K N hf hb hn hgood hl hH h
theorem gcall_ext {f : FuncId} {args : List GV} {c : Nat} {H : Heap} {rec : Rec} {e : List GV → Heap → Option (GV × Heap)} (hc : K.cln f = true) (he : K.ext f = some e) (hH : 0 < H.length) : gcall K rec f args c H = e args H := by
 unfold gcall
 rw [hc, he]
 simp only [if_true]
 rw [if_neg (by omega)]
end
end
section
section
variable {K : Ctx} {N : FuncId → Nat → List (Nat × Nat)} {fn : FuncId}
@[congr] theorem WPv_cg {α : Type} {x y : Option α} {k : α → Prop} (h : ∀ _ : Unit, x = y) : WPv x k = WPv y k := by rw [h ()]
@[simp] theorem WPv_some {α : Type} {x : α} {k : α → Prop} : WPv (some x) k = k x := by
 unfold WPv; simp
@[simp] theorem WPv_none {α : Type} {k : α → Prop} : WPv none k = False := by
 unfold WPv; simp
@[simp] theorem wp_skip {st : GSt} {Q : GX → GSt → Prop} : wp K N fn .skip st Q = Q .normal st := by rw [wp]
@[simp] theorem wp_label {l : Nat} {st : GSt} {Q : GX → GSt → Prop} : wp K N fn (.label l) st Q = Q .normal st := by rw [wp]
@[simp] theorem wp_exit {id : Nat} {st : GSt} {Q : GX → GSt → Prop} : wp K N fn (.exit id) st Q = Q (.exit id) st := by rw [wp]
@[simp] theorem wp_ret {st : GSt} {Q : GX → GSt → Prop} : wp K N fn .ret st Q = Q .ret st := by rw [wp]
@[simp] theorem wp_region {id : Nat} {ops : Array Oper} {st : GSt} {Q : GX → GSt → Prop} : wp K N fn (.region id ops false) st Q = wpops K fn ops.toList ops.toList st (Q .normal) := by rw [wp]
@[simp] theorem wp_draw {id : Nat} {ops : Array Oper} {st : GSt} {Q : GX → GSt → Prop} : wp K N fn (.region id ops true) st Q = wpdraw K fn ops.toList (N fn id) 0 ops.toList [] [] st.h st (Q .normal) := by rw [wp]
def seqQ (b : Code) (Q : GX → GSt → Prop) (e : GX) (st : GSt) : Prop := match e with | .normal => wp K N fn b st Q | e => Q e st
@[simp] theorem wp_seq {a b : Code} {st : GSt} {Q : GX → GSt → Prop} : wp K N fn (.seq a b) st Q = wp K N fn a st (seqQ (K := K) (N := N) (fn := fn) b Q) := by rw [wp]; rfl
@[simp] theorem seqQ_normal {b : Code} {Q : GX → GSt → Prop} {st : GSt} : seqQ (K := K) (N := N) (fn := fn) b Q .normal st = wp K N fn b st Q := .trans rfl rfl
@[simp] theorem seqQ_exit {b : Code} {Q : GX → GSt → Prop} {id : Nat} {st : GSt} : seqQ (K := K) (N := N) (fn := fn) b Q (.exit id) st = Q (.exit id) st := .trans rfl rfl
@[simp] theorem seqQ_ret {b : Code} {Q : GX → GSt → Prop} {st : GSt} : seqQ (K := K) (N := N) (fn := fn) b Q .ret st = Q .ret st := .trans rfl rfl
@[simp] theorem wp_cond {c : Operand} {x y : Code} {st : GSt} {Q : GX → GSt → Prop} : wp K N fn (.cond c x y) st Q = WPv (asB (ev st.s c)) fun b => if b = true then wp K N fn x st Q else wp K N fn y st Q := by rw [wp]
@[simp] theorem asB_bool {b : Bool} : asB (.pure (.bool b)) = some b := .trans rfl rfl
@[simp] theorem wp_scope {c : Code} {st : GSt} {Q : GX → GSt → Prop} : wp K N fn (.scope c) st Q = wp K N fn c st Q := by rw [wp]
@[simp] theorem wp_block {id : Nat} {c : Code} {st : GSt} {Q : GX → GSt → Prop} : wp K N fn (.block id c) st Q = wp K N fn c st (blockQ id Q) := by rw [wp]
@[simp] theorem blockQ_normal {id : Nat} {Q : GX → GSt → Prop} {st : GSt} : blockQ id Q .normal st = Q .normal st := .trans rfl rfl
@[simp] theorem blockQ_ret {id : Nat} {Q : GX → GSt → Prop} {st : GSt} : blockQ id Q .ret st = Q .ret st := .trans rfl rfl
@[simp] theorem blockQ_exit {id id' : Nat} {Q : GX → GSt → Prop} {st : GSt} : blockQ id Q (.exit id') st = if id' = id then Q .normal st else Q (.exit id') st := .trans rfl rfl
@[simp] theorem wp_loop {c : Code} {st : GSt} {Q : GX → GSt → Prop} : wp K N fn (.loop c) st Q = WPv (K.ann fn (firstRegion c)) fun a => if K.car fn (firstRegion c) = true then WPLc K N fn c a.1 a.2 Q (keepSlots st.s a.1) st.h st.nt else WPL K N fn c a.1 a.2 Q (keepSlots st.s a.1) st.h st.nt := by rw [wp]
@[simp] theorem wp_rangeFunc {f : Operand} {ps : Array Tmp} {as b : Code} {st : GSt} {Q : GX → GSt → Prop} : wp K N fn (.rangeFunc f ps as b) st Q = WP K N fn (.rangeFunc f ps as b) st Q := by rw [wp]
@[simp] theorem loopQ_normal {W : Slots → Heap → Nat → Prop} {ks ks2 : List Nat} {Q : GX → GSt → Prop} {s : Slots} {fr : Fr} {H : Heap} {nt : Nat} :
  loopQ W ks ks2 Q .normal ⟨s, fr :: H, nt⟩ = (0 < H.length ∧ W (cleanSlots (fr :: H) (H.length - 1) (keepSlots s ks)) H nt) := .trans rfl rfl
@[simp] theorem loopQ_exit {W : Slots → Heap → Nat → Prop} {ks ks2 : List Nat} {Q : GX → GSt → Prop} {s : Slots} {fr : Fr} {H : Heap} {nt id : Nat} :
  loopQ W ks ks2 Q (.exit id) ⟨s, fr :: H, nt⟩ = (0 < H.length ∧ Q (.exit id) ⟨cleanSlots (fr :: H) (H.length - 1) (keepSlots s ks2), H, nt⟩) := .trans rfl rfl
@[simp] theorem loopQ_ret {W : Slots → Heap → Nat → Prop} {ks ks2 : List Nat} {Q : GX → GSt → Prop} {s : Slots} {fr : Fr} {H : Heap} {nt : Nat} :
  loopQ W ks ks2 Q .ret ⟨s, fr :: H, nt⟩ = (0 < H.length ∧ Q .ret ⟨cleanSlots (fr :: H) (H.length - 1) (keepSlots s ks2), H, nt⟩) := .trans rfl rfl
@[simp] theorem loopQc_normal {W : Slots → Heap → Nat → Prop} {ks ks2 : List Nat} {Q : GX → GSt → Prop} {s : Slots} {fr : Fr} {H : Heap} {nt : Nat} :
  loopQc W ks ks2 Q .normal ⟨s, fr :: H, nt⟩ = (0 < H.length ∧ WPv (gcol ⟨cleanSlots (fr :: H) (H.length - 1) (keepSlots s ks), H, nt⟩) fun st => W st.s st.h st.nt) := .trans rfl rfl
@[simp] theorem loopQc_exit {W : Slots → Heap → Nat → Prop} {ks ks2 : List Nat} {Q : GX → GSt → Prop} {s : Slots} {fr : Fr} {H : Heap} {nt id : Nat} :
  loopQc W ks ks2 Q (.exit id) ⟨s, fr :: H, nt⟩ = (0 < H.length ∧ Q (.exit id) ⟨cleanSlots (fr :: H) (H.length - 1) (keepSlots s ks2), H, nt⟩) := .trans rfl rfl
@[simp] theorem loopQc_ret {W : Slots → Heap → Nat → Prop} {ks ks2 : List Nat} {Q : GX → GSt → Prop} {s : Slots} {fr : Fr} {H : Heap} {nt : Nat} :
  loopQc W ks ks2 Q .ret ⟨s, fr :: H, nt⟩ = (0 < H.length ∧ Q .ret ⟨cleanSlots (fr :: H) (H.length - 1) (keepSlots s ks2), H, nt⟩) := .trans rfl rfl
@[simp] theorem outQ_normal {f : FuncId} {g : Func} {c : Nat} {R : GV × Heap → Prop} {st : GSt} : outQ K f g c R .normal st = WPv (gresults K g st) fun rs => WPv (gleave K f c (packG rs) st.h) R := by simp [outQ]
@[simp] theorem outQ_ret {f : FuncId} {g : Func} {c : Nat} {R : GV × Heap → Prop} {st : GSt} : outQ K f g c R .ret st = WPv (gresults K g st) fun rs => WPv (gleave K f c (packG rs) st.h) R := by simp [outQ]
@[simp] theorem outQ_exit {f : FuncId} {g : Func} {c : Nat} {R : GV × Heap → Prop} {st : GSt} {id : Nat} : outQ K f g c R (.exit id) st = False := by simp [outQ]
@[simp] theorem keepSlots_nil {s : Slots} : keepSlots s [] = [] := .trans rfl rfl
@[simp] theorem keepSlots_cons {s : Slots} {t : Nat} {r : List Nat} : keepSlots s (t :: r) = (t, look s t) :: keepSlots s r := .trans rfl rfl
@[simp] theorem cleanSlots_nil {H : Heap} {l0 : Nat} : cleanSlots H l0 [] = [] := .trans rfl rfl
@[simp] theorem cleanSlots_cons {H : Heap} {l0 : Nat} {t : Nat} {v : GV} {r : Slots} : cleanSlots H l0 ((t, v) :: r) = (t, clean H l0 v) :: cleanSlots H l0 r := .trans rfl rfl
@[simp] theorem look_nil {t : Nat} : look [] t = gdead := .trans rfl rfl
@[simp] theorem look_cons' {d t : Nat} {v : GV} {s : Slots} : look ((d, v) :: s) t = if t = d then v else look s t := .trans rfl rfl
@[simp] theorem ev_tmp {s : Slots} {t : Nat} : ev s (.tmp t) = look s t := .trans rfl rfl
@[simp] theorem ev_const {s : Slots} {v : Value} : ev s (.const v) = ofConst v := .trans rfl rfl
@[simp] theorem ev_func {s : Slots} {f : Nat} : ev s (.func f) = .pure (.fn f) := .trans rfl rfl
@[simp] theorem ofConst_int {k : IntKind} {n : Int} : ofConst (.int k n) = .pure (.int k n) := .trans rfl rfl
@[simp] theorem ofConst_bool {b : Bool} : ofConst (.bool b) = .pure (.bool b) := .trans rfl rfl
@[simp] theorem ofConst_nils : ofConst (.slice none 0 0) = .nils := .trans rfl rfl
@[simp] theorem ofConst_nilp : ofConst (.pointer none) = .pure .nilp := .trans rfl rfl
@[simp] theorem ofConst_nilf : ofConst .nilFunc = .pure .nilf := .trans rfl rfl
@[simp] theorem ofConst_nilm : ofConst (.map none) = .pure .nilm := .trans rfl rfl
@[simp] theorem ofConst_str {s : ByteArray} : ofConst (.string s) = .pure (.str s.data.toList) := .trans rfl rfl
@[simp] theorem putS_none {s : Slots} {v : GV} : putS s none v = s := .trans rfl rfl
@[simp] theorem putS_some {s : Slots} {d : Nat} {v : GV} : putS s (some d) v = (d, v) :: s := .trans rfl rfl
@[simp] theorem dstOk_none {nt : Nat} : dstOk nt none = True := .trans rfl rfl
@[simp] theorem dstOk_some {nt d : Nat} : dstOk nt (some d) = (d < nt) := .trans rfl rfl
@[simp] theorem slotsOf_nil {i : Nat} : slotsOf i [] = [] := .trans rfl rfl
@[simp] theorem slotsOf_cons {i : Nat} {v : GV} {l : List GV} : slotsOf i (v :: l) = (i, v) :: slotsOf (i + 1) l := .trans rfl rfl
@[simp] theorem wpops_nil {all : List Oper} {st : GSt} {Q : GSt → Prop} : wpops K fn all [] st Q = Q st := .trans rfl rfl
@[simp] theorem wpops_cons {all : List Oper} {o : Oper} {r : List Oper} {st : GSt} {Q : GSt → Prop} : wpops K fn all (o :: r) st Q = WPv (wantedG all st.s o) fun b =>
      if b = false then dstOk st.nt o.dst ∧ wpops K fn all r ⟨putS st.s o.dst gundef, st.h, st.nt⟩ Q
      else WPv (gstep K (geval K) fn o st.s st.h) fun x => dstOk st.nt o.dst ∧ wpops K fn all r ⟨putS st.s o.dst x.1, x.2, st.nt⟩ Q := .trans rfl rfl
@[simp] theorem wpdraw_nil {all : List Oper} {L : List (Nat × Nat)} {i : Nat} {obl : List Obl} {old : List (Nat × Heap)} {hb : Heap} {st : GSt} {Q : GSt → Prop} : wpdraw K fn all L i [] obl old hb st Q = Q st := .trans rfl rfl
@[simp] theorem wpdraw_cons {all : List Oper} {L : List (Nat × Nat)} {i : Nat} {o : Oper} {r : List Oper} {obl : List Obl} {old : List (Nat × Heap)} {hb : Heap} {st : GSt} {Q : GSt → Prop} :
  wpdraw K fn all L i (o :: r) obl old hb st Q = WPv (wantedG all st.s o) fun b =>
   if b = false then dstOk st.nt o.dst ∧ wpdraw K fn all L (i + 1) r obl old hb ⟨putS st.s o.dst gundef, st.h, st.nt⟩ Q
   else if opPure K fn o = true then
    WPv (gop K fn o st.s hb) fun x => dstOk st.nt o.dst ∧ (∀ y ∈ old, y.1 = i → y.2 = hb ∨ sameAt K fn o st.s x.1 y.2 = true) ∧
     wpdraw K fn all L (i + 1) r ((L.filter fun p => p.2 == i).map (fun p => ⟨p.1, o, st.s, x.1, hb⟩) ++ obl) old hb ⟨putS st.s o.dst x.1, st.h, st.nt⟩ Q
   else
    WPv (gstep K (geval K) fn o st.s st.h) fun x => dstOk st.nt o.dst ∧
     if isAlloc o = true then wpdraw K fn all L (i + 1) r obl old hb ⟨putS st.s o.dst x.1, x.2, st.nt⟩ Q
     else (∀ y ∈ obl, y.i = i → x.2 = y.h ∨ sameAt K fn y.o y.s y.v x.2 = true) ∧
      wpdraw K fn all L (i + 1) r obl ((L.filter fun p => p.2 == i).map (fun p => (p.1, hb)) ++ old) x.2 ⟨putS st.s o.dst x.1, x.2, st.nt⟩ Q := .trans rfl rfl
def dstAt : List Oper → Nat → Option Nat
 | [], _ => none
 | o :: r, j => if j = 0 then o.dst else dstAt r (j - 1)
@[simp] theorem dstAt_cons {o : Oper} {r : List Oper} {j : Nat} : dstAt (o :: r) j = if j = 0 then o.dst else dstAt r (j - 1) := .trans rfl rfl
def wantD (s : Slots) (want : Bool) : Option Nat → Option Bool
 | none => none
 | some d => (match look s d with | .pure (.bool b) => some (b == want) | .pure (.tuple []) => some false | _ => none)
def wantV (want : Bool) : GV → Option Bool
 | .pure (.bool b) => some (b == want)
 | .pure (.tuple []) => some false
 | _ => none
@[simp] theorem wantV_bool {want b : Bool} : wantV want (.pure (.bool b)) = some (b == want) := .trans rfl rfl
@[simp] theorem wantV_undef {want : Bool} : wantV want gundef = some false := .trans rfl rfl
@[congr] theorem wantD_cg {s : Slots} {want : Bool} {x y : Option Nat} (h : ∀ _ : Unit, x = y) : wantD s want x = wantD s want y := by rw [h ()]
@[simp] theorem wantD_some {s : Slots} {want : Bool} {d : Nat} : wantD s want (some d) = wantV want (look s d) := by
 unfold wantD wantV; rfl
theorem getElem_dstAt : ∀ (l : List Oper) (j : Nat), dstAt l j = (l[j]?).bind (·.dst)
 | [], j => by simp [dstAt]
 | o :: r, 0 => by simp [dstAt]
 | o :: r, j + 1 => by simp [dstAt, getElem_dstAt r j]
@[simp] theorem wantedG_none {all : List Oper} {s : Slots} {dst : Option Tmp} {op : Op} {ty : TypeId} {pos : String} {af : Array Edge} : wantedG all s ⟨dst, op, ty, pos, af, none⟩ = some true := .trans rfl rfl
@[simp] theorem wantedG_some {all : List Oper} {s : Slots} {dst : Option Tmp} {op : Op} {ty : TypeId} {pos : String} {af : Array Edge} {j : Nat} {want : Bool} :
  wantedG all s ⟨dst, op, ty, pos, af, some (j, want)⟩ = wantD s want (dstAt all j) := by
 rw [getElem_dstAt]
 unfold wantedG wantD
 simp only
 cases all[j]? with
 | none => rfl
 | some oj =>
  simp only [Option.bind_some]
  cases oj.dst with
  | none => rfl
  | some d => rfl
variable {rec : Rec} {dst : Option Tmp} {ty : TypeId} {pos : String} {af : Array Edge} {gu : Option (Nat × Bool)} {s : Slots} {H : Heap}
def liftR (r : Option Nat) (H : Heap) (b : GV) (z : GV × Heap) : Option (GV × Heap) := match r with
 | none => glift H b z
 | some key => gliftRow H b key z
@[congr] theorem liftR_cg {r r' : Option Nat} {H : Heap} {b b' : GV} {z : GV × Heap} (h : ∀ _ : Unit, r = r') (h' : ∀ _ : Unit, b = b') : liftR r H b z = liftR r' H b' z := by rw [h (), h' ()]
@[simp] theorem liftR_none {H : Heap} {b : GV} {z : GV × Heap} : liftR none H b z = glift H b z := .trans rfl rfl
@[simp] theorem liftR_some {key : Nat} {H : Heap} {b : GV} {z : GV × Heap} : liftR (some key) H b z = gliftRow H b key z := .trans rfl rfl
def liftQ (x : Option Tmp) (r : Option Nat) (s : Slots) (H : Heap) (y : Option (GV × Heap)) : Option (GV × Heap) := match x with
 | none => y
 | some t => (match y with | some z => liftR r H (look s t) z | none => none)
@[congr] theorem liftQ_cg {x x' : Option Tmp} {r : Option Nat} {s : Slots} {H : Heap} {y y' : Option (GV × Heap)} (h : ∀ _ : Unit, x = x') (h' : ∀ _ : Unit, y = y') : liftQ x r s H y = liftQ x' r s H y' := by rw [h (), h' ()]
@[simp] theorem liftQ_none {r : Option Nat} {s : Slots} {H : Heap} {y : Option (GV × Heap)} : liftQ none r s H y = y := .trans rfl rfl
@[simp] theorem liftQ_some {t : Tmp} {r : Option Nat} {s : Slots} {H : Heap} {z : GV × Heap} : liftQ (some t) r s H (some z) = liftR r H (look s t) z := .trans rfl rfl
@[simp] theorem gstep_call {f : Operand} {args : Array Operand} {ats : Array TypeId} : gstep K rec fn ⟨dst, .call ⟨.value f, args, ats⟩, ty, pos, af, gu⟩ s H = liftQ (K.lift fn (dst.getD 0)) (K.row fn (dst.getD 0)) s H (gcallee K rec (ev s f) (args.toList.map (ev s)) (dst.getD 0) H) := by
 unfold gstep liftQ
 simp only [goCalls]
 cases K.lift fn (dst.getD 0) with
 | none => rfl
 | some t => simp only [liftR]; cases gcallee K rec (ev s f) (args.toList.map (ev s)) (dst.getD 0) H <;> rfl
@[simp] theorem gcallee_fn {f : Nat} {args : List GV} {c : Nat} : gcallee K rec (.pure (.fn f)) args c H = gcall K rec f args c H := .trans rfl rfl
@[simp] theorem gcallee_func {f : Nat} {first cap args : List GV} {c : Nat} : gcallee K rec (.func f first cap) args c H = gcall K rec f (first ++ args ++ cap) c H := .trans rfl rfl
@[simp] theorem gcallee_yield {nm : Nm} {args : List GV} {c : Nat} : gcallee K rec (.yield nm) args c H = ground rec nm args H := .trans rfl rfl
end
end
end Go.Gh

/- A drawn region: whatever the order, it ends as the text's order does. -/
import Derived.Test.YtgmohiojddnfgaaGreatDoorGhost26
namespace Go.Gh
set_option linter.unusedSimpArgs false
set_option linter.unusedVariables false

/-- A new variable that was laid and has no name yet. -/
def Pend (w0 w : World) (S : Nat → Prop) (μ : Mu) (P : Program) (o : Oper) (u : Value) (b : Nat) : Prop :=
  u = .pointer (some ⟨b, 0, none⟩) ∧ w0.heap.size ≤ b ∧ b < w.heap.size ∧ ¬ S b ∧ (∀ nm t, μ nm t ≠ some b) ∧
  ∃ ty v cs, o.op = .alloc ty ∧ tzero P ty = some (ofConst v) ∧ cellsO (ofConst v) = some cs ∧ w.heap[b]? = some (.cells v.cells ty (0, 0))

section
variable {w w' : World} {S S' : Nat → Prop} {μ μ' : Mu} {ℓ : Nat}

theorem Pend.ev {w0 : World} {P : Program} {o : Oper} {u : Value} {b : Nat} (h : Pend w0 w S μ P o u b) (e : Ev ℓ w S μ w' S' μ') : Pend w0 w' S' μ' P o u b := by
  obtain ⟨h1, h2, h3, h4, h5, ty, v, cs, h6, h7, h8, h9⟩ := h
  refine ⟨h1, h2, Nat.lt_of_lt_of_le h3 e.size, fun hs => ?_, fun nm t hm => ?_, ty, v, cs, h6, h7, h8, by rw [e.same b h3 (.inr h5)]; exact h9⟩
  · rcases e.snew b hs h3 with h | ⟨nm, t, h⟩
    · exact h4 h
    · exact h5 _ _ h
  · obtain ⟨nm', t', h'⟩ := e.own nm t b hm h3
    exact h5 _ _ h'
end

section
variable (K : Ctx) (rec : Rec) (fn : FuncId) (ops : Array Oper) (st0 : GSt) (base : Nat) (r : Option Nat) (w0 : World) (S0 : Nat → Prop) (μ0 : Mu)

abbrev TT (j : Nat) : TS := dT K rec fn ops.toList st0 j
abbrev KK (j : Nat) : Nat := dk K rec fn ops.toList st0 j
abbrev VV (j : Nat) : GV := dv K rec fn ops.toList st0 j

structure SimC (listed : Array Bool) (a : Act) (w : World) (S : Nat → Prop) (μ : Mu) (e : Nat) (pd : Nat → Nat) : Prop where
  sz : listed.size = ops.size
  clo : Closed ops listed
  le : e ≤ ops.size
  ww : ∀ j, j < ops.size → KK K rec fn ops st0 j = 3 → (listed.getD j false = true ↔ j < e)
  al : ∀ j, j < e → KK K rec fn ops st0 j = 2 → listed.getD j false = true
  v1 : ∀ (j : Nat) (o : Oper) (d : Nat), ops.toList[j]? = some o → o.dst = some d → listed.getD j false = true → (KK K rec fn ops st0 j = 2 → j < e) → VRel w S μ (st0.h.length - 1) (a.tmps.getD d undef) (VV K rec fn ops st0 j)
  v0 : ∀ t, (∀ (j : Nat) (o : Oper), ops.toList[j]? = some o → listed.getD j false = true → o.dst ≠ some t) → VRel w S μ (st0.h.length - 1) (a.tmps.getD t undef) (look st0.s t)
  pa : ∀ (j : Nat) (o : Oper) (d : Nat), ops.toList[j]? = some o → o.dst = some d → listed.getD j false = true → KK K rec fn ops st0 j = 2 → e ≤ j → Pend w0 w S μ K.P o (a.tmps.getD d undef) (pd j)
  pinj : ∀ i j, i < ops.size → j < ops.size → listed.getD i false = true → listed.getD j false = true → KK K rec fn ops st0 i = 2 → KK K rec fn ops st0 j = 2 → e ≤ i → e ≤ j → pd i = pd j → i = j
  nt : a.tmps.size = st0.nt
  low : base ≤ w.heap.size
  defs : DefOk base w S μ a.defers
  round : ∀ l, r = some l → ∃ q : Loop, w.heap[l]? = some (.loop q)
  ev : Ev (st0.h.length - 1) w0 S0 μ0 w S μ
end

section
variable {K : Ctx} {rec : Rec} {fn : FuncId} {ops : Array Oper} {st0 : GSt} {base : Nat} {r : Option Nat} {w0 : World} {S0 : Nat → Prop} {μ0 : Mu}
variable {listed : Array Bool} {a : Act} {w w' : World} {S S' : Nat → Prop} {μ μ' : Mu} {e : Nat} {pd : Nat → Nat}

theorem SimC.step (h : SimC K rec fn ops st0 base r w0 S0 μ0 listed a w S μ e pd) (hlt : ∀ b, S b → b < w.heap.size) (he : Ev (st0.h.length - 1) w S μ w' S' μ') :
    SimC K rec fn ops st0 base r w0 S0 μ0 listed a w' S' μ' e pd :=
  { h with
    v1 := fun j o d h1 h2 h3 h4 => he.val hlt (Nat.le_refl _) (h.v1 j o d h1 h2 h3 h4)
    v0 := fun t ht => he.val hlt (Nat.le_refl _) (h.v0 t ht)
    pa := fun j o d h1 h2 h3 h4 h5 => (h.pa j o d h1 h2 h3 h4 h5).ev he
    low := Nat.le_trans h.low he.size
    defs := h.defs.ev he
    round := round_ev h.round he
    ev := h.ev.trans he }

theorem SimC.repd (h : SimC K rec fn ops st0 base r w0 S0 μ0 listed a w S μ e pd) {i : Nat} (hi : listed.getD i false = false) (b : Nat) :
    SimC K rec fn ops st0 base r w0 S0 μ0 listed a w S μ e (fun j => if j = i then b else pd j) :=
  { h with
    pa := fun j o d h1 h2 h3 h4 h5 => by
      have : j ≠ i := fun e => by rw [e, hi] at h3; cases h3
      simp only [if_neg this]
      exact h.pa j o d h1 h2 h3 h4 h5
    pinj := fun j k hj hk h1 h2 h3 h4 h5 h6 h7 => by
      have n1 : j ≠ i := fun e => by rw [e, hi] at h1; cases h1
      have n2 : k ≠ i := fun e => by rw [e, hi] at h2; cases h2
      simp only [if_neg n1, if_neg n2] at h7
      exact h.pinj j k hj hk h1 h2 h3 h4 h5 h6 h7 }

theorem toList_get {j : Nat} {o : Oper} : ops.toList[j]? = some o ↔ ops[j]? = some o := by rw [Array.getElem?_toList]

theorem ready_inv {i : Nat} (h : i ∈ Region.ready .any ops listed) (hsz : listed.size = ops.size) : listed.getD i false = false ∧ i < ops.size ∧ ∃ o, ops.toList[i]? = some o ∧ ops[i]? = some o ∧ ∀ e ∈ o.after, Region.binds .any e = true → listed.getD e.on false = true := by
  obtain ⟨h1, o, h2, h3⟩ := mem_ready.1 h
  have hi : i < ops.size := (Array.getElem?_eq_some_iff.1 h2).1
  refine ⟨?_, hi, o, toList_get.2 h2, h2, h3⟩
  rw [Array.getD_eq_getD_getElem?] at h1 ⊢
  rw [Array.getElem?_eq_getElem (by omega)] at h1 ⊢
  exact h1

theorem SimC.put (D : DrawOk K fn ops.toList (Region.before ops)) (h : SimC K rec fn ops st0 base r w0 S0 μ0 listed a w S μ e pd) {i e' : Nat} {o : Oper} (hi : i ∈ Region.ready .any ops listed) (ho : ops.toList[i]? = some o)
    (hd : ∀ d, o.dst = some d → d < st0.nt) (u : Value) (hu : KK K rec fn ops st0 i ≠ 2 → VRel w S μ (st0.h.length - 1) u (VV K rec fn ops st0 i))
    (ha : KK K rec fn ops st0 i = 2 → Pend w0 w S μ K.P o u (pd i) ∧ ∀ j, j < ops.size → listed.getD j false = true → KK K rec fn ops st0 j = 2 → e ≤ j → pd j ≠ pd i)
    (he : (KK K rec fn ops st0 i ≠ 3 ∧ e' = e) ∨ (KK K rec fn ops st0 i = 3 ∧ e = i ∧ e' = i + 1)) :
    SimC K rec fn ops st0 base r w0 S0 μ0 (listed.setIfInBounds i true) (a.put o.dst u) w S μ e' pd := by
  obtain ⟨hl, hin, o', ho', _, haft⟩ := ready_inv hi h.sz
  rw [ho] at ho'; cases ho'
  have hset : ∀ j, (listed.setIfInBounds i true).getD j false = true ↔ j = i ∨ listed.getD j false = true := fun j => getD_set (by rw [h.sz]; exact hin)
  have hpast : ∀ j d (oj : Oper), ops.toList[j]? = some oj → oj.dst = some d → j ≠ i → (a.put o.dst u).tmps.getD d undef = a.tmps.getD d undef := fun j d oj hj hdj hne => by
    cases hod : o.dst with
    | none => rfl
    | some d' =>
      have : d ≠ d' := fun e => hne (dst_inj D.nodup hj ho hdj (by rw [hod, e]))
      rw [put_getD a d' u d (by rw [h.nt]; exact hd d' hod), if_neg this]
  have hee : e ≤ e' := by rcases he with ⟨_, h'⟩ | ⟨_, h1, h2⟩ <;> omega
  have hlow : KK K rec fn ops st0 i = 2 → e ≤ i := fun h2 => by
    rcases Nat.lt_or_ge i e with h' | h'
    · have := h.al i h' h2
      rw [hl] at this; cases this
    · exact h'
  refine ⟨by rw [Array.size_setIfInBounds]; exact h.sz, fun j oj hj hlj ed hed hb => ?_, ?_, fun j hj h3 => ?_, fun j hj h2 => ?_, fun j oj d hj hdj hlj h2 => ?_, fun t ht => ?_, fun j oj d hj hdj hlj h2 hle => ?_,
    fun j k hj hk hlj hlk h2 h2' hle hle' heq => ?_, ?_, h.low, ?_, h.round, h.ev⟩
  · refine (hset _).2 (.inr ?_)
    rcases (hset j).1 hlj with rfl | hlj
    · have := toList_get.2 hj
      rw [ho] at this; cases this
      exact haft ed hed hb
    · exact h.clo j oj hj hlj ed hed hb
  · have := h.le
    rcases he with ⟨_, h'⟩ | ⟨_, h1, h2⟩ <;> omega
  · rw [hset j]
    rcases he with ⟨h4, h5⟩ | ⟨h4, h5, h6⟩
    · have : j ≠ i := fun e => h4 (e ▸ h3)
      rw [h5, ← h.ww j hj h3]; simp [this]
    · rw [h.ww j hj h3]; omega
  · refine (hset j).2 ?_
    by_cases e1 : j = i
    · exact .inl e1
    · refine .inr (h.al j ?_ h2)
      rcases he with ⟨_, h'⟩ | ⟨_, h1, h2⟩ <;> omega
  · by_cases e1 : j = i
    · subst e1
      rw [ho] at hj; cases hj
      rw [hdj, put_getD a d u d (by rw [h.nt]; exact hd d hdj), if_pos rfl]
      refine hu fun h2' => ?_
      have := h2 h2'; have := hlow h2'
      rcases he with ⟨h4, h5⟩ | ⟨h4, h5, h6⟩
      · omega
      · rw [h2'] at h4; cases h4
    · rw [hpast j d oj hj hdj e1]
      refine h.v1 j oj d hj hdj (((hset j).1 hlj).resolve_left e1) fun h2' => ?_
      have := h2 h2'
      rcases he with ⟨_, h'⟩ | ⟨_, h1, h2⟩ <;> omega
  · have hne : o.dst ≠ some t := ht i o ho ((hset i).2 (.inl rfl))
    have : (a.put o.dst u).tmps.getD t undef = a.tmps.getD t undef := by
      cases hod : o.dst with
      | none => rfl
      | some d' =>
        have : t ≠ d' := fun e => hne (by rw [hod, e])
        rw [put_getD a d' u t (by rw [h.nt]; exact hd d' hod), if_neg this]
    rw [this]
    exact h.v0 t fun j oj hj hlj => ht j oj hj ((hset j).2 (.inr hlj))
  · by_cases e1 : j = i
    · subst e1
      rw [ho] at hj; cases hj
      rw [hdj, put_getD a d u d (by rw [h.nt]; exact hd d hdj), if_pos rfl]
      exact (ha h2).1
    · rw [hpast j d oj hj hdj e1]
      exact h.pa j oj d hj hdj (((hset j).1 hlj).resolve_left e1) h2 (by omega)
  · by_cases e1 : j = i
    · subst e1
      by_cases e2 : k = j
      · exact e2.symm
      · exact absurd heq.symm ((ha h2).2 k hk (((hset k).1 hlk).resolve_left e2) h2' (by omega))
    · by_cases e2 : k = i
      · subst e2
        exact absurd heq ((ha h2').2 j hj (((hset j).1 hlj).resolve_left e1) h2 (by omega))
      · exact h.pinj j k hj hk (((hset j).1 hlj).resolve_left e1) (((hset k).1 hlk).resolve_left e2) h2 h2' (by omega) (by omega) heq
  · cases hod : o.dst with
    | none => exact h.nt
    | some d => simpa [Act.put] using h.nt
  · have : (a.put o.dst u).defers = a.defers := by cases o.dst <;> rfl
    rw [this]; exact h.defs

/-! ### kinds -/
theorem dk_cases {nt j : Nat} {o : Oper} (ho : ops.toList[j]? = some o) (h : StepOk K rec fn ops.toList (Region.before ops) st0 nt j o) :
    (KK K rec fn ops st0 j = 0 ∧ wantedG ops.toList (TT K rec fn ops st0 j).s o = some false ∧ VV K rec fn ops st0 j = gundef ∧ (TT K rec fn ops st0 (j + 1)).f = (TT K rec fn ops st0 j).f ∧ (TT K rec fn ops st0 (j + 1)).b = (TT K rec fn ops st0 j).b) ∨
    (KK K rec fn ops st0 j = 1 ∧ wantedG ops.toList (TT K rec fn ops st0 j).s o = some true ∧ opPure K fn o = true ∧ (∃ Hx, gop K fn o (TT K rec fn ops st0 j).s (TT K rec fn ops st0 j).b = some (VV K rec fn ops st0 j, Hx)) ∧
      (TT K rec fn ops st0 (j + 1)).f = (TT K rec fn ops st0 j).f ∧ (TT K rec fn ops st0 (j + 1)).b = (TT K rec fn ops st0 j).b) ∨
    (KK K rec fn ops st0 j = 2 ∧ wantedG ops.toList (TT K rec fn ops st0 j).s o = some true ∧ opPure K fn o = false ∧ isAlloc o = true ∧ gstep K rec fn o (TT K rec fn ops st0 j).s (TT K rec fn ops st0 j).f = some (VV K rec fn ops st0 j, (TT K rec fn ops st0 (j + 1)).f) ∧
      (TT K rec fn ops st0 (j + 1)).b = (TT K rec fn ops st0 j).b) ∨
    (KK K rec fn ops st0 j = 3 ∧ wantedG ops.toList (TT K rec fn ops st0 j).s o = some true ∧ opPure K fn o = false ∧ isAlloc o = false ∧ gstep K rec fn o (TT K rec fn ops st0 j).s (TT K rec fn ops st0 j).f = some (VV K rec fn ops st0 j, (TT K rec fn ops st0 (j + 1)).f) ∧
      (TT K rec fn ops st0 (j + 1)).b = (TT K rec fn ops st0 (j + 1)).f) := by
  have hk := h.kind
  obtain ⟨e1, -, -⟩ := dT_succ K rec fn ops.toList st0 ho hk
  have eb : (TT K rec fn ops st0 (j + 1)).b = if KK K rec fn ops st0 j = 3 then (TT K rec fn ops st0 (j + 1)).f else (TT K rec fn ops st0 j).b := by
    show (dT K rec fn ops.toList st0 (j + 1)).b = _
    rw [e1]
  unfold dkind at hk
  split at hk
  · rename_i hw
    simp only [Option.some.injEq, Prod.mk.injEq] at hk
    obtain ⟨k1, k2, k3⟩ := hk
    refine .inl ⟨k1.symm, hw, k2.symm, k3.symm, ?_⟩
    rw [eb, if_neg (by rw [show KK K rec fn ops st0 j = 0 from k1.symm]; omega)]
  · rename_i hw
    split at hk
    · rename_i hp
      split at hk
      · rename_i v Hx hop
        simp only [Option.some.injEq, Prod.mk.injEq] at hk
        obtain ⟨k1, k2, k3⟩ := hk
        refine .inr (.inl ⟨k1.symm, hw, hp, ⟨Hx, by rw [hop, k2]⟩, k3.symm, ?_⟩)
        rw [eb, if_neg (by rw [show KK K rec fn ops st0 j = 1 from k1.symm]; omega)]
      · cases hk
    · rename_i hp
      split at hk
      · rename_i v H hs
        simp only [Option.some.injEq, Prod.mk.injEq] at hk
        obtain ⟨k1, k2, k3⟩ := hk
        have hp' : opPure K fn o = false := by simpa using hp
        by_cases ha : isAlloc o = true
        · rw [if_pos ha] at k1
          refine .inr (.inr (.inl ⟨k1.symm, hw, hp', ha, by rw [hs, k2, k3], ?_⟩))
          rw [eb, if_neg (by rw [show KK K rec fn ops st0 j = 2 from k1.symm]; omega)]
        · rw [if_neg ha] at k1
          refine .inr (.inr (.inr ⟨k1.symm, hw, hp', by simpa using ha, by rw [hs, k2, k3], ?_⟩))
          rw [eb, if_pos k1.symm]
      · cases hk
  · cases hk

theorem same_base (ok : ∀ (j : Nat) (o : Oper), ops.toList[j]? = some o → StepOk K rec fn ops.toList (Region.before ops) st0 st0.nt j o) {e : Nat} : ∀ i, e ≤ i → i ≤ ops.size → (∀ x, e ≤ x → x < i → KK K rec fn ops st0 x ≠ 3) →
    (TT K rec fn ops st0 i).b = (TT K rec fn ops st0 e).b := by
  intro i
  induction i with
  | zero => intro h1 _ _; have : e = 0 := by omega
            rw [this]
  | succ i ih =>
    intro h1 h2 h3
    by_cases e1 : e = i + 1
    · rw [e1]
    · have ho : ops.toList[i]? = some ops[i] := by simp [show i < ops.size by omega]
      have h4 := h3 i (by omega) (by omega)
      rw [← ih (by omega) (by omega) fun x hx hx' => h3 x hx (by omega)]
      rcases dk_cases ho (ok i _ ho) with h | h | h | h
      · exact h.2.2.2.2
      · exact h.2.2.2.2.2
      · exact h.2.2.2.2.2
      · exact absurd h.1 h4

theorem first_in (p : Nat → Prop) (e : Nat) : ∀ i, e ≤ i → (∀ x, e ≤ x → x < i → ¬ p x) ∨ ∃ x, e ≤ x ∧ x < i ∧ p x ∧ ∀ y, e ≤ y → y < x → ¬ p y := by
  intro i
  induction i with
  | zero => intro h; exact .inl fun x _ h => by omega
  | succ i ih =>
    intro h
    rcases Nat.lt_or_ge i e with h' | h'
    · exact .inl fun x h1 h2 => by omega
    rcases ih h' with h1 | ⟨x, h1, h2, h3, h4⟩
    · by_cases hp : p i
      · exact .inr ⟨i, h', by omega, hp, h1⟩
      · refine .inl fun x hx hx' => ?_
        by_cases e1 : x = i
        · rw [e1]; exact hp
        · exact h1 x hx (by omega)
    · exact .inr ⟨x, h1, by omega, h3, h4⟩

theorem last_in (p : Nat → Prop) (i : Nat) : ∀ e, (∀ x, i ≤ x → x < e → ¬ p x) ∨ ∃ x, i ≤ x ∧ x < e ∧ p x ∧ ∀ y, x < y → y < e → ¬ p y := by
  intro e
  induction e with
  | zero => exact .inl fun x _ h => by omega
  | succ e ih =>
    by_cases hp : i ≤ e ∧ p e
    · exact .inr ⟨e, hp.1, by omega, hp.2, fun y h1 h2 => by omega⟩
    · rcases ih with h | ⟨x, h1, h2, h3, h4⟩
      · refine .inl fun x h1 h2 hx => ?_
        by_cases e1 : x = e
        · subst e1; exact hp ⟨h1, hx⟩
        · exact h x h1 (by omega) hx
      · refine .inr ⟨x, h1, by omega, h3, fun y hy hy' hpy => ?_⟩
        by_cases e1 : y = e
        · subst e1; exact hp ⟨by omega, hpy⟩
        · exact h4 y hy (by omega) hpy

theorem sameAt_gop {o : Oper} {s : Slots} {v : GV} {H : Heap} (h : sameAt K fn o s v H = true) : ∃ Hx, gop K fn o s H = some (v, Hx) := by
  unfold sameAt at h
  split at h
  · rename_i v' Hx hg
    exact ⟨Hx, by rw [hg, GV.beq_eq _ _ h]⟩
  · cases h

/-- What leaves the heap alone tells the same wherever it is done. -/
theorem pure_at (ok : ∀ (j : Nat) (o : Oper), ops.toList[j]? = some o → StepOk K rec fn ops.toList (Region.before ops) st0 st0.nt j o)
    (h : SimC K rec fn ops st0 base r w0 S0 μ0 listed a w S μ e pd) {i : Nat} {o : Oper} (hi : i ∈ Region.ready .any ops listed) (ho : ops.toList[i]? = some o) (hk : KK K rec fn ops st0 i = 1) :
    opPure K fn o = true ∧ gop K fn o (TT K rec fn ops st0 i).s (TT K rec fn ops st0 e).b = some (VV K rec fn ops st0 i, (TT K rec fn ops st0 e).b) := by
  obtain ⟨hl, hin, o', ho', ho2, haft⟩ := ready_inv hi h.sz
  rw [ho] at ho'; cases ho'
  have hbefore : ∀ b, ((Region.before ops).getD i 0).testBit b = true → listed.getD b false = true := fun b hb => closed_before h.clo i b hb fun o' ho' ed hed hbe => by
    rw [ho2] at ho'; cases ho'; exact haft ed hed hbe
  have hs := ok i o ho
  obtain ⟨hp, Hx, hg⟩ : opPure K fn o = true ∧ ∃ Hx, gop K fn o (TT K rec fn ops st0 i).s (TT K rec fn ops st0 i).b = some (VV K rec fn ops st0 i, Hx) := by
    rcases dk_cases ho hs with h | h | h | h
    · have := h.1; omega
    · exact ⟨h.2.2.1, h.2.2.2.1⟩
    · have := h.1; omega
    · have := h.1; omega
  refine ⟨hp, ?_⟩
  suffices hx : ∃ Hx, gop K fn o (TT K rec fn ops st0 i).s (TT K rec fn ops st0 e).b = some (VV K rec fn ops st0 i, Hx) by
    obtain ⟨Hy, hy⟩ := hx
    rw [opPure_heap K hp hy] at hy
    exact hy
  cases hR : opR o with
  | false => exact ⟨_, opPure_any K hp hR hg⟩
  | true =>
    rcases Nat.lt_or_ge i e with hie | hie
    · rcases last_in (fun x => KK K rec fn ops st0 x = 3) (i + 1) e with h1 | ⟨x, h1, h2, h3, h4⟩
      · have e1 := same_base ok (e := i + 1) e (by omega) h.le h1
        have e2 : (TT K rec fn ops st0 (i + 1)).b = (TT K rec fn ops st0 i).b := same_base ok (i + 1) (by omega) (by omega) fun x hx hx' h3 => by
          have : x = i := by omega
          rw [this] at h3; omega
        rw [e1, e2]; exact ⟨_, hg⟩
      · have hle := h.le
        have hox : ops.toList[x]? = some ops[x] := by simp [show x < ops.size by omega]
        have e1 := same_base ok (e := x + 1) e (by omega) h.le fun y hy hy' => h4 y (by omega) hy'
        have e2 : (TT K rec fn ops st0 (x + 1)).b = (TT K rec fn ops st0 (x + 1)).f := by
          rcases dk_cases hox (ok x _ hox) with h | h | h | h
          · have := h.1; omega
          · have := h.1; omega
          · have := h.1; omega
          · exact h.2.2.2.2.2
        rw [e1, e2]
        rcases (ok x _ hox).wr h3 i (by omega) hk o ho hR with h5 | h5
        · exfalso
          have hlx := (h.ww x (by omega) h3).2 h2
          have := closed_listed h.clo hlx h5
          rw [hl] at this; cases this
        · exact sameAt_gop h5
    · rcases first_in (fun x => KK K rec fn ops st0 x = 3) e i hie with h1 | ⟨x, h1, h2, h3, h4⟩
      · rw [← same_base ok i hie (by omega) h1]; exact ⟨_, hg⟩
      · rw [← same_base ok x h1 (by omega) h4]
        rcases hs.rw hk hR x h2 h3 with h5 | h5
        · exfalso
          have := (h.ww x (by omega) h3).1 (hbefore x h5)
          omega
        · exact sameAt_gop h5

/-- What an operation looks at lies there. -/
theorem slot_at (D : DrawOk K fn ops.toList (Region.before ops)) (ok : ∀ (j : Nat) (o : Oper), ops.toList[j]? = some o → StepOk K rec fn ops.toList (Region.before ops) st0 st0.nt j o)
    (h : SimC K rec fn ops st0 base r w0 S0 μ0 listed a w S μ e pd) {i : Nat} {o : Oper} (hi : i ∈ Region.ready .any ops listed) (ho : ops.toList[i]? = some o) {t : Nat}
    (ht : t ∈ depsO K fn o ∨ t ∈ depsG ops.toList o) (hal : ∀ (j : Nat) (oj : Oper), ops.toList[j]? = some oj → oj.dst = some t → KK K rec fn ops st0 j = 2 → j < i → j < e) :
    VRel w S μ (st0.h.length - 1) (a.tmps.getD t undef) (look (TT K rec fn ops st0 i).s t) := by
  obtain ⟨hl, hin, o', ho', ho2, haft⟩ := ready_inv hi h.sz
  rw [ho] at ho'; cases ho'
  have hbefore : ∀ b, ((Region.before ops).getD i 0).testBit b = true → listed.getD b false = true := fun b hb => closed_before h.clo i b hb fun o' ho' ed hed hbe => by
    rw [ho2] at ho'; cases ho'; exact haft ed hed hbe
  rcases look_dT K rec fn ops.toList (Region.before ops) st0 st0.nt ok D.nodup i t (by simp; omega) with ⟨j, oj, h1, h2, h3, h4⟩ | ⟨h1, h2⟩
  · show VRel w S μ _ _ (look (dT K rec fn ops.toList st0 i).s t)
    rw [h4]
    rcases D.dep j i oj o t h2 ho h3 ht with h5 | ⟨h5, h6⟩ | ⟨h5, h6⟩
    · omega
    · exact h.v1 j oj t h2 h3 (hbefore j h6) fun hk => hal j oj h2 h3 hk h1
    · omega
  · show VRel w S μ _ _ (look (dT K rec fn ops.toList st0 i).s t)
    rw [h2]
    refine h.v0 t fun j oj hj hlj hdj => ?_
    rcases Nat.lt_or_ge j i with h3 | h3
    · exact h1 j oj h3 hj hdj
    · rcases D.dep j i oj o t hj ho hdj ht with h5 | ⟨h5, h6⟩ | ⟨h5, h6⟩
      · subst h5; rw [hl] at hlj; cases hlj
      · omega
      · have := closed_listed h.clo hlj h6
        rw [hl] at this; cases this

theorem gnewE_box {K : Ctx} {H H' : Heap} {t d : Nat} {cs : List GV} {nm : Nm} (h : gnewE K H (H.length - 1) t d (.box cs) = some (nm, H')) : nm.1 = H.length - 1 ∧ nm.1 < H.length ∧ H.get nm = none ∧ H' = H.set nm (.box cs) ∧ tyE nm t = t := by
  unfold gnewE at h
  split at h
  · obtain ⟨rfl, hl, hg, rfl, ht⟩ := gnewT_some h
    exact ⟨rfl, hl, hg, rfl, ht t⟩
  · have ht := gnewAt_ty h
    obtain ⟨rfl, hl, hg, rfl⟩ := gnewAt_some h
    exact ⟨rfl, hl, hg, rfl, tyE_low (by simpa [tyOk] using ht)⟩

/-- The variables that were laid get their names. -/
theorem adopt_one (ok : ∀ (j : Nat) (o : Oper), ops.toList[j]? = some o → StepOk K rec fn ops.toList (Region.before ops) st0 st0.nt j o)
    (h : SimC K rec fn ops st0 base r w0 S0 μ0 listed a w S μ e pd) (hH : HRel w S μ (TT K rec fn ops st0 e).f) (hlen : (TT K rec fn ops st0 e).f.length = st0.h.length) (hpos : 0 < st0.h.length) (he : e < ops.size)
    (h3 : KK K rec fn ops st0 e ≠ 3) (h2 : KK K rec fn ops st0 e = 2 → listed.getD e false = true) :
    ∃ μ', SimC K rec fn ops st0 base r w0 S0 μ0 listed a w S μ' (e + 1) pd ∧ HRel w S μ' (TT K rec fn ops st0 (e + 1)).f ∧ (TT K rec fn ops st0 (e + 1)).f.length = st0.h.length := by
  have ho : ops.toList[e]? = some ops[e] := by simp [he]
  have go : ∀ μ', (KK K rec fn ops st0 e = 2 → ∀ d, ops[e].dst = some d → VRel w S μ' (st0.h.length - 1) (a.tmps.getD d undef) (VV K rec fn ops st0 e)) →
      (∀ n t b, μ n t = some b → μ' n t = some b) → (∀ j, e < j → j < ops.size → listed.getD j false = true → KK K rec fn ops st0 j = 2 → ∀ nm t, μ' nm t ≠ some (pd j)) →
      DefOk base w S μ' a.defers → Ev (st0.h.length - 1) w0 S0 μ0 w S μ' → SimC K rec fn ops st0 base r w0 S0 μ0 listed a w S μ' (e + 1) pd := by
    intro μ' hv hm hpd hdef hev
    have hmono : ∀ {v : Value} {g : GV}, VRel w S μ (st0.h.length - 1) v g → VRel w S μ' (st0.h.length - 1) v g := fun hv => hv.mono (fun _ h => h) (fun _ _ => rfl) (fun _ _ h => h) (fun n t b _ h => hm n t b h) (Nat.le_refl _)
    refine { h with
      le := he
      ww := fun j hj hj3 => by
        rw [h.ww j hj hj3]
        have : j ≠ e := fun e1 => h3 (e1 ▸ hj3)
        omega
      al := fun j hj hj2 => by
        by_cases e1 : j = e
        · rw [e1]; exact h2 (e1 ▸ hj2)
        · exact h.al j (by omega) hj2
      v1 := fun j o d hj hd hl hk => by
        by_cases e1 : j = e ∧ KK K rec fn ops st0 j = 2
        · obtain ⟨e1, e2⟩ := e1
          subst e1
          rw [ho] at hj; cases hj
          exact hv e2 d hd
        · refine hmono (h.v1 j o d hj hd hl fun hk' => ?_)
          have := hk hk'
          have : j ≠ e := fun e2 => e1 ⟨e2, hk'⟩
          omega
      v0 := fun t ht => hmono (h.v0 t ht)
      pa := fun j o d hj hd hl hk hle => by
        obtain ⟨p1, p2, p3, p4, p5, p6⟩ := h.pa j o d hj hd hl hk (by omega)
        have hjs : j < ops.size := by have := (List.getElem?_eq_some_iff.1 hj).1; simpa using this
        exact ⟨p1, p2, p3, p4, hpd j (by omega) hjs hl hk, p6⟩
      pinj := fun i j hi hj hli hlj hki hkj hei hej => h.pinj i j hi hj hli hlj hki hkj (by omega) (by omega)
      defs := hdef
      ev := hev }
  rcases dk_cases ho (ok e _ ho) with q | q | q | q
  · refine ⟨μ, go μ (fun h => by have := q.1; omega) (fun _ _ _ h => h) (fun j h1 h2 h3 h4 => ?_) h.defs h.ev, by rw [q.2.2.2.1]; exact hH, by rw [q.2.2.2.1]; exact hlen⟩
    have hoj : ops.toList[j]? = some ops[j] := by simp [h2]
    obtain ⟨d, t, hd, _⟩ : ∃ d t, ops[j].dst = some d ∧ ops[j].op = .alloc t := by
      rcases dk_cases hoj (ok j _ hoj) with q | q | q | q
      · have := q.1; omega
      · have := q.1; omega
      · obtain ⟨d, t, h1, h2, _⟩ := isAlloc_dst q.2.2.2.1; exact ⟨d, t, h1, h2⟩
      · have := q.1; omega
    exact (h.pa j _ d hoj hd h3 h4 (by omega)).2.2.2.2.1
  · refine ⟨μ, go μ (fun h => by have := q.1; omega) (fun _ _ _ h => h) (fun j h1 h2 h3 h4 => ?_) h.defs h.ev, by rw [q.2.2.2.2.1]; exact hH, by rw [q.2.2.2.2.1]; exact hlen⟩
    have hoj : ops.toList[j]? = some ops[j] := by simp [h2]
    obtain ⟨d, t, hd, _⟩ : ∃ d t, ops[j].dst = some d ∧ ops[j].op = .alloc t := by
      rcases dk_cases hoj (ok j _ hoj) with q | q | q | q
      · have := q.1; omega
      · have := q.1; omega
      · obtain ⟨d, t, h1, h2, _⟩ := isAlloc_dst q.2.2.2.1; exact ⟨d, t, h1, h2⟩
      · have := q.1; omega
    exact (h.pa j _ d hoj hd h3 h4 (by omega)).2.2.2.2.1
  · obtain ⟨q1, q2, q3, q4, q5, q6⟩ := q
    obtain ⟨d, ty, hd, hop, _⟩ := isAlloc_dst q4
    obtain ⟨p1, p2, p3, p4, p5, ty', v, cs, p6, p7, p8, p9⟩ := h.pa e _ d ho hd (h2 q1) q1 (Nat.le_refl _)
    have hgo : goCalls ops[e] = none := by unfold goCalls; rw [hop]
    unfold gstep at q5
    rw [hgo] at q5
    simp only at q5
    have hty : ty = ty' := by rw [hop] at p6; cases p6; rfl
    subst hty
    unfold gop at q5
    rw [hop] at q5
    simp only [hd, p7, p8] at q5
    cases hnew : gnewE K (TT K rec fn ops st0 e).f ((TT K rec fn ops st0 e).f.length - 1) ty d (.box cs) with
    | none => rw [hnew] at q5; cases q5
    | some x =>
      obtain ⟨nm, H1⟩ := x
      rw [hnew] at q5
      simp only [Option.some.injEq, Prod.mk.injEq] at q5
      obtain ⟨q5, q7⟩ := q5
      obtain ⟨g1, g2, g3, rfl, gt⟩ := gnewE_box hnew
      have hno : ∀ t c, μ nm t ≠ some c := fun t c hc => by
        obtain ⟨y, hy⟩ := hH.bnd _ _ _ hc; rw [g3] at hy; cases hy
      have hA := hH.adopt g3 g2 (b := pd e) p3 p5 (x := .box cs) ⟨pd e, v.cells, ty, Mu.upd_self _ _ _ _, p4, by rw [gt]; exact p9, (cellsO_rel (ofConst_rel v) p8)⟩
      refine ⟨_, go _ (fun _ d' hd' => ?_) (fun n t b hb => noNew hH g3 _ _ n t b hb) (fun j h1 h2' h3' h4' nm' t hm => ?_) ⟨fun dd hdd => ?_, h.defs.apart⟩ (h.ev.adopt hno p2), by rw [← q7]; exact hA, by rw [← q7, Heap.length_set]; exact hlen⟩
      · rw [hd] at hd'; cases hd'
        rw [p1, ← q5]
        exact .bptr _ _ _ (by rw [g1, hlen]; omega) (Mu.upd_self _ _ _ _)
      · have hoj : ops.toList[j]? = some ops[j] := by simp [h2']
        obtain ⟨dj, _, hdj, _⟩ : ∃ d t, ops[j].dst = some d ∧ ops[j].op = .alloc t := by
          rcases dk_cases hoj (ok j _ hoj) with q | q | q | q
          · have := q.1; omega
          · have := q.1; omega
          · obtain ⟨d, t, h1, h2, _⟩ := isAlloc_dst q.2.2.2.1; exact ⟨d, t, h1, h2⟩
          · have := q.1; omega
        have hP := h.pa j _ dj hoj hdj h3' h4' (by omega)
        by_cases en : nm' = nm
        · subst en
          by_cases et : t = 0
          · subst et; rw [Mu.upd_self] at hm
            have : pd e = pd j := by simpa using hm
            have := h.pinj e j he h2' (h2 q1) h3' q1 h4' (Nat.le_refl _) (by omega) this
            omega
          · rw [Mu.upd_top _ _ _ et] at hm; exact hno _ _ hm
        · rw [Mu.upd_other _ _ _ _ en] at hm; exact hP.2.2.2.2.1 _ _ hm
      · obtain ⟨q, k1, k2, k3, k4, k5⟩ := h.defs.each dd hdd
        refine ⟨q, k1, k2, k3, k4, fun nm' t hm => ?_⟩
        by_cases en : nm' = nm
        · subst en
          by_cases et : t = 0
          · subst et; rw [Mu.upd_self] at hm
            have : pd e = q := by simpa using hm
            rw [this, k3] at p9; cases p9
          · rw [Mu.upd_top _ _ _ et] at hm; exact hno _ _ hm
        · rw [Mu.upd_other _ _ _ _ en] at hm; exact k5 _ _ hm
  · exact absurd q.1 h3

theorem adopt_all (ok : ∀ (j : Nat) (o : Oper), ops.toList[j]? = some o → StepOk K rec fn ops.toList (Region.before ops) st0 st0.nt j o) (hpos : 0 < st0.h.length) : ∀ (n i e : Nat) (μ : Mu), i - e = n → e ≤ i → i ≤ ops.size →
    SimC K rec fn ops st0 base r w0 S0 μ0 listed a w S μ e pd → HRel w S μ (TT K rec fn ops st0 e).f → (TT K rec fn ops st0 e).f.length = st0.h.length →
    (∀ x, e ≤ x → x < i → KK K rec fn ops st0 x ≠ 3 ∧ (KK K rec fn ops st0 x = 2 → listed.getD x false = true)) →
    ∃ μ', SimC K rec fn ops st0 base r w0 S0 μ0 listed a w S μ' i pd ∧ HRel w S μ' (TT K rec fn ops st0 i).f ∧ (TT K rec fn ops st0 i).f.length = st0.h.length := by
  intro n
  induction n with
  | zero => intro i e μ h1 h2 h3 h hH hl _
            have : e = i := by omega
            subst this; exact ⟨μ, h, hH, hl⟩
  | succ n ih =>
    intro i e μ h1 h2 h3 h hH hl hx
    obtain ⟨g1, g2⟩ := hx e (Nat.le_refl _) (by omega)
    obtain ⟨μ1, k1, k2, k3⟩ := adopt_one ok h hH hl hpos (by omega) g1 g2
    exact ih i (e + 1) μ1 (by omega) (by omega) h3 k1 k2 k3 fun x hx1 hx2 => hx x (by omega) hx2

end
end Go.Gh

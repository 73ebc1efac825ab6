/- Operations without memory. -/
import Derived.Test.YtgmohiojddnfgaaGreatDoorGhost11
import Derived.Laws.StructEq
namespace Go.Gh
set_option linter.unusedSimpArgs false
set_option linter.unusedVariables false

def scalV : PV → Value
  | .int k n => .int k n
  | .bool b => .bool b
  | .str l => .string ⟨l.toArray⟩
  | _ => undef

/-- Values of a type are equal as their cells are. -/
def EqOk (P : Program) (t : TypeId) (ks : List SK) : Prop :=
  P.eqGuardType P.depth t = false ∧ ∀ (a b : List PV) (q : Bool), eqRow ks a b = some q → ∀ w, (Op.equalIn 10000 t (.agg (a.map scalV).toArray) (.agg (b.map scalV).toArray)).run P w = .ok q w ∧
    ∀ e, (Instr.checkKey e 10000 t (.agg (a.map scalV).toArray)).run P w = .ok () w

/-- A function that tells an empty slice when an empty one is told to it. -/
def CloneOk (P : Program) (f : FuncId) : Prop :=
  ∀ (w : World) (a : Option Addr) (cap : Nat), GlbRel w (fun b => b < w.heap.size) → (callFunc f #[.slice a 0 cap]).run P w = .ok (.enter f #[.slice a 0 cap]) w ∧
    CallsIn { Fence.wide with round := none } 0 P f #[.slice a 0 cap] w fun e w' => (∃ a', e = .returned (.slice a' 0 0)) ∧ w'.os = w.os ∧ w'.tape = w.tape ∧ w'.output = w.output ∧ w.heap.size ≤ w'.heap.size ∧
      ∀ b, b < w.heap.size → w'.heap[b]? = w.heap[b]?

structure CtxOk (K : Ctx) : Prop where
  cln : ∀ f, K.cln f = true → K.ext f = none → CloneOk K.P f
  eqs : ∀ t ks, K.eqs t = some ks → EqOk K.P t ks
  mixed : K.P.follows .mixedOrders = true
  ext : ∀ f e, K.cln f = true → K.ext f = some e → ExtOk K.P f e

section
variable {w : World} {S : Nat → Prop} {μ : Mu} {H : Heap} {P : Program} {ℓ : Nat}

theorem scalV_of {v : Value} {p : PV} (h : PRep w S v p) (hp : (∃ k n, p = .int k n) ∨ (∃ b, p = .bool b) ∨ ∃ l, p = .str l) : v = scalV p := by
  rcases hp with ⟨k, n, rfl⟩ | ⟨b, rfl⟩ | ⟨l, rfl⟩
  · cases h; rfl
  · cases h; rfl
  · cases h; simp [scalV]

theorem eqRow_scal : ∀ (ks : List SK) (a b : List PV) (q : Bool), eqRow ks a b = some q → (∀ p ∈ a, (∃ k n, p = .int k n) ∨ (∃ b, p = .bool b) ∨ ∃ l, p = .str l) ∧ (∀ p ∈ b, (∃ k n, p = .int k n) ∨ (∃ b, p = .bool b) ∨ ∃ l, p = .str l)
  | [], a, b, q, h => by
    cases a <;> cases b <;> simp [eqRow] at h
    simp
  | s :: ks, [], b, q, h => by cases s <;> cases b <;> simp [eqRow] at h
  | s :: ks, x :: a, [], q, h => by cases s <;> cases x <;> simp [eqRow] at h
  | s :: ks, x :: a, y :: b, q, h => by
    have key : ∀ q', eqRow ks a b = some q' → ((∃ k n, x = .int k n) ∨ (∃ b, x = .bool b) ∨ ∃ l, x = .str l) → ((∃ k n, y = .int k n) ∨ (∃ b, y = .bool b) ∨ ∃ l, y = .str l) →
        (∀ p ∈ x :: a, (∃ k n, p = .int k n) ∨ (∃ b, p = .bool b) ∨ ∃ l, p = .str l) ∧ (∀ p ∈ y :: b, (∃ k n, p = .int k n) ∨ (∃ b, p = .bool b) ∨ ∃ l, p = .str l) := by
      intro q' h1 hx hy
      obtain ⟨i1, i2⟩ := eqRow_scal ks a b q' h1
      exact ⟨fun p hp => by rcases List.mem_cons.1 hp with rfl | hp; exact hx; exact i1 p hp, fun p hp => by rcases List.mem_cons.1 hp with rfl | hp; exact hy; exact i2 p hp⟩
    cases s with
    | int k =>
      cases x <;> cases y <;> simp [eqRow] at h
      split at h
      · rename_i q' hq'; exact key q' hq' (.inl ⟨_, _, rfl⟩) (.inl ⟨_, _, rfl⟩)
      · simp at h
    | bool =>
      cases x <;> cases y <;> simp only [eqRow] at h
      all_goals first | (cases h; done) | skip
      split at h
      · rename_i q' hq'; exact key q' hq' (.inr (.inl ⟨_, rfl⟩)) (.inr (.inl ⟨_, rfl⟩))
      · cases h
    | str =>
      cases x <;> cases y <;> simp only [eqRow] at h
      all_goals first | (cases h; done) | skip
      split at h
      · rename_i q' hq'; exact key q' hq' (.inr (.inr ⟨_, rfl⟩)) (.inr (.inr ⟨_, rfl⟩))
      · cases h

theorem scal_cells {k : Nat} : ∀ {vs : List Value} {a : List PV}, CRel w S μ k vs (a.map .pure) → (∀ p ∈ a, (∃ k n, p = .int k n) ∨ (∃ b, p = .bool b) ∨ ∃ l, p = .str l) → vs = a.map scalV
  | vs, [], h, _ => by cases h; rfl
  | vs, x :: a, h, hp => by
    cases h with
    | cons h1 h2 h3 => rw [List.map_cons, scalV_of h2.pv (hp x (by simp)), scal_cells h3 (fun p hq => hp p (by simp [hq]))]

theorem rep_int (k : IntKind) (n : Int) : PRep w S (scalV (.int k n)) (.int k n) := .int k n
theorem rep_bool (b : Bool) : PRep w S (scalV (.bool b)) (.bool b) := .bool b

theorem equalIn_nil (d : Nat) {t e : TypeId} {b : Addr} {len cap : Nat} (hu : P.underlying t = some (.slice e)) : (Op.equalIn (d + 1) t (.slice (some b) len cap) (.slice none 0 0)).run P w = .ok false w := by
  simp [Op.equalIn, r_underlying w hu]
theorem eql_nil {t e : TypeId} {b : Addr} {len cap : Nat} (hu : P.underlying t = some (.slice e)) : (binOp .eql t (.slice (some b) len cap) (.slice none 0 0)).run P w = .ok (.bool false) w := by
  have := equalIn_nil (w := w) 9999 (b := b) (len := len) (cap := cap) hu
  simp only [binOp]
  simp only [Op.equal, Op.maxDepth, Sem.run_bind, this, Result.andThen_ok, Sem.run_pure]
theorem neq_nil {t e : TypeId} {b : Addr} {len cap : Nat} (hu : P.underlying t = some (.slice e)) : (binOp .neq t (.slice (some b) len cap) (.slice none 0 0)).run P w = .ok (.bool true) w := by
  have := equalIn_nil (w := w) 9999 (b := b) (len := len) (cap := cap) hu
  simp only [binOp]
  simp only [Op.equal, Op.maxDepth, Sem.run_bind, this, Result.andThen_ok, Sem.run_pure, Bool.not_false]

theorem nonNil_inv {k : Nat} {a : GV} {va : Value} (ha : VRel w S μ k va a) (h : nonNil a = true) : ∃ b len cap, va = .slice (some b) len cap := by
  cases ha with
  | hdr nm es top lo len cap b n e0 hl hm hc ht hs hn => exact ⟨_, _, _, rfl⟩
  | lits b o cap es l f hS he hes hf h1 hr hcap => exact ⟨_, _, _, rfl⟩
  | pure v q hq =>
    cases hq with
    | slice b o cap es l f hS he hes hf h1 hr hc => exact ⟨_, _, _, rfl⟩
    | _ => simp [nonNil] at h
  | _ => simp [nonNil] at h

theorem gnilEq_sound (K : Ctx) {k : Nat} {op : BinOp} {t : TypeId} {x y : Operand} {a : GV} {va : Value} {p : PV} (ha : VRel w S μ k va a) (h : gnilEq K op t a = some p) :
    ∃ u, (eqGuard op t x y va (.slice none 0 0)).run K.P w = .ok () w ∧ (binOp op t va (.slice none 0 0)).run K.P w = .ok u w ∧ PRep w S u p := by
  unfold gnilEq at h
  split at h
  · rename_i e hu
    split at h
    · rename_i hn
      obtain ⟨b, len, cap, rfl⟩ := nonNil_inv ha hn
      cases h
      exact ⟨_, by simp [eqGuard], eql_nil hu, .bool false⟩
    · cases h
  · rename_i e hu
    split at h
    · rename_i hn
      obtain ⟨b, len, cap, rfl⟩ := nonNil_inv ha hn
      cases h
      exact ⟨_, by simp [eqGuard], neq_nil hu, .bool true⟩
    · cases h
  · cases h

theorem isNilC_eq {y : Operand} (h : isNilC y = true) : y = .const (.slice none 0 0) := by
  unfold isNilC at h
  split at h
  · rfl
  · cases h

theorem isNilI_eq {y : Operand} (h : isNilI y = true) : y = .const .nilIface := by
  unfold isNilI at h
  split at h
  · rfl
  · cases h

theorem gnilI_sound (K : Ctx) {k : Nat} {op : BinOp} {t : TypeId} {x y : Operand} {a : GV} {va : Value} {p : PV} (hy : isNilI y = true) (ha : VRel w S μ k va a) (h : gnilI K op t a = some p) :
    ∃ u, (eqGuard op t x y va .nilIface).run K.P w = .ok () w ∧ (binOp op t va .nilIface).run K.P w = .ok u w ∧ PRep w S u p := by
  obtain rfl := isNilI_eq hy
  have e1 : ∀ ms, K.P.underlying t = some (.interface ms) → (Op.equalIn 10000 t .nilIface .nilIface).run K.P w = .ok true w := fun ms hu => by
    show (Op.equalIn (9999 + 1) t .nilIface .nilIface).run K.P w = _
    unfold Op.equalIn
    simp [r_underlying w hu]
  have e2 : ∀ ms t' v', K.P.underlying t = some (.interface ms) → (Op.equalIn 10000 t (.iface t' v') .nilIface).run K.P w = .ok false w := fun ms t' v' hu => by
    show (Op.equalIn (9999 + 1) t (.iface t' v') .nilIface).run K.P w = _
    unfold Op.equalIn
    simp [r_underlying w hu]
  unfold gnilI at h
  split at h
  · rename_i ms hu
    cases h
    have hp := ha.pv
    cases hp
    refine ⟨_, by simp [eqGuard], ?_, .bool true⟩
    simp only [binOp, Op.equal, Op.maxDepth, Sem.run_bind, e1 _ hu, Result.andThen_ok, Sem.run_pure]
  · rename_i ms hu
    cases h
    have hp := ha.pv
    cases hp
    refine ⟨_, by simp [eqGuard], ?_, .bool false⟩
    simp only [binOp, Op.equal, Op.maxDepth, Sem.run_bind, e1 _ hu, Result.andThen_ok, Sem.run_pure, Bool.not_true]
  · rename_i ms t' v' hu
    cases h
    have hp := ha.pv
    cases hp
    refine ⟨_, by simp [eqGuard], ?_, .bool false⟩
    simp only [binOp, Op.equal, Op.maxDepth, Sem.run_bind, e2 _ _ _ hu, Result.andThen_ok, Sem.run_pure]
  · rename_i ms t' v' hu
    cases h
    have hp := ha.pv
    cases hp
    refine ⟨_, by simp [eqGuard], ?_, .bool true⟩
    simp only [binOp, Op.equal, Op.maxDepth, Sem.run_bind, e2 _ _ _ hu, Result.andThen_ok, Sem.run_pure, Bool.not_false]
  · cases h

theorem run_eq_nil1 {P : Program} (w : World) (n : Nat) {t e : TypeId} (hu : P.underlying t = some (.pointer e)) (b : Option Addr) : (Op.equalIn (n + 1) t (.pointer none) (.pointer b)).run P w = .ok b.isNone w := by
  unfold Op.equalIn
  simp [run_underlying hu]
theorem run_eq_nil2 {P : Program} (w : World) (n : Nat) {t e : TypeId} (hu : P.underlying t = some (.pointer e)) (a : Addr) : (Op.equalIn (n + 1) t (.pointer (some a)) (.pointer none)).run P w = .ok false w := by
  unfold Op.equalIn
  simp [run_underlying hu]
theorem run_eq_self {P : Program} (w : World) (n : Nat) {t e : TypeId} {k : Nat} (hu : P.underlying t = some (.pointer e)) (hz : tsize P e = some k) (a : Addr) : (Op.equalIn (n + 1) t (.pointer (some a)) (.pointer (some a))).run P w = .ok true w := by
  have hs := r_size (w := w) hz
  unfold Op.equalIn
  by_cases hk : k = 0
  · subst hk
    simp [run_underlying hu, hs]
  · simp [run_underlying hu, hs, hk, sameAddr]
theorem gbin_sound (K : Ctx) (hK : CtxOk K) {k : Nat} {op : BinOp} {t : TypeId} {x y : Operand} {a b : GV} {va vb : Value} {p : PV} (ha : VRel w S μ k va a) (hb : VRel w S μ k vb b) (h : gbin K op t a b = some p) :
    ∃ u, (eqGuard op t x y va vb).run K.P w = .ok () w ∧ (binOp op t va vb).run K.P w = .ok u w ∧ PRep w S u p := by
  unfold gbin at h
  split at h
  · -- integers
    rename_i k1 n1 k2 n2
    obtain rfl := ha.int_inv
    obtain rfl := hb.int_inv
    have hg : ∀ op, (eqGuard op t x y (.int k1 n1) (.int k2 n2)).run K.P w = .ok () w := by intro op; cases op <;> rfl
    split at h
    · unfold gshift at h
      split at h
      · cases h
      · rename_i hn
        simp only [Option.some.injEq] at h; subst h
        exact ⟨_, hg _, by simp [binOp, Op.shift, hn, scalV], rep_int _ _⟩
    · unfold gshift at h
      split at h
      · cases h
      · rename_i hn
        simp only [Option.some.injEq] at h; subst h
        exact ⟨_, hg _, by simp [binOp, Op.shift, hn, scalV], rep_int _ _⟩
    · rename_i h1 h2
      split at h
      · rename_i hk; subst hk
        cases op <;> simp only [gint] at h
        case shl => exact absurd rfl (h1)
        case shr => exact absurd rfl (h2)
        case quo =>
          split at h
          · cases h
          · rename_i hn; simp only [Option.some.injEq] at h; subst h
            exact ⟨_, hg _, by simp [binOp, Op.intDiv, hn, scalV], rep_int _ _⟩
        case rem =>
          split at h
          · cases h
          · rename_i hn; simp only [Option.some.injEq] at h; subst h
            exact ⟨_, hg _, by simp [binOp, Op.intDiv, hn, scalV], rep_int _ _⟩
        all_goals first | (cases h; done) | skip
        all_goals simp only [Option.some.injEq] at h
        all_goals subst h
        all_goals first
          | (refine ⟨_, hg _, ?_, rep_int _ _⟩; simp [binOp, Op.intArith, Op.intBits, scalV])
          | (refine ⟨_, hg _, ?_, rep_bool _⟩; simp [binOp, Op.intCmp, scalV])
      · cases h
  · -- strings
    rename_i l1 l2
    obtain ⟨s1, rfl, e1⟩ := ha.str_inv
    obtain ⟨s2, rfl, e2⟩ := hb.str_inv
    have hg : ∀ op, (eqGuard op t x y (.string s1) (.string s2)).run K.P w = .ok () w := by intro op; cases op <;> rfl
    have t1 : s1.toList = l1 := by rw [ByteArray.toList_eq, e1]
    have t2 : s2.toList = l2 := by rw [ByteArray.toList_eq, e2]
    cases op <;> simp only [gstr] at h
    case add =>
      split at h
      · rename_i hlen
        simp only [Option.some.injEq] at h; subst h
        have hs : s1.size + s2.size = l1.length + l2.length := by subst e1; subst e2; simp
        have hno : ¬ (((s1.size + s2.size : Nat) : Int) > IntKind.i64.max) := by
          rw [hs]; simp only [IntKind.max, IntKind.signed, IntKind.bits]; simp; omega
        have hr : (binOp .add t (.string s1) (.string s2)).run K.P w = .ok (.string (s1 ++ s2)) w := by
          simp only [binOp, Op.stringOp]; rw [if_neg hno]; rfl
        refine ⟨_, hg _, hr, ?_⟩
        have := PRep.str (w := w) (S := S) (s1 ++ s2)
        have e : (s1 ++ s2).data.toList = l1 ++ l2 := by subst e1; subst e2; simp
        rw [e] at this; exact this
      · cases h
    all_goals first | (cases h; done) | skip
    all_goals simp only [Option.some.injEq] at h
    all_goals subst h
    all_goals (refine ⟨_, hg _, ?_, rep_bool _⟩; simp [binOp, Op.stringOp, t1, t2, scalV])
  · -- bools
    rename_i b1 b2
    obtain rfl := ha.bool_inv
    obtain rfl := hb.bool_inv
    have hg : ∀ op, (eqGuard op t x y (.bool b1) (.bool b2)).run K.P w = .ok () w := by intro op; cases op <;> rfl
    split at h
    · rename_i hu
      simp only [Option.some.injEq] at h; subst h
      have hq : (Op.equalIn 10000 t (.bool b1) (.bool b2)).run K.P w = .ok (b1 == b2) w := run_equalIn_bool' w 9999 t b1 b2 hu
      exact ⟨_, hg _, by simp only [binOp, Op.equal, Op.maxDepth, Sem.run_bind, hq, Result.andThen_ok]; rfl, rep_bool _⟩
    · rename_i hu
      simp only [Option.some.injEq] at h; subst h
      have hq : (Op.equalIn 10000 t (.bool b1) (.bool b2)).run K.P w = .ok (b1 == b2) w := run_equalIn_bool' w 9999 t b1 b2 hu
      exact ⟨_, hg _, by simp only [binOp, Op.equal, Op.maxDepth, Sem.run_bind, hq, Result.andThen_ok]; rfl, rep_bool _⟩
    · cases h
  · -- structs
    rename_i l1 l2
    obtain ⟨vs1, rfl, c1⟩ := ha.agg_inv
    obtain ⟨vs2, rfl, c2⟩ := hb.agg_inv
    split at h
    · rename_i ks hks
      obtain ⟨g1, g2⟩ := hK.eqs t ks hks
      have key : ∀ q, eqRow ks l1 l2 = some q → (Op.equalIn 10000 t (.agg vs1) (.agg vs2)).run K.P w = .ok q w := by
        intro q hq
        obtain ⟨s1, s2⟩ := eqRow_scal ks l1 l2 q hq
        have r1 := scal_cells c1 s1
        have r2 := scal_cells c2 s2
        have := (g2 l1 l2 q hq w).1
        rw [← r1, ← r2] at this
        simpa using this
      split at h
      · rename_i q hq
        simp only [Option.some.injEq] at h; subst h
        exact ⟨_, run_eqGuard_agg w _ t x y vs1 vs2 g1, by rw [run_eql_struct, key q hq]; rfl, .bool _⟩
      · rename_i q hq
        simp only [Option.some.injEq] at h; subst h
        exact ⟨_, run_eqGuard_agg w _ t x y vs1 vs2 g1, by rw [run_neq_struct, key q hq]; rfl, .bool _⟩
      · cases h
    · cases h
  · -- nil and nil
    cases ha with | pure _ _ h1 => cases hb with | pure _ _ h2 =>
      cases h1; cases h2
      have hg : ∀ op, (eqGuard op t x y (.pointer none) (.pointer none)).run K.P w = .ok () w := by intro op; cases op <;> rfl
      split at h
      · rename_i hu
        simp only [Option.some.injEq] at h; subst h
        exact ⟨_, hg _, by simp only [binOp, Op.equal, Op.maxDepth, Sem.run_bind, run_eq_nil1 w 9999 hu, Result.andThen_ok]; rfl, .bool _⟩
      · rename_i hu
        simp only [Option.some.injEq] at h; subst h
        exact ⟨_, hg _, by simp only [binOp, Op.equal, Op.maxDepth, Sem.run_bind, run_eq_nil1 w 9999 hu, Result.andThen_ok]; rfl, .bool _⟩
      · cases h
  · -- a pointer and nil
    cases ha with | bptr _ _ b hl hm => cases hb with | pure _ _ h2 =>
      cases h2
      have hg : ∀ op (o : Nat), (eqGuard op t x y (.pointer (some ⟨b, o, none⟩)) (.pointer none)).run K.P w = .ok () w := by intro op o; cases op <;> rfl
      split at h
      · rename_i hu
        simp only [Option.some.injEq] at h; subst h
        exact ⟨_, hg _ _, by simp only [binOp, Op.equal, Op.maxDepth, Sem.run_bind, run_eq_nil2 w 9999 hu, Result.andThen_ok]; rfl, .bool _⟩
      · rename_i hu
        simp only [Option.some.injEq] at h; subst h
        exact ⟨_, hg _ _, by simp only [binOp, Op.equal, Op.maxDepth, Sem.run_bind, run_eq_nil2 w 9999 hu, Result.andThen_ok]; rfl, .bool _⟩
      · cases h
  · -- a pointer and itself
    cases ha with | bptr _ _ b hl hm => cases hb with | bptr _ _ b' hl' hm' =>
      split at h
      · rename_i hn
        obtain ⟨rfl, rfl⟩ := hn
        rw [hm] at hm'
        cases hm'
        have hg : ∀ op (o : Nat), (eqGuard op t x y (.pointer (some ⟨b, o, none⟩)) (.pointer (some ⟨b, o, none⟩))).run K.P w = .ok () w := by intro op o; cases op <;> rfl
        split at h
        · rename_i hu
          split at h
          · rename_i hz
            obtain ⟨k, hk⟩ := Option.isSome_iff_exists.1 hz
            simp only [Option.some.injEq] at h; subst h
            exact ⟨_, hg _ _, by simp only [binOp, Op.equal, Op.maxDepth, Sem.run_bind, run_eq_self w 9999 hu hk, Result.andThen_ok]; rfl, .bool _⟩
          · cases h
        · rename_i hu
          split at h
          · rename_i hz
            obtain ⟨k, hk⟩ := Option.isSome_iff_exists.1 hz
            simp only [Option.some.injEq] at h; subst h
            exact ⟨_, hg _ _, by simp only [binOp, Op.equal, Op.maxDepth, Sem.run_bind, run_eq_self w 9999 hu hk, Result.andThen_ok]; rfl, .bool _⟩
          · cases h
        · cases h
      · cases h
  · cases h

end
end Go.Gh

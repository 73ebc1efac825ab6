/- Texts joined: the evaluator over ghost values, its soundness, the walks. Spaces struck and names made short by a program, for the size. -/
import Derived.Test.YtgmohiojddnfgaaGreatDoorGc4b
import Derived.Test.YtgmohiojddnfgaaGreatDoorGc4h
import Derived.ChangeKeysEq
namespace Go.Gh
set_option linter.unusedVariables false
set_option linter.unusedSimpArgs false
set_option linter.unnecessarySimpa false
set_option maxRecDepth 100000
set_option maxHeartbeats 8000000
section
open Go.WideShapes
def flatL (f : TypeId → Option (List SK)) : List TypeId → Option (List SK)
 | [] => some []
 | t :: r => match f t, flatL f r with | some a, some b => some (a ++ b) | _, _ => none
def flatK (P : Program) : Nat → TypeId → Option (List SK)
 | 0, _ => none
 | n + 1, t =>
  match P.underlying t with
  | some .bool => if P.cellsOf t = 1 then some [.bool] else none
  | some (.int k) => if P.cellsOf t = 1 then some [.int k] else none
  | some .string => if P.cellsOf t = 1 then some [.str] else none
  | some (.struct fs) => if consec P (P.cellsOf t) 0 (fs.toList.map fun f => (f.offset, f.type)) && fs.toList.all (·.name != "_") && !P.stoodInHeld t then flatL (flatK P n) (fs.toList.map (·.type)) else none
  | some (.array m e) => if decide (0 < m) && consec P (P.cellsOf t) 0 ((List.range m).map fun i => (i * P.cellsOf e, e)) then flatL (flatK P n) ((List.range m).map fun _ => e) else none
  | _ => none
def valOf (P : Program) (t : TypeId) (l : List Value) : Value :=
 match P.underlying t with
 | some (.struct _) | some (.array _ _) => .agg l.toArray
 | _ => l.headD undef
theorem eqRow_append : ∀ (k1 k2 : List SK) (a b : List PV) (q : Bool), eqRow (k1 ++ k2) a b = some q →
  ∃ q1 q2, eqRow k1 (a.take k1.length) (b.take k1.length) = some q1 ∧ eqRow k2 (a.drop k1.length) (b.drop k1.length) = some q2 ∧ q = (q1 && q2)
 | [], k2, a, b, q, h => ⟨true, q, rfl, h, by simp⟩
 | s :: ks, k2, [], b, q, h => by cases s <;> cases b <;> simp [eqRow] at h
 | s :: ks, k2, x :: a, [], q, h => by cases s <;> cases x <;> simp [eqRow] at h
 | s :: ks, k2, x :: a, y :: b, q, h => by
  have key : ∀ q', eqRow (ks ++ k2) a b = some q' → ∃ q1 q2, eqRow ks (a.take ks.length) (b.take ks.length) = some q1 ∧ eqRow k2 (a.drop ks.length) (b.drop ks.length) = some q2 ∧ q' = (q1 && q2) :=
   fun q' h => eqRow_append ks k2 a b q' h
  cases s with
  | int k =>
   cases x <;> cases y <;> simp only [List.cons_append, eqRow] at h
   all_goals first | (cases h; done) | skip
   split at h
   ·rename_i hk
    split at h
    ·rename_i q' hq'
     obtain ⟨q1, q2, e1, e2, rfl⟩ := key q' hq'
     simp only [Option.some.injEq] at h
     exact ⟨_, q2, by simp only [List.length_cons, List.take_succ_cons, eqRow, hk, and_self, if_true, e1]; rfl, by simpa using e2, by rw [← h, Bool.and_assoc]⟩
    ·cases h
   ·cases h
  | bool =>
   cases x <;> cases y <;> simp only [List.cons_append, eqRow] at h
   all_goals first | (cases h; done) | skip
   split at h
   ·rename_i q' hq'
    obtain ⟨q1, q2, e1, e2, rfl⟩ := key q' hq'
    simp only [Option.some.injEq] at h
    exact ⟨_, q2, by simp only [List.length_cons, List.take_succ_cons, eqRow, e1]; rfl, by simpa using e2, by rw [← h, Bool.and_assoc]⟩
   ·cases h
  | str =>
   cases x <;> cases y <;> simp only [List.cons_append, eqRow] at h
   all_goals first | (cases h; done) | skip
   split at h
   ·rename_i q' hq'
    obtain ⟨q1, q2, e1, e2, rfl⟩ := key q' hq'
    simp only [Option.some.injEq] at h
    exact ⟨_, q2, by simp only [List.length_cons, List.take_succ_cons, eqRow, e1]; rfl, by simpa using e2, by rw [← h, Bool.and_assoc]⟩
   ·cases h
theorem eqRow_len : ∀ (k : List SK) (a b : List PV) (q : Bool), eqRow k a b = some q → a.length = k.length ∧ b.length = k.length
 | [], a, b, q, h => by cases a <;> cases b <;> simp_all [eqRow]
 | s :: ks, [], b, q, h => by cases s <;> cases b <;> simp [eqRow] at h
 | s :: ks, x :: a, [], q, h => by cases s <;> cases x <;> simp [eqRow] at h
 | s :: ks, x :: a, y :: b, q, h => by
  have key : ∀ q', eqRow ks a b = some q' → (x :: a).length = (s :: ks).length ∧ (y :: b).length = (s :: ks).length := fun q' h => by
   have := eqRow_len ks a b q' h
   simp [this.1, this.2]
  cases s with
  | int k =>
   cases x <;> cases y <;> simp only [eqRow] at h
   all_goals first | (cases h; done) | skip
   split at h
   ·split at h
    ·rename_i q' hq'; exact key q' hq'
    ·cases h
   ·cases h
  | bool =>
   cases x <;> cases y <;> simp only [eqRow] at h
   all_goals first | (cases h; done) | skip
   split at h
   ·rename_i q' hq'; exact key q' hq'
   ·cases h
  | str =>
   cases x <;> cases y <;> simp only [eqRow] at h
   all_goals first | (cases h; done) | skip
   split at h
   ·rename_i q' hq'; exact key q' hq'
   ·cases h
section
variable {P : Program}
theorem flatL_cons {f : TypeId → Option (List SK)} {t : TypeId} {r : List TypeId} {ks : List SK} (h : flatL f (t :: r) = some ks) : ∃ a b, f t = some a ∧ flatL f r = some b ∧ ks = a ++ b := by
 simp only [flatL] at h
 split at h
 ·rename_i a b h1 h2; simp only [Option.some.injEq] at h; exact ⟨a, b, h1, h2, h.symm⟩
 ·cases h
theorem consec_len {n : Nat} (hf : ∀ t ks, flatK P n t = some ks → ks.length = P.cellsOf t) : ∀ (l : List (Nat × TypeId)) (o tot : Nat) (ks : List SK), consec P tot o l = true → flatL (flatK P n) (l.map (·.2)) = some ks → o + ks.length = tot
  | [], o, tot, ks, h, hk => by
    simp only [List.map_nil, flatL, Option.some.injEq] at hk
    subst hk
    simpa [consec] using h
  | (off, t) :: r, o, tot, ks, h, hk => by
    simp only [consec, Bool.and_eq_true, beq_iff_eq] at h
    obtain ⟨a, b, h1, h2, rfl⟩ := flatL_cons (by simpa using hk)
    have := consec_len hf r _ _ _ h.2 h2
    rw [List.length_append, hf t a h1]
    omega
theorem consec_le : ∀ (l : List (Nat × TypeId)) (o tot : Nat), consec P tot o l = true → o ≤ tot
  | [], o, tot, h => by simp only [consec, beq_iff_eq] at h; omega
  | (off, t) :: r, o, tot, h => by
    simp only [consec, Bool.and_eq_true, beq_iff_eq] at h
    have := consec_le r _ _ h.2
    omega
theorem flatK_len : ∀ (n : Nat) (t : TypeId) (ks : List SK), flatK P n t = some ks → ks.length = P.cellsOf t
 | 0, t, ks, h => by simp [flatK] at h
 | n + 1, t, ks, h => by
  unfold flatK at h
  split at h
  ·split at h
   ·rename_i e; simp at h; subst h; simp [e]
   ·cases h
  ·split at h
   ·rename_i e; simp at h; subst h; simp [e]
   ·cases h
  ·split at h
   ·rename_i e; simp at h; subst h; simp [e]
   ·cases h
  ·split at h
   ·rename_i hc
    simp only [Bool.and_eq_true] at hc
    have := consec_len (flatK_len n) _ 0 _ ks hc.1.1 (by rw [List.map_map]; exact h)
    omega
   ·cases h
  ·split at h
   ·rename_i hc
    simp only [Bool.and_eq_true] at hc
    have := consec_len (flatK_len n) _ 0 _ ks hc.2 (by rw [List.map_map]; exact h)
    omega
   ·cases h
  ·cases h
theorem flatK_und {n : Nat} {t : TypeId} {ks : List SK} (h : flatK P n t = some ks) : ∃ kd, P.underlying t = some kd := by
 cases n with
 | zero => simp [flatK] at h
 | succ n =>
  cases hu : P.underlying t with
  | none => simp [flatK, hu] at h
  | some kd => exact ⟨kd, rfl⟩
theorem run_part_val (w : World) {n : Nat} {t : TypeId} {ks : List SK} (h : flatK P n t = some ks) (xs : List Value) (off : Nat) (hlen : off + P.cellsOf t ≤ xs.length) :
  (part t xs.toArray off).run P w = .ok (valOf P t ((xs.drop off).take (P.cellsOf t))) w := by
 cases n with
 | zero => simp [flatK] at h
 | succ n =>
  unfold flatK at h
  have hone : P.cellsOf t = 1 → ((xs.drop off).take (P.cellsOf t)).headD undef = xs.getD off undef ∧ off < xs.length := by
   intro e
   rw [e] at hlen ⊢
   refine ⟨?_, by omega⟩
   simp [List.headD_eq_head?_getD, List.head?_take, List.head?_drop, List.getD_eq_getElem?_getD]
  have hagg : ∀ kd, P.underlying t = some kd → (∃ fs, kd = .struct fs) ∨ (∃ m e, kd = .array m e) → (part t xs.toArray off).run P w = .ok (.agg ((xs.drop off).take (P.cellsOf t)).toArray) w := by
   intro kd hu hk
   obtain ⟨i, hi⟩ := info_of_underlying hu
   have e : xs.toArray.extract off (off + P.cellsOf t) = ((xs.drop off).take (P.cellsOf t)).toArray := by
    apply Array.toList_inj.1
    simp [Array.toList_extract, List.extract]
   rcases hk with ⟨fs, rfl⟩ | ⟨m, e', rfl⟩ <;> simp [part, isAgg, run_underlying hu, run_sizeOf w hi, e]
  unfold valOf
  split at h
  ·rename_i ht
   split at h
   ·rename_i e
    rw [(hone e).1]
    have := (hone e).2
    simp [part, isAgg, run_underlying ht, this, List.getD_eq_getElem?_getD, ht]
   ·cases h
  ·rename_i ht
   split at h
   ·rename_i e
    rw [(hone e).1]
    have := (hone e).2
    simp [part, isAgg, run_underlying ht, this, List.getD_eq_getElem?_getD, ht]
   ·cases h
  ·rename_i ht
   split at h
   ·rename_i e
    rw [(hone e).1]
    have := (hone e).2
    simp [part, isAgg, run_underlying ht, this, List.getD_eq_getElem?_getD, ht]
   ·cases h
  ·rename_i fs ht
   simp only [ht]
   exact hagg _ ht (.inl ⟨_, rfl⟩)
  ·rename_i m e ht
   simp only [ht]
   exact hagg _ ht (.inr ⟨_, _, rfl⟩)
  ·cases h
def EqAt' (P : Program) (n d : Nat) (t : TypeId) : Prop := ∀ ks, flatK P n t = some ks → ∀ (a b : List PV) (q : Bool), eqRow ks a b = some q →
 ∀ w, (Op.equalIn d t (valOf P t (a.map scalV)) (valOf P t (b.map scalV))).run P w = .ok q w
def CkAt (P : Program) (n d : Nat) (t : TypeId) : Prop := ∀ ks, flatK P n t = some ks → ∀ (a : List PV), a.length = ks.length → ∀ e w, (Instr.checkKey e d t (valOf P t (a.map scalV))).run P w = .ok () w
theorem run_eqFields_flat {n d : Nat} (ih : ∀ t, EqAt' P n d t) : ∀ (fs : List Field) (o : Nat) (ks : List SK) (a b : List PV) (q : Bool), consec P a.length o (fs.map fun f => (f.offset, f.type)) = true → (fs.all (·.name != "_")) = true →
  flatL (flatK P n) (fs.map (·.type)) = some ks → a.length = b.length → eqRow ks (a.drop o) (b.drop o) = some q → ∀ w, (Op.eqFields d (a.map scalV).toArray (b.map scalV).toArray fs).run P w = .ok q w
 | [], o, ks, a, b, q, hc, hn, hk, hl, he, w => by
  simp only [List.map_nil, flatL, Option.some.injEq] at hk
  subst hk
  have hl1 := eqRow_len _ _ _ _ he
  have e1 : a.drop o = [] := List.length_eq_zero_iff.1 hl1.1
  have e2 : b.drop o = [] := List.length_eq_zero_iff.1 hl1.2
  rw [e1, e2] at he
  simp only [eqRow, Option.some.injEq] at he
  subst he
  simp [Op.eqFields]
 | f :: fs, o, ks, a, b, q, hc, hn, hk, hl, he, w => by
  simp only [List.map_cons, consec, Bool.and_eq_true, beq_iff_eq] at hc
  obtain ⟨rfl, hc⟩ := hc
  simp only [List.all_cons, Bool.and_eq_true, bne_iff_ne, ne_eq] at hn
  obtain ⟨k1, k2, h1, h2, rfl⟩ := flatL_cons (by simpa using hk)
  obtain ⟨q1, q2, g1, g2, rfl⟩ := eqRow_append k1 k2 _ _ q he
  have hk1 := flatK_len n _ _ h1
  have hle := consec_le _ _ _ hc
  have hkl := eqRow_len _ _ _ _ he
  simp only [List.length_drop, List.length_append] at hkl
  rw [List.drop_drop, List.drop_drop] at g2
  rw [hk1] at g1 g2
  have p1 := run_part_val w h1 (a.map scalV) f.offset (by simp; omega)
  have p2 := run_part_val w h1 (b.map scalV) f.offset (by simp; omega)
  rw [← List.map_drop, ← List.map_take] at p1 p2
  have p3 := ih f.type k1 h1 _ _ q1 g1 w
  have rest := run_eqFields_flat ih fs _ k2 a b q2 hc (by simpa using hn.2) h2 hl g2 w
  simp only [Op.eqFields, hn.1, ne_eq, not_false_eq_true, if_true, Sem.run_bind, p1, p2, p3, Result.andThen_ok]
  cases q1
  ·simp
  ·simpa using rest
theorem run_eqItems_flat {n d : Nat} {e : TypeId} (ih : ∀ t, EqAt' P n d t) : ∀ (is : List Nat) (o : Nat) (ks : List SK) (a b : List PV) (q : Bool), consec P a.length o (is.map fun i => (i * P.cellsOf e, e)) = true →
  flatL (flatK P n) (is.map fun _ => e) = some ks → a.length = b.length → eqRow ks (a.drop o) (b.drop o) = some q → ∀ w, (Op.eqItems d e (P.cellsOf e) (a.map scalV).toArray (b.map scalV).toArray is).run P w = .ok q w
 | [], o, ks, a, b, q, hc, hk, hl, he, w => by
  simp only [List.map_nil, flatL, Option.some.injEq] at hk
  subst hk
  have hl1 := eqRow_len _ _ _ _ he
  have e1 : a.drop o = [] := List.length_eq_zero_iff.1 hl1.1
  have e2 : b.drop o = [] := List.length_eq_zero_iff.1 hl1.2
  rw [e1, e2] at he
  simp only [eqRow, Option.some.injEq] at he
  subst he
  simp [Op.eqItems]
 | i :: is, o, ks, a, b, q, hc, hk, hl, he, w => by
  simp only [List.map_cons, consec, Bool.and_eq_true, beq_iff_eq] at hc
  obtain ⟨rfl, hc⟩ := hc
  obtain ⟨k1, k2, h1, h2, rfl⟩ := flatL_cons (by simpa using hk)
  obtain ⟨q1, q2, g1, g2, rfl⟩ := eqRow_append k1 k2 _ _ q he
  have hk1 := flatK_len n _ _ h1
  have hle := consec_le _ _ _ hc
  have hkl := eqRow_len _ _ _ _ he
  simp only [List.length_drop, List.length_append] at hkl
  rw [List.drop_drop, List.drop_drop] at g2
  rw [hk1] at g1 g2
  have p1 := run_part_val w h1 (a.map scalV) (i * P.cellsOf e) (by simp; omega)
  have p2 := run_part_val w h1 (b.map scalV) (i * P.cellsOf e) (by simp; omega)
  rw [← List.map_drop, ← List.map_take] at p1 p2
  have p3 := ih e k1 h1 _ _ q1 g1 w
  have rest := run_eqItems_flat ih is _ k2 a b q2 hc h2 hl g2 w
  simp only [Op.eqItems, Sem.run_bind, p1, p2, p3, Result.andThen_ok]
  cases q1
  ·simp
  ·simpa using rest
theorem eqAt_flat (d : Nat) : ∀ (n : Nat) (t : TypeId), EqAt' P n (d + n) t
 | 0, t => fun ks h => by simp [flatK] at h
 | n + 1, t => fun ks h a b q he w => by
  have ih := fun t => eqAt_flat d n t
  have hl := flatK_len _ _ _ h
  have hl2 := eqRow_len _ _ _ _ he
  unfold flatK at h
  unfold valOf
  rw [show d + (n + 1) = (d + n) + 1 from rfl]
  split at h
  ·rename_i ht
   split at h
   ·simp only [Option.some.injEq] at h
    subst h
    match a, b, he with
    | [.bool x], [.bool y], he =>
     simp only [eqRow, Option.some.injEq, Bool.and_true] at he
     simp only [List.map_cons, List.map_nil, List.headD_cons, scalV, ht]
     rw [run_equalIn_bool' w _ _ _ _ ht, he]
   ·cases h
  ·rename_i k ht
   split at h
   ·simp only [Option.some.injEq] at h
    subst h
    match a, b, he with
    | [.int k1 x], [.int k2 y], he =>
     simp only [eqRow] at he
     split at he
     ·rename_i hk
      simp only [Option.some.injEq, Bool.and_true] at he
      obtain ⟨rfl, rfl⟩ := hk
      simp only [List.map_cons, List.map_nil, List.headD_cons, scalV, ht]
      rw [run_equalIn_int w _ _ _ _ _ _ ht, ‹(x == y) = q›]
     ·cases he
   ·cases h
  ·rename_i ht
   split at h
   ·simp only [Option.some.injEq] at h
    subst h
    match a, b, he with
    | [.str x], [.str y], he =>
     simp only [eqRow, Option.some.injEq, Bool.and_true] at he
     simp only [List.map_cons, List.map_nil, List.headD_cons, scalV, ht]
     rw [run_equalIn_string w _ _ _ _ ht]
     simp [ByteArray.toList_eq, he]
   ·cases h
  ·rename_i fs ht
   split at h
   ·rename_i hc
    simp only [Bool.and_eq_true, Bool.not_eq_true'] at hc
    have hfo : P.fieldsOf t = fs := by simp [Program.fieldsOf, ht]
    simp only [ht]
    rw [run_equalIn_struct w _ _ _ _ (by rw [hfo]; exact ht) hc.2, hfo]
    exact run_eqFields_flat ih fs.toList 0 ks a b q (by rw [hl2.1, hl]; exact hc.1.1) hc.1.2 h (by omega) (by simpa using he) w
   ·cases h
  ·rename_i m e ht
   split at h
   ·rename_i hc
    simp only [Bool.and_eq_true, decide_eq_true_eq] at hc
    have hinf : ∃ i, P.info? e = some i := by
     obtain ⟨m, rfl⟩ : ∃ m', m = m' + 1 := ⟨m - 1, by omega⟩
     rw [List.range_succ_eq_map, List.map_cons] at h
     obtain ⟨k1, _, h1, _⟩ := flatL_cons h
     obtain ⟨kd, hu⟩ := flatK_und h1
     exact info_of_underlying hu
    obtain ⟨i, hi⟩ := hinf
    simp only [ht]
    rw [run_equalIn_array w _ _ _ ht hi]
    exact run_eqItems_flat ih (List.range m) 0 ks a b q (by rw [hl2.1, hl]; exact hc.2) h (by omega) (by simpa using he) w
   ·cases h
  ·cases h
theorem ckAt_flat (d : Nat) : ∀ (n : Nat) (t : TypeId), CkAt P n (d + n) t
 | 0, t => fun ks h => by simp [flatK] at h
 | n + 1, t => fun ks h a hal e w => by
  have ih := fun t => ckAt_flat d n t
  have hl := flatK_len _ _ _ h
  unfold flatK at h
  unfold valOf
  rw [show d + (n + 1) = (d + n) + 1 from rfl, Instr.checkKey]
  split at h
  ·rename_i ht
   simp only [ht, Sem.run_bind, run_underlying ht, Result.andThen_ok, Sem.run_pure]
  ·rename_i k ht
   simp only [ht, Sem.run_bind, run_underlying ht, Result.andThen_ok, Sem.run_pure]
  ·rename_i ht
   simp only [ht, Sem.run_bind, run_underlying ht, Result.andThen_ok, Sem.run_pure]
  ·rename_i fs ht
   split at h
   ·rename_i hc
    simp only [Bool.and_eq_true, Bool.not_eq_true'] at hc
    simp only [ht, Sem.run_bind, run_underlying ht, Result.andThen_ok]
    rw [← Array.forIn_toList]
    have key : ∀ (L : List Field) (o : Nat) (ks : List SK), consec P a.length o (L.map fun f => (f.offset, f.type)) = true → (L.all (·.name != "_")) = true → flatL (flatK P n) (L.map (·.type)) = some ks →
      (forIn L PUnit.unit (fun f (_ : PUnit) => if f.name ≠ "_" then (do
       let p ← part f.type (a.map scalV).toArray f.offset
       Instr.checkKey e (d + n) f.type p
       pure (ForInStep.yield PUnit.unit)) else pure (ForInStep.yield PUnit.unit)) : Sem PUnit).run P w = .ok PUnit.unit w := by
     intro L
     induction L with
     | nil => intro o ks _ _ _; simp
     | cons f L ihL =>
      intro o ks hc hn hk
      simp only [List.map_cons, consec, Bool.and_eq_true, beq_iff_eq] at hc
      obtain ⟨rfl, hc⟩ := hc
      simp only [List.all_cons, Bool.and_eq_true, bne_iff_ne, ne_eq] at hn
      obtain ⟨k1, k2, h1, h2, rfl⟩ := flatL_cons (by simpa using hk)
      have hk1 := flatK_len n _ _ h1
      have hle := consec_le _ _ _ hc
      have p1 := run_part_val w h1 (a.map scalV) f.offset (by simp; omega)
      rw [← List.map_drop, ← List.map_take] at p1
      have p2 := ih f.type k1 h1 ((a.drop f.offset).take (P.cellsOf f.type)) (by simp; omega) e w
      have := ihL _ _ hc (by simpa using hn.2) h2
      simp only [List.forIn_cons, Sem.run_bind, hn.1, ne_eq, not_false_eq_true, if_true, p1, p2, Result.andThen_ok, Sem.run_pure]
      exact this
    have := key fs.toList 0 ks (by rw [hal, hl]; exact hc.1.1) hc.1.2 h
    rw [this]; rfl
   ·cases h
  ·rename_i m el ht
   split at h
   ·rename_i hc
    simp only [Bool.and_eq_true, decide_eq_true_eq] at hc
    have hinf : ∃ i, P.info? el = some i := by
     obtain ⟨m, rfl⟩ : ∃ m', m = m' + 1 := ⟨m - 1, by omega⟩
     rw [List.range_succ_eq_map, List.map_cons] at h
     obtain ⟨k1, _, h1, _⟩ := flatL_cons h
     obtain ⟨kd, hu⟩ := flatK_und h1
     exact info_of_underlying hu
    obtain ⟨i, hi⟩ := hinf
    simp only [ht, Sem.run_bind, run_underlying ht, Result.andThen_ok]
    simp only [Std.Legacy.Range.forIn_eq_forIn_range', Std.Legacy.Range.size, Nat.sub_zero, Nat.add_one_sub_one, Nat.div_one]
    rw [← List.range_eq_range']
    have key : ∀ (L : List Nat) (o : Nat) (ks : List SK), consec P a.length o (L.map fun i => (i * P.cellsOf el, el)) = true → flatL (flatK P n) (L.map fun _ => el) = some ks →
      (forIn L PUnit.unit (fun i (_ : PUnit) => do
       Instr.checkKey e (d + n) el (← part el (a.map scalV).toArray (i * (← sizeOf el)))
       pure (ForInStep.yield PUnit.unit)) : Sem PUnit).run P w = .ok PUnit.unit w := by
     intro L
     induction L with
     | nil => intro o ks _ _; simp
     | cons j L ihL =>
      intro o ks hc hk
      simp only [List.map_cons, consec, Bool.and_eq_true, beq_iff_eq] at hc
      obtain ⟨rfl, hc⟩ := hc
      obtain ⟨k1, k2, h1, h2, rfl⟩ := flatL_cons (by simpa using hk)
      have hk1 := flatK_len n _ _ h1
      have hle := consec_le _ _ _ hc
      have p1 := run_part_val w h1 (a.map scalV) (j * P.cellsOf el) (by simp; omega)
      rw [← List.map_drop, ← List.map_take] at p1
      have p2 := ih el k1 h1 ((a.drop (j * P.cellsOf el)).take (P.cellsOf el)) (by simp; omega) e w
      have := ihL _ _ hc h2
      simp only [List.forIn_cons, Sem.run_bind, run_sizeOf w hi, p1, p2, Result.andThen_ok, Sem.run_pure]
      exact this
    have := key (List.range m) 0 ks (by rw [hal, hl]; exact hc.2) h
    rw [this]; rfl
   ·cases h
  ·cases h
theorem eqOk_of {t : TypeId} {ks : List SK} (n : Nat) (hn : n ≤ 10000) (hg : P.eqGuardType P.depth t = false) (hk : flatK P n t = some ks) (ha : tagg P t = some true) : EqOk P t ks := by
 refine ⟨hg, fun a b q h w => ⟨?_, fun e => ?_⟩⟩
 ·have h1 := eqAt_flat (P := P) (10000 - n) n t ks hk a b q h w
  rw [Nat.sub_add_cancel hn] at h1
  unfold valOf at h1
  unfold tagg at ha
  split at ha <;> rename_i hu <;> first | (rw [hu] at h1; exact h1) | (cases ha)
 ·have h1 := ckAt_flat (P := P) (10000 - n) n t ks hk a (eqRow_len _ _ _ _ h).1 e w
  rw [Nat.sub_add_cancel hn] at h1
  unfold valOf at h1
  unfold tagg at ha
  split at ha <;> rename_i hu <;> first | (rw [hu] at h1; exact h1) | (cases ha)
end
end
end Go.Gh

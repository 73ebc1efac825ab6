/- The calculus: loops by number, looks at other heaps, numbers, boxes with a number. -/
import Derived.Test.YtgmohiojddnfgaaGreatDoorWp4
import Derived.IntWalk
import Derived.Test.YtgmohiojddnfgaaGreatDoorBase
namespace Go.Gh
set_option linter.unusedSimpArgs false
set_option linter.unusedVariables false

/-- The bodies of the loops of a piece of code, in the text's order. -/
def loopsOf : Code → List Code
  | .seq a b => loopsOf a ++ loopsOf b
  | .cond _ a b => loopsOf a ++ loopsOf b
  | .block _ a => loopsOf a
  | .scope a => loopsOf a
  | .loop a => a :: loopsOf a
  | .rangeFunc _ _ a b => loopsOf a ++ loopsOf b
  | _ => []
def lp (g : Func) (k : Nat) : Code := ((loopsOf (g.body.getD .skip))[k]?).getD .skip

/-- A value that the kernel does not unfold. -/
noncomputable def hid {α : Type} (a : α) : α := Classical.choose (⟨a, rfl⟩ : ∃ x, x = a)
theorem hid_eq {α : Type} (a : α) : hid a = a := Classical.choose_spec (⟨a, rfl⟩ : ∃ x, x = a)

@[simp] theorem firstRegion_scope {a : Code} : firstRegion (.scope a) = firstRegion a := .trans rfl rfl
@[simp] theorem firstRegion_label {l : Nat} : firstRegion (.label l) = 0 := .trans rfl rfl

section
variable {K : Ctx} {fn : FuncId} {H : Heap}
def saV (v : GV) (x : Option (GV × Heap)) : Bool := match x with | some (v', _) => GV.beq v' v | none => false
@[simp] theorem saV_some {v v' : GV} : saV v (some (v', H)) = GV.beq v' v := rfl
@[simp] theorem sameAt_def {o : Oper} {s : Slots} {v : GV} : sameAt K fn o s v H = saV v (gop K fn o s H) := by
  unfold sameAt saV; rfl

@[simp] theorem natCast_lt_zero (n : Nat) : ((n : Int) < 0) = False := by simp
theorem w64 {x : Int} (h1 : -9223372036854775808 ≤ x) (h2 : x ≤ 9223372036854775807) : IntKind.i64.wrap x = x := IntWalk.i64_in x ⟨h1, h2⟩

/-! ### a box with a word -/
def wbox (w : Int) : Blk := .box [.pure (.int .u64 w)]
def isBox (H : Heap) (nm : Nm) : Prop := ∃ w, H.get nm = some (wbox w) ∧ H.set nm (wbox w) = H
def wordAt (H : Heap) (nm : Nm) : Int := match H.get nm with | some (.box [.pure (.int _ w)]) => w | _ => 0
theorem isBox_get {nm : Nm} (h : isBox H nm) : H.get nm = some (wbox (wordAt H nm)) := by
  obtain ⟨w, h1, h2⟩ := h
  simp only [wordAt, h1, wbox]
theorem isBox_set {nm : Nm} (h : isBox H nm) : H.set nm (wbox (wordAt H nm)) = H := by
  obtain ⟨w, h1, h2⟩ := h
  simp only [wordAt, h1, wbox]
  exact h2
theorem isBox_lt {nm : Nm} (h : isBox H nm) : nm.1 < H.length := by
  obtain ⟨w, h1, h2⟩ := h
  exact Heap.get_lt h1
theorem Fr.ins_ins {q : Nat} {x y : Blk} : ∀ f : Fr, (f.ins q x).ins q y = f.ins q y
  | [] => by simp [Fr.ins]
  | (k, b) :: r => by
    simp only [Fr.ins]
    split
    · simp [Fr.ins]
    · rename_i h
      split
      · simp [Fr.ins]
      · rename_i h2
        simp only [Fr.ins, h, h2, if_false, Fr.ins_ins r]
@[simp] theorem Heap.set_set {nm : Nm} {x y : Blk} : ∀ {H : Heap}, (H.set nm x).set nm y = H.set nm y
  | [] => rfl
  | f :: H => by
    simp only [Heap.set]
    split
    · rename_i h; simp only [Heap.set, h, if_true, Fr.ins_ins]
    · rename_i h; simp only [Heap.set, Heap.length_set, h, if_false, Heap.set_set]
attribute [simp] Heap.length_set
@[simp] theorem Heap.get_set' {nm : Nm} {b : Blk} (h : nm.1 < H.length) : (H.set nm b).get nm = some b := Heap.get_set b h
@[simp] theorem wordAt_set {nm : Nm} {w : Int} (h : nm.1 < H.length) : wordAt (H.set nm (wbox w)) nm = w := by
  simp only [wordAt, Heap.get_set' h, wbox]
@[simp] theorem isBox_set' {nm : Nm} {w : Int} (h : nm.1 < H.length) : isBox (H.set nm (wbox w)) nm := ⟨w, Heap.get_set' h, Heap.set_set⟩
theorem isBox_up {nm : Nm} {fr : Fr} (h : isBox H nm) : isBox (fr :: H) nm := by
  have hl := isBox_lt h
  obtain ⟨w, h1, h2⟩ := h
  have : ¬ nm.1 = H.length := by omega
  exact ⟨w, by simp [this, h1], by simp [this, h2]⟩
theorem wordAt_up {nm : Nm} {fr : Fr} (h : nm.1 < H.length) : wordAt (fr :: H) nm = wordAt H nm := by
  have : ¬ nm.1 = H.length := by omega
  simp [wordAt, this]
theorem Heap.set_up {nm : Nm} {fr : Fr} {b : Blk} (h : nm.1 < H.length) : Heap.set (fr :: H) nm b = fr :: H.set nm b := by
  have : ¬ nm.1 = H.length := by omega
  simp [this]
end
end Go.Gh


/- The drawn regions of all functions may be walked in the text's order (made by program). -/
namespace Go.Gh
open Go.Proofs
theorem good52 : good KC needT 52 (Tryz.f52.body.getD .skip) = true := by kernel_rfl
theorem good50 : good KC needT 50 (Tryz.f50.body.getD .skip) = true := by kernel_rfl
theorem good46 : good KC needT 46 (Tryz.f46.body.getD .skip) = true := by kernel_rfl
theorem good27 : good KC needT 27 (Tryz.f27.body.getD .skip) = true := by kernel_rfl
theorem good44 : good KC needT 44 (Tryz.f44.body.getD .skip) = true := by kernel_rfl
theorem good43 : good KC needT 43 (Tryz.f43.body.getD .skip) = true := by kernel_rfl
theorem good42 : good KC needT 42 (Tryz.f42.body.getD .skip) = true := by kernel_rfl
theorem good47 : good KC needT 47 (Tryz.f47.body.getD .skip) = true := by kernel_rfl
theorem good7 : good KC needT 7 (Tryz.f7.body.getD .skip) = true := by kernel_rfl
theorem good53 : good KC needT 53 (Tryz.f53.body.getD .skip) = true := by kernel_rfl
theorem good15 : good KC needT 15 (Tryz.f15.body.getD .skip) = true := by kernel_rfl
theorem good12 : good KC needT 12 (Tryz.f12.body.getD .skip) = true := by kernel_rfl
theorem good92 : good KC needT 92 (Tryz.f92.body.getD .skip) = true := by kernel_rfl
theorem good96 : good KC needT 96 (Tryz.f96.body.getD .skip) = true := by kernel_rfl
theorem good59 : good KC needT 59 (Tryz.f59.body.getD .skip) = true := by kernel_rfl
theorem good54 : good KC needT 54 (Tryz.f54.body.getD .skip) = true := by kernel_rfl
theorem good58 : good KC needT 58 (Tryz.f58.body.getD .skip) = true := by kernel_rfl
theorem good93 : good KC needT 93 (Tryz.f93.body.getD .skip) = true := by kernel_rfl
theorem good48 : good KC needT 48 (Tryz.f48.body.getD .skip) = true := by kernel_rfl
theorem good14 : good KC needT 14 (Tryz.f14.body.getD .skip) = true := by kernel_rfl
theorem good11 : good KC needT 11 (Tryz.f11.body.getD .skip) = true := by kernel_rfl
theorem good49 : good KC needT 49 (Tryz.f49.body.getD .skip) = true := by kernel_rfl
theorem good89 : good KC needT 89 (Tryz.f89.body.getD .skip) = true := by kernel_rfl
theorem good122 : good KC needT 122 (Tryz.f122.body.getD .skip) = true := by kernel_rfl
theorem good56 : good KC needT 56 (Tryz.f56.body.getD .skip) = true := by kernel_rfl
theorem good57 : good KC needT 57 (Tryz.f57.body.getD .skip) = true := by kernel_rfl
theorem good85 : good KC needT 85 (Tryz.f85.body.getD .skip) = true := by kernel_rfl
theorem good13 : good KC needT 13 (Tryz.f13.body.getD .skip) = true := by kernel_rfl
theorem good10 : good KC needT 10 (Tryz.f10.body.getD .skip) = true := by kernel_rfl
theorem good16 : good KC needT 16 (Tryz.f16.body.getD .skip) = true := by kernel_rfl
theorem good9 : good KC needT 9 (Tryz.f9.body.getD .skip) = true := by kernel_rfl
theorem good45 : good KC needT 45 (Tryz.f45.body.getD .skip) = true := by kernel_rfl
theorem good3 : good KC needT 3 (Tryz.f3.body.getD .skip) = true := by kernel_rfl
end Go.Gh


/- Lists that are built by appends: how they lie in a function's frame. -/
namespace Go.Gh
set_option linter.unusedSimpArgs false
set_option linter.unusedVariables false

@[simp] theorem ne_add2 (n : Nat) : (n = n + 1 + 1) = False := by simp; omega
@[simp] theorem ne_add3 (n : Nat) : (n = n + 1 + 1 + 1) = False := by simp; omega
@[simp] theorem ne_add4 (n : Nat) : (n = n + 1 + 1 + 1 + 1) = False := by simp; omega
@[simp] theorem ne_add2' (n : Nat) : (n + 1 + 1 = n) = False := by simp; omega
@[simp] theorem ne_add3' (n : Nat) : (n + 1 + 1 + 1 = n) = False := by simp; omega
@[simp] theorem nle_add2 (n : Nat) : (n + 1 + 1 ≤ n) = False := by simp; omega
@[simp] theorem nle_add3 (n : Nat) : (n + 1 + 1 + 1 ≤ n) = False := by simp; omega
@[simp] theorem le_add2 (n : Nat) : (n ≤ n + 1 + 1) = True := by simp; omega
@[simp] theorem le_add3 (n : Nat) : (n ≤ n + 1 + 1 + 1) = True := by simp; omega
def apS (nm : Nm) (es : Nat) (rows : List (List PV)) : GV := if rows = [] then .nils else .hdr nm es rows.length 0 rows.length
def apF (key es : Nat) (rows : List (List PV)) (fr : Fr) : Fr := if rows = [] then fr else fr.ins key (.arr es rows 0 false)

theorem apS_nil {nm : Nm} {es : Nat} : apS nm es [] = .nils := rfl
theorem apF_nil {key es : Nat} {fr : Fr} : apF key es [] fr = fr := rfl

theorem Fr.ins_comm {q p : Nat} (x y : Blk) (h : q ≠ p) : ∀ f : Fr, (f.ins p y).ins q x = (f.ins q x).ins p y
  | [] => by
    simp only [Fr.ins, h, Ne.symm h, if_false]
    split
    · rename_i h1; rw [if_neg (by omega)]
    · rename_i h1; rw [if_pos (by omega)]
  | (k, b) :: r => by
    have hp : ¬ p = q := fun e => h e.symm
    by_cases h1 : p = k
    · subst h1
      by_cases h3 : q < p
      · simp [Fr.ins, h, h3, hp, show ¬ p < q by omega]
      · simp [Fr.ins, h, h3]
    · by_cases h2 : q = k
      · subst h2
        by_cases h3 : p < q
        · simp [Fr.ins, h, h3, hp, show ¬ q < p by omega]
        · simp [Fr.ins, h1, h3]
      · by_cases h3 : p < k
        · by_cases h4 : q < k
          · by_cases h5 : q < p
            · simp [Fr.ins, h, hp, h1, h2, h3, h4, h5, show ¬ p < q by omega]
            · simp [Fr.ins, h, hp, h1, h2, h3, h4, h5, show p < q by omega]
          · simp [Fr.ins, h, hp, h1, h2, h3, h4, show ¬ q < p by omega]
        · by_cases h4 : q < k
          · simp [Fr.ins, h, hp, h1, h2, h3, h4, show ¬ p < q by omega]
          · simp [Fr.ins, h1, h2, h3, h4, Fr.ins_comm x y h r]

section
variable {key es : Nat} {rows : List (List PV)} {fr : Fr} {H : Heap} {nm : Nm}
@[simp] theorem apF_get {k : Nat} (h : k ≠ key) : (apF key es rows fr).get k = fr.get k := by
  unfold apF; split
  · rfl
  · exact Fr.get_ins_other _ h _
@[simp] theorem apF_ins {k : Nat} {b : Blk} (h : k ≠ key) : (apF key es rows fr).ins k b = apF key es rows (fr.ins k b) := by
  unfold apF; split
  · rfl
  · exact Fr.ins_comm _ _ h _
theorem apF_self (h : rows ≠ []) : (apF key es rows fr).get key = some (.arr es rows 0 false) := by
  unfold apF; rw [if_neg h]; exact Fr.get_ins _ _ _
@[simp] theorem cellsO_apS : cellsO (apS nm es rows) = some [apS nm es rows] := by
  unfold apS; split <;> rfl
@[simp] theorem lowerCell_apS {l0 : Nat} (h : nm.1 ≤ l0) : lowerCell H l0 (apS nm es rows) = (apS nm es rows, H) := by
  unfold apS; split
  · rfl
  · simp [h]
@[simp] theorem lenD_apS {e : TypeId} : lenD (some (.slice e)) H (apS nm es rows) = some (rows.length : Int) := by
  unfold apS; split
  · rename_i h; subst h; rfl
  · rfl
@[simp] theorem allPure_apS {r : List GV} : allPure (apS nm es rows :: r) = none := by
  unfold apS; split <;> rfl
@[simp] theorem clean_apS_keep {l0 : Nat} (h : nm.1 ≤ l0) : clean H l0 (apS nm es rows) = apS nm es rows := by
  unfold apS; split
  · rfl
  · simp [h]
/-- One row more. -/
theorem apK_apS {l bytes : Nat} {r : List PV} {H' : Heap} (hg : rows = [] → H'.get (l, key) = none) (hg2 : rows ≠ [] → H'.get (l, key) = some (.arr es rows 0 false)) (hl : l < H'.length) (hb : (rows.length + 1) * bytes ≤ 1099511627776) (hk : key < tyBase) :
    apK l key (apS (l, key) es rows) es bytes [r] H' = some (apS (l, key) es (rows ++ [r]), H'.set (l, key) (.arr es (rows ++ [r]) 0 false)) := by
  unfold apS
  by_cases h : rows = []
  · subst h
    have h1 := hg rfl
    have h2 : ¬ H'.length ≤ l := by omega
    have h3 : bytes ≤ 1099511627776 := by simpa using hb
    simp [h1, h2, h3]
  · have h1 := hg2 h
    simp [h, h1, hb, lt_tyBase ▸ hk]
@[simp] theorem apK_0 {l bytes : Nat} {r : List PV} (hl : H.length = l) (hf : fr.get key = none) (hb : (rows.length + 1) * bytes ≤ 1099511627776) (hk : key < tyBase) :
    apK l key (apS (l, key) es rows) es bytes [r] (apF key es rows fr :: H) = some (apS (l, key) es (rows ++ [r]), apF key es (rows ++ [r]) fr :: H) := by
  subst hl
  rw [apK_apS (fun h => by subst h; simp [apF, hf]) (fun h => by simp [apF_self h]) (by simp) hb hk]
  simp [apF]
  split
  · rfl
  · rw [Fr.ins_ins]
@[simp] theorem apK_1 {l bytes : Nat} {r : List PV} {f0 : Fr} (hl : H.length = l) (hf : fr.get key = none) (hb : (rows.length + 1) * bytes ≤ 1099511627776) (hk : key < tyBase) :
    apK l key (apS (l, key) es rows) es bytes [r] (f0 :: apF key es rows fr :: H) = some (apS (l, key) es (rows ++ [r]), f0 :: apF key es (rows ++ [r]) fr :: H) := by
  subst hl
  rw [apK_apS (fun h => by subst h; simp [apF, hf]) (fun h => by simp [apF_self h]) (by simp; omega) hb hk]
  simp [apF]
  split
  · rfl
  · rw [Fr.ins_ins]
/-- A list's end: what it is behind the call. -/
theorem cc_apS {l l0 : Nat} (hl : H.length = l) (h : l0 < l) : canon (clean (apF key es rows fr :: H) l0 (apS (l, key) es rows)) = .pure (.slice rows) := by
  subst hl
  unfold apS
  by_cases hr : rows = []
  · subst hr; simp
  · have : ¬ H.length ≤ l0 := by omega
    simp [hr, this, apF_self hr]
theorem clean1_apS {l l0 : Nat} {F : Fr} (hl : H.length = l) (h : l0 < l) (hF : rows ≠ [] → F.get key = some (.arr es rows 0 false)) : clean1 (F :: H) l0 (apS (l, key) es rows) = if rows = [] then .nils else .pure (.slice rows) := by
  subst hl
  unfold apS
  by_cases hr : rows = []
  · subst hr; simp
  · have : ¬ H.length ≤ l0 := by omega
    simp [hr, this, hF hr]
theorem cc_agg2 {l l0 k1 k2 e1 e2 : Nat} {F : Fr} {r1 r2 : List (List PV)} (hl : H.length = l) (h : l0 < l) (h1 : r1 ≠ [] → F.get k1 = some (.arr e1 r1 0 false)) (h2 : r2 ≠ [] → F.get k2 = some (.arr e2 r2 0 false)) :
    canon (clean (F :: H) l0 (.agg [apS (l, k1) e1 r1, apS (l, k2) e2 r2])) = .pure (.agg [.slice r1, .slice r2]) := by
  rw [clean_agg]
  simp only [List.map_cons, List.map_nil, clean1_apS hl h h1, clean1_apS hl h h2]
  by_cases hr1 : r1 = [] <;> by_cases hr2 : r2 = [] <;> simp [hr1, hr2]
@[simp] theorem iaS_apS {i : Nat} (h : i < rows.length) : iaS (some (some es)) (apS nm es rows) (i : Int) = some (.eptr nm es rows.length i 0) := by
  unfold apS
  have hr : rows ≠ [] := fun e => by subst e; simp at h
  simp [hr, h]
end
end Go.Gh


/- The calculus: a range over a function, its rounds. -/
namespace Go.Gh
set_option linter.unusedSimpArgs false
set_option linter.unusedVariables false

/-- Behind a heap's innermost scope. -/
def hdQ (h : Heap) (k : Fr → Heap → Prop) : Prop := match h with | fr :: H1 => k fr H1 | [] => False
@[simp] theorem hdQ_cons {fr : Fr} {H : Heap} {k : Fr → Heap → Prop} : hdQ (fr :: H) k = k fr H := .trans rfl rfl
def lpQ (x : Option Blk) (k : GLoop → Prop) : Prop := match x with | some (.loop l) => k l | _ => False
@[simp] theorem lpQ_loop {l : GLoop} {k : GLoop → Prop} : lpQ (some (.loop l)) k = k l := .trans rfl rfl

/-- The first range over a function in a piece of code: what is assigned in a round, the round. -/
def rangeOf : Code → Option (Code × Code)
  | .seq a b => match rangeOf a with | some x => some x | none => rangeOf b
  | .cond _ a b => match rangeOf a with | some x => some x | none => rangeOf b
  | .block _ a => rangeOf a
  | .loop a => rangeOf a
  | .rangeFunc _ _ a b => some (a, b)
  | _ => none
def rgA (g : Func) : Code := ((rangeOf (g.body.getD .skip)).getD (.skip, .skip)).1
def rgB (g : Func) : Code := ((rangeOf (g.body.getD .skip)).getD (.skip, .skip)).2

section
variable (K : Ctx) (N : FuncId → Nat → List (Nat × Nat))

def roundEnd (nm : Nm) (R : GV × Heap → Prop) (e : GX) (st : GSt) : Prop :=
  hdQ st.h fun _ H2 => lpQ (Heap.get H2 nm) fun l2 =>
    R (match e with
      | .normal => (.pure (.bool true), Heap.set H2 nm (.loop { l2 with state := .ready, pending := none }))
      | e => (.pure (.bool false), Heap.set H2 nm (.loop { l2 with state := .done, pending := some e })))
def roundMid (nm : Nm) (l : GLoop) (R : GV × Heap → Prop) (e : GX) (st : GSt) : Prop :=
  e = .normal ∧ hdQ st.h fun fr H1 => lpQ (Heap.get H1 nm) fun l1 => l1.state = .ready ∧
    wp K N l.fn l.body ⟨st.s, fr :: Heap.set H1 nm (.loop { l1 with state := .busy }), l.nt⟩ (roundEnd nm R)

theorem ground_wp {nm : Nm} {args : List GV} {H : Heap} {l : GLoop} {s : Slots} {R : GV × Heap → Prop} (hl : H.get nm = some (.loop l)) (hr : l.state = .ready) (hp : putParams l.slots l.nt l.params (args.map canon) = some s)
    (ha : good K N l.fn l.assign = true) (hb : good K N l.fn l.body = true) (h : wp K N l.fn l.assign ⟨s, [] :: H, l.nt⟩ (roundMid K N nm l R)) : WPv (ground (geval K) nm args H) R := by
  obtain ⟨e, st, h1, rfl, h2⟩ := wp_sound K N l.fn l.assign h ha
  unfold hdQ at h2
  split at h2
  · rename_i fr H1 hst
    unfold lpQ at h2
    split at h2
    · rename_i l1 hg1
      obtain ⟨h3, h4⟩ := h2
      obtain ⟨e2, st2, h5, h6⟩ := wp_sound K N l.fn l.body h4 hb
      unfold roundEnd hdQ at h6
      split at h6
      · rename_i fr2 H2 hst2
        unfold lpQ at h6
        split at h6
        · rename_i l2 hg2
          refine ⟨_, ?_, h6⟩
          simp only [ground, hl, hr, if_true, hp, h1, hst, hg1, h3, ne_eq, not_true_eq_false, if_false, h5, hst2, hg2]
          cases e2 <;> rfl
        · exact h6.elim
      · exact h6.elim
    · exact h2.elim
  · exact h2.elim

def rangeEnd (nm : Nm) (st : GSt) (Q : GX → GSt → Prop) (H : Heap) : Prop :=
  lpQ (Heap.get H nm) fun l => l.state ≠ .busy ∧ Q (match l.pending with | none => .normal | some e => e) { st with h := Heap.set H nm (.loop { l with state := .exhausted }) }

theorem WP_range {fn : FuncId} {f : Operand} {ps : Array Tmp} {assign body : Code} {st : GSt} {Q : GX → GSt → Prop} {nm : Nm} {H1 H2 : Heap} {v : GV}
    (h1 : gnewV st.h (10000000 + firstRegion body) (.loop { slots := st.s, nt := st.nt, params := ps.toList, assign := assign, body := body, fn := fn, state := .ready, pending := none }) = some (nm, H1))
    (h2 : gcallF K (geval K) (ev st.s f) [.yield nm] 0 H1 = some (v, H2)) (h3 : rangeEnd nm st Q H2) : WP K N fn (.rangeFunc f ps assign body) st Q := fun _ => by
  rw [← gnew_loop] at h1
  rw [geval_eq]
  unfold rangeEnd lpQ at h3
  split at h3
  · rename_i l hg
    obtain ⟨h4, h5⟩ := h3
    simp only [gbody, h1, h2, hg, h4, if_false]
    cases hp : l.pending with
    | none => rw [hp] at h5; exact ⟨_, _, rfl, h5⟩
    | some e => rw [hp] at h5; exact ⟨_, _, rfl, h5⟩
  · exact h3.elim
end
end Go.Gh

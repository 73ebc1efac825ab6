/- The calculus: a range over a function, its rounds. -/
import Derived.Test.YtldhcphijclmdaaGw
namespace Go.Gh
set_option linter.unusedSimpArgs false
set_option linter.unusedVariables false

/-- Behind a heap's innermost scope. -/
def hdQ (h : Heap) (k : Fr → Heap → Prop) : Prop := match h with | fr :: H1 => k fr H1 | [] => False
@[simp] theorem hdQ_cons {fr : Fr} {H : Heap} {k : Fr → Heap → Prop} : hdQ (fr :: H) k = k fr H := .trans rfl rfl
def lpQ (x : Option Blk) (k : GLoop → Prop) : Prop := match x with | some (.loop l) => k l | _ => False
@[simp] theorem lpQ_loop {l : GLoop} {k : GLoop → Prop} : lpQ (some (.loop l)) k = k l := .trans rfl rfl

/-- The first range over a function in a piece of code: what is assigned in a round, the round. -/
def rangeOf : Code → Option (Code × Code)
  | .seq a b => match rangeOf a with | some x => some x | none => rangeOf b
  | .cond _ a b => match rangeOf a with | some x => some x | none => rangeOf b
  | .block _ a => rangeOf a
  | .loop a => rangeOf a
  | .rangeFunc _ _ a b => some (a, b)
  | _ => none
def rgA (g : Func) : Code := ((rangeOf (g.body.getD .skip)).getD (.skip, .skip)).1
def rgB (g : Func) : Code := ((rangeOf (g.body.getD .skip)).getD (.skip, .skip)).2

section
variable (K : Ctx) (N : FuncId → Nat → List (Nat × Nat))

def roundEnd (nm : Nm) (R : GV × Heap → Prop) (e : GX) (st : GSt) : Prop :=
  hdQ st.h fun _ H2 => lpQ (Heap.get H2 nm) fun l2 =>
    R (match e with
      | .normal => (.pure (.bool true), Heap.set H2 nm (.loop { l2 with state := .ready, pending := none }))
      | e => (.pure (.bool false), Heap.set H2 nm (.loop { l2 with state := .done, pending := some e })))
def roundMid (nm : Nm) (l : GLoop) (R : GV × Heap → Prop) (e : GX) (st : GSt) : Prop :=
  e = .normal ∧ hdQ st.h fun fr H1 => lpQ (Heap.get H1 nm) fun l1 => l1.state = .ready ∧
    wp K N l.fn l.body ⟨st.s, fr :: Heap.set H1 nm (.loop { l1 with state := .busy }), l.nt⟩ (roundEnd nm R)

theorem ground_wp {nm : Nm} {args : List GV} {H : Heap} {l : GLoop} {s : Slots} {R : GV × Heap → Prop} (hl : H.get nm = some (.loop l)) (hr : l.state = .ready) (hp : putParams l.slots l.nt l.params (args.map canon) = some s)
    (ha : good K N l.fn l.assign = true) (hb : good K N l.fn l.body = true) (h : wp K N l.fn l.assign ⟨s, [] :: H, l.nt⟩ (roundMid K N nm l R)) : WPv (ground (geval K) nm args H) R := by
  obtain ⟨e, st, h1, rfl, h2⟩ := wp_sound K N l.fn l.assign h ha
  unfold hdQ at h2
  split at h2
  · rename_i fr H1 hst
    unfold lpQ at h2
    split at h2
    · rename_i l1 hg1
      obtain ⟨h3, h4⟩ := h2
      obtain ⟨e2, st2, h5, h6⟩ := wp_sound K N l.fn l.body h4 hb
      unfold roundEnd hdQ at h6
      split at h6
      · rename_i fr2 H2 hst2
        unfold lpQ at h6
        split at h6
        · rename_i l2 hg2
          refine ⟨_, ?_, h6⟩
          simp only [ground, hl, hr, if_true, hp, h1, hst, hg1, h3, ne_eq, not_true_eq_false, if_false, h5, hst2, hg2]
          cases e2 <;> rfl
        · exact h6.elim
      · exact h6.elim
    · exact h2.elim
  · exact h2.elim

def rangeEnd (nm : Nm) (st : GSt) (Q : GX → GSt → Prop) (H : Heap) : Prop :=
  lpQ (Heap.get H nm) fun l => l.state ≠ .busy ∧ Q (match l.pending with | none => .normal | some e => e) { st with h := Heap.set H nm (.loop { l with state := .exhausted }) }

theorem WP_range {fn : FuncId} {f : Operand} {ps : Array Tmp} {assign body : Code} {st : GSt} {Q : GX → GSt → Prop} {nm : Nm} {H1 H2 : Heap} {v : GV}
    (h1 : gnew st.h (10000000 + firstRegion body) (.loop { slots := st.s, nt := st.nt, params := ps.toList, assign := assign, body := body, fn := fn, state := .ready, pending := none }) = some (nm, H1))
    (h2 : gcallF K (geval K) (ev st.s f) [.yield nm] 0 H1 = some (v, H2)) (h3 : rangeEnd nm st Q H2) : WP K N fn (.rangeFunc f ps assign body) st Q := fun _ => by
  rw [geval_eq]
  unfold rangeEnd lpQ at h3
  split at h3
  · rename_i l hg
    obtain ⟨h4, h5⟩ := h3
    simp only [gbody, h1, h2, hg, h4, if_false]
    cases hp : l.pending with
    | none => rw [hp] at h5; exact ⟨_, _, rfl, h5⟩
    | some e => rw [hp] at h5; exact ⟨_, _, rfl, h5⟩
  · exact h3.elim
end
end Go.Gh

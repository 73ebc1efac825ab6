/- A calculus for walking code in the interpreter: what holds behind a piece of code. -/
import Derived.Test.YtgmohiojddnfgaaGreatDoorGhost29
namespace Go.Gh
set_option linter.unusedSimpArgs false
set_option linter.unusedVariables false

/-! ### drawn regions: which looks are needed -/
def opW (K : Ctx) (fn : FuncId) (o : Oper) : Bool := !opPure K fn o && !isAlloc o
def opRd (K : Ctx) (fn : FuncId) (o : Oper) : Bool := opPure K fn o && opR o

def statOk (K : Ctx) (fn : FuncId) (L : List (Nat × Nat)) (all : List Oper) (pre : Array Nat) : Bool :=
  all.zipIdx.all fun (oi, i) => all.zipIdx.all fun (oq, q) =>
    decide (i ≤ q) || (pre.getD i 0).testBit q ||
      ((!(opW K fn oi && opW K fn oq)) && (L.contains (i, q) || (!(opW K fn oi && opRd K fn oq) && !(opRd K fn oi && opW K fn oq))))

structure Obl where
  i : Nat
  o : Oper
  s : Slots
  v : GV
  h : Heap

section
variable (K : Ctx) (fn : FuncId)

def dstOk (nt : Nat) : Option Tmp → Prop
  | none => True
  | some d => d < nt

/-- A value is told, and what holds of it. -/
def WPv {α : Type} (x : Option α) (k : α → Prop) : Prop := ∃ r, x = some r ∧ k r

def wpops (all : List Oper) : List Oper → GSt → (GSt → Prop) → Prop
  | [], st, Q => Q st
  | o :: r, st, Q =>
    WPv (wantedG all st.s o) fun b =>
      if b = false then dstOk st.nt o.dst ∧ wpops all r ⟨putS st.s o.dst gundef, st.h, st.nt⟩ Q
      else WPv (gstep K (geval K) fn o st.s st.h) fun x => dstOk st.nt o.dst ∧ wpops all r ⟨putS st.s o.dst x.1, x.2, st.nt⟩ Q

def wpdraw (all : List Oper) (L : List (Nat × Nat)) : Nat → List Oper → List Obl → List (Nat × Heap) → Heap → GSt → (GSt → Prop) → Prop
  | _, [], _, _, _, st, Q => Q st
  | i, o :: r, obl, old, hb, st, Q =>
    WPv (wantedG all st.s o) fun b =>
      if b = false then dstOk st.nt o.dst ∧ wpdraw all L (i + 1) r obl old hb ⟨putS st.s o.dst gundef, st.h, st.nt⟩ Q
      else if opPure K fn o = true then
        WPv (gop K fn o st.s hb) fun x => dstOk st.nt o.dst ∧ (∀ y ∈ old, y.1 = i → y.2 = hb ∨ sameAt K fn o st.s x.1 y.2 = true) ∧
          wpdraw all L (i + 1) r ((L.filter fun p => p.2 == i).map (fun p => ⟨p.1, o, st.s, x.1, hb⟩) ++ obl) old hb ⟨putS st.s o.dst x.1, st.h, st.nt⟩ Q
      else
        WPv (gstep K (geval K) fn o st.s st.h) fun x => dstOk st.nt o.dst ∧
          if isAlloc o = true then wpdraw all L (i + 1) r obl old hb ⟨putS st.s o.dst x.1, x.2, st.nt⟩ Q
          else (∀ y ∈ obl, y.i = i → x.2 = y.h ∨ sameAt K fn y.o y.s y.v x.2 = true) ∧
            wpdraw all L (i + 1) r obl ((L.filter fun p => p.2 == i).map (fun p => (p.1, hb)) ++ old) x.2 ⟨putS st.s o.dst x.1, x.2, st.nt⟩ Q

theorem put_dst {st : GSt} {d : Option Tmp} (v : GV) (h : dstOk st.nt d) : st.put d v = some ⟨putS st.s d v, st.h, st.nt⟩ := by
  cases d with
  | none => rfl
  | some d => simp only [dstOk] at h; simp only [GSt.put, h, if_true, putS]

theorem wpops_sound {all : List Oper} {Q : GSt → Prop} : ∀ {ops : List Oper} {st : GSt}, wpops K fn all ops st Q → ∃ st', gops K (geval K) fn all ops st = some st' ∧ Q st'
  | [], st, h => ⟨st, rfl, h⟩
  | o :: r, st, h => by
    simp only [wpops] at h
    obtain ⟨b, hw, h⟩ := h
    cases b with
    | false =>
      simp only [if_true] at h
      obtain ⟨st', g1, g2⟩ := wpops_sound h.2
      exact ⟨st', by simp only [gops, hw, put_dst _ h.1]; exact g1, g2⟩
    | true =>
      simp only [Bool.true_eq_false, if_false] at h
      obtain ⟨⟨v, H⟩, hg, h1, h2⟩ := h
      obtain ⟨st', g1, g2⟩ := wpops_sound h2
      exact ⟨st', by simp only [gops, hw, hg, put_dst (st := ⟨st.s, H, st.nt⟩) v h1]; exact g1, g2⟩

theorem sameAt_of {o : Oper} {s : Slots} {v : GV} {H Hx : Heap} (h : gop K fn o s H = some (v, Hx)) : sameAt K fn o s v H = true := by
  unfold sameAt; rw [h]; simp

theorem wpdraw_sound {all : List Oper} {L : List (Nat × Nat)} {pre : Array Nat} (hst : statOk K fn L all pre = true) {Q : GSt → Prop} : ∀ (ops : List Oper) (i : Nat) (obl : List Obl) (old : List (Nat × Heap)) (wl : List (Nat × Heap)) (rl : List RLog) (hb : Heap) (st : GSt),
    all.drop i = ops →
    (∀ x ∈ wl, x.1 < i ∧ (∃ o, all[x.1]? = some o ∧ opW K fn o = true) ∧ ∀ j, (j, x.1) ∈ L → (j, x.2) ∈ old) →
    (∀ q ∈ rl, q.i < i ∧ (∃ o, all[q.i]? = some o ∧ opRd K fn o = true) ∧ (∃ h Hx, gop K fn q.o q.s h = some (q.v, Hx) ∧ ∀ j, (j, q.i) ∈ L → (⟨j, q.o, q.s, q.v, h⟩ : Obl) ∈ obl)) →
    wpdraw K fn all L i ops obl old hb st Q → ∃ st', gdraw K (geval K) fn all pre i ops wl rl hb st = some st' ∧ Q st' := by
  intro ops
  induction ops with
  | nil => intro i obl old wl rl hb st _ _ _ h; exact ⟨st, rfl, h⟩
  | cons o r ih =>
    intro i obl old wl rl hb st hd hwl hrl h
    have ho : all[i]? = some o := by
      have : (all.drop i)[0]? = some o := by rw [hd]; rfl
      rw [List.getElem?_drop] at this
      simpa using this
    have hd' : all.drop (i + 1) = r := by
      have : (all.drop i).drop 1 = r := by rw [hd]; rfl
      rwa [List.drop_drop] at this
    have hstat : ∀ q oq, q < i → all[q]? = some oq → (pre.getD i 0).testBit q = true ∨
        ((!(opW K fn o && opW K fn oq)) && (L.contains (i, q) || (!(opW K fn o && opRd K fn oq) && !(opRd K fn o && opW K fn oq)))) = true := by
      intro q oq hq hoq
      have h1 := List.all_eq_true.1 hst _ (mem_zipIdx' ho)
      have h2 := List.all_eq_true.1 h1 _ (mem_zipIdx' hoq)
      simp only [Bool.or_eq_true, decide_eq_true_eq] at h2
      rcases h2 with (h2 | h2) | h2
      · omega
      · exact .inl h2
      · exact .inr h2
    simp only [wpdraw] at h
    obtain ⟨b, hw, h⟩ := h
    cases b with
    | false =>
      simp only [if_true] at h
      obtain ⟨h1, h2⟩ := h
      obtain ⟨st', g1, g2⟩ := ih (i + 1) obl old wl rl hb _ hd' (fun x hx => ⟨by have := (hwl x hx).1; omega, (hwl x hx).2⟩) (fun q hq => ⟨by have := (hrl q hq).1; omega, (hrl q hq).2⟩) h2
      exact ⟨st', by simp only [gdraw, hw, put_dst _ h1]; exact g1, g2⟩
    | true =>
      simp only [Bool.true_eq_false, if_false] at h
      by_cases hp : opPure K fn o = true
      · rw [if_pos hp] at h
        obtain ⟨⟨v, Hx⟩, hg, h1, h2, h3⟩ := h
        simp only at h2 h3
        simp only [gdraw, hw, hp, if_true, hg, put_dst _ h1]
        have hold : ∀ x ∈ wl, opR o = true → ((pre.getD i 0).testBit x.1 || sameAt K fn o st.s v x.2) = true := by
          intro x hx hR
          obtain ⟨x1, ⟨ox, x2, x3⟩, x4⟩ := hwl x hx
          rcases hstat x.1 ox x1 x2 with h4 | h4
          · rw [h4]; rfl
          · have hrd : opRd K fn o = true := by unfold opRd; rw [hp, hR]; rfl
            rw [hrd, x3] at h4
            simp only [Bool.and_true, Bool.true_and, Bool.not_true, Bool.and_false, Bool.or_false, Bool.and_eq_true] at h4
            have hm : (i, x.1) ∈ L := by simpa using h4.2
            rcases h2 _ (x4 i hm) rfl with h5 | h5
            · have : sameAt K fn o st.s v x.2 = true := by rw [h5]; exact sameAt_of K fn hg
              rw [this]; simp
            · rw [h5]; simp
        cases hR : opR o with
        | true =>
          have hall : (wl.all fun x => (pre.getD i 0).testBit x.1 || sameAt K fn o st.s v x.2) = true := List.all_eq_true.2 fun x hx => hold x hx hR
          simp only [if_true, hall]
          refine ih (i + 1) _ old wl _ hb _ hd' (fun x hx => ⟨by have := (hwl x hx).1; omega, (hwl x hx).2⟩) (fun q hq => ?_) h3
          rcases List.mem_cons.1 hq with rfl | hq
          · refine ⟨by simp, ⟨o, ho, by unfold opRd; rw [hp, hR]; rfl⟩, hb, Hx, hg, fun j hj => List.mem_append_left _ (List.mem_map.2 ⟨(j, i), List.mem_filter.2 ⟨hj, by simp⟩, rfl⟩)⟩
          · obtain ⟨q1, q2, hh, Hy, q3, q4⟩ := hrl q hq
            exact ⟨by omega, q2, hh, Hy, q3, fun j hj => List.mem_append_right _ (q4 j hj)⟩
        | false =>
          simp only [Bool.false_eq_true, if_false]
          refine ih (i + 1) _ old wl rl hb _ hd' (fun x hx => ⟨by have := (hwl x hx).1; omega, (hwl x hx).2⟩) (fun q hq => ?_) h3
          obtain ⟨q1, q2, hh, Hy, q3, q4⟩ := hrl q hq
          exact ⟨by omega, q2, hh, Hy, q3, fun j hj => List.mem_append_right _ (q4 j hj)⟩
      · rw [if_neg hp] at h
        obtain ⟨⟨v, H⟩, hg, h1, h2⟩ := h
        simp only at h2
        have hp' : opPure K fn o = false := by simpa using hp
        simp only [gdraw, hw, hp, if_false, hg, Bool.false_eq_true, put_dst (st := ⟨st.s, H, st.nt⟩) v h1]
        by_cases ha : isAlloc o = true
        · rw [if_pos ha] at h2
          simp only [ha, if_true]
          exact ih (i + 1) obl old wl rl hb _ hd' (fun x hx => ⟨by have := (hwl x hx).1; omega, (hwl x hx).2⟩) (fun q hq => ⟨by have := (hrl q hq).1; omega, (hrl q hq).2⟩) h2
        · rw [if_neg ha] at h2
          have ha' : isAlloc o = false := by simpa using ha
          have hW : opW K fn o = true := by unfold opW; rw [hp', ha']; rfl
          have hnR : opRd K fn o = false := by unfold opRd; rw [hp']; rfl
          obtain ⟨h3, h4⟩ := h2
          have hwl2 : (wl.all fun x => (pre.getD i 0).testBit x.1) = true := List.all_eq_true.2 fun x hx => by
            obtain ⟨x1, ⟨ox, x2, x3⟩, x4⟩ := hwl x hx
            rcases hstat x.1 ox x1 x2 with h4 | h4
            · exact h4
            · rw [hW, x3] at h4; simp at h4
          have hrl2 : (rl.all fun q => (pre.getD i 0).testBit q.i || sameAt K fn q.o q.s q.v H) = true := List.all_eq_true.2 fun q hq => by
            obtain ⟨q1, ⟨oq, q2, q2'⟩, hh, Hy, q3, q4⟩ := hrl q hq
            rcases hstat q.i oq q1 q2 with h4 | h4
            · rw [h4]; rfl
            · rw [hW, q2', hnR] at h4
              simp only [Bool.and_true, Bool.true_and, Bool.not_true, Bool.false_and, Bool.or_false, Bool.and_eq_true] at h4
              have hm : (i, q.i) ∈ L := by simpa using h4.2
              rcases h3 _ (q4 i hm) rfl with h5 | h5
              · have : sameAt K fn q.o q.s q.v H = true := by
                  simp only at h5
                  rw [h5]; exact sameAt_of K fn q3
                rw [this]; simp
              · simp only at h5; rw [h5]; simp
          simp only [ha, hwl2, hrl2, Bool.and_self, if_true, if_false, Bool.false_eq_true]
          refine ih (i + 1) obl _ _ rl H _ hd' (fun x hx => ?_) (fun q hq => ⟨by have := (hrl q hq).1; omega, (hrl q hq).2⟩) h4
          rcases List.mem_cons.1 hx with rfl | hx
          · exact ⟨by simp, ⟨o, ho, hW⟩, fun j hj => List.mem_append_left _ (List.mem_map.2 ⟨(j, i), List.mem_filter.2 ⟨hj, by simp⟩, rfl⟩)⟩
          · obtain ⟨x1, x2, x3⟩ := hwl x hx
            exact ⟨by omega, x2, fun j hj => List.mem_append_right _ (x3 j hj)⟩
end

/-! ### code -/
/-- All drawn regions of a piece of code may be walked in the text's order. -/
def good (K : Ctx) (N : FuncId → Nat → List (Nat × Nat)) (fn : FuncId) : Code → Bool
  | .region id ops true => drawOk K fn ops.toList (Region.before ops) && statOk K fn (N fn id) ops.toList (Region.before ops)
  | .seq a b => good K N fn a && good K N fn b
  | .cond _ a b => good K N fn a && good K N fn b
  | .block _ a => good K N fn a
  | .loop a => good K N fn a
  | .scope a => good K N fn a
  | .rangeFunc _ _ a b => good K N fn a && good K N fn b
  | _ => true

section
variable (K : Ctx) (N : FuncId → Nat → List (Nat × Nat)) (fn : FuncId)

/-- What holds behind a piece of code. -/
def WP (c : Code) (st : GSt) (Q : GX → GSt → Prop) : Prop := good K N fn c = true → ∃ e st', geval K fn c st = some (e, st') ∧ Q e st'

theorem WP_mono {c : Code} {st : GSt} {Q Q' : GX → GSt → Prop} (h : WP K N fn c st Q) (hq : ∀ e st', Q e st' → Q' e st') : WP K N fn c st Q' := fun hg => by
  obtain ⟨e, st', h1, h2⟩ := h hg
  exact ⟨e, st', h1, hq _ _ h2⟩

def blockQ (id : Nat) (Q : GX → GSt → Prop) (e : GX) (st : GSt) : Prop := match e with | .exit id' => if id' = id then Q .normal st else Q (.exit id') st | e => Q e st

/-! loops -/
theorem keep_clean (H : Heap) (l0 : Nat) (s : Slots) : ∀ ks, keepSlots (cleanSlots H l0 s) ks = cleanSlots H l0 (keepSlots s ks)
  | [] => rfl
  | t :: r => by
    simp only [keepSlots, cleanSlots, keep_clean H l0 s r]
    congr 2
    induction s with
    | nil => rfl
    | cons x s ih =>
      obtain ⟨d, v⟩ := x
      simp only [cleanSlots, look]
      split
      · rfl
      · exact ih

/-- A loop's body at its head; 'ks': the slots kept at a round's head, 'ks2': at an exit. -/
def loopQ (W : Slots → Heap → Nat → Prop) (ks ks2 : List Nat) (Q : GX → GSt → Prop) (e : GX) (st : GSt) : Prop :=
  match st.h with
  | fr :: H => 0 < H.length ∧ (match e with
    | .normal => W (cleanSlots (fr :: H) (H.length - 1) (keepSlots st.s ks)) H st.nt
    | e => Q e ⟨cleanSlots (fr :: H) (H.length - 1) (keepSlots st.s ks2), H, st.nt⟩)
  | [] => False

/-- The same where blocks to which nothing leads are let go at a round's end. -/
def loopQc (W : Slots → Heap → Nat → Prop) (ks ks2 : List Nat) (Q : GX → GSt → Prop) (e : GX) (st : GSt) : Prop :=
  match st.h with
  | fr :: H => 0 < H.length ∧ (match e with
    | .normal => WPv (gcol ⟨cleanSlots (fr :: H) (H.length - 1) (keepSlots st.s ks), H, st.nt⟩) fun st => W st.s st.h st.nt
    | e => Q e ⟨cleanSlots (fr :: H) (H.length - 1) (keepSlots st.s ks2), H, st.nt⟩)
  | [] => False

/-- A loop whose head is reached with these slots. -/
def WPLb (b : Bool) (c : Code) (ks ks2 : List Nat) (Q : GX → GSt → Prop) (s : Slots) (H : Heap) (nt : Nat) : Prop :=
  good K N fn c = true → K.ann fn (firstRegion c) = some (ks, ks2) → K.car fn (firstRegion c) = b → ∃ e st', (match geval K fn c ⟨s, [] :: H, nt⟩ with
    | some (.normal, st) => (match gnext K fn c st with | some st => geval K fn (.loop c) st | none => none)
    | some (e, st) => (match gscope (some ks2) st with | some st => some (e, st) | none => none)
    | none => none) = some (e, st') ∧ Q e st'
def WPL (c : Code) (ks ks2 : List Nat) (Q : GX → GSt → Prop) (s : Slots) (H : Heap) (nt : Nat) : Prop := WPLb K N fn false c ks ks2 Q s H nt
def WPLc (c : Code) (ks ks2 : List Nat) (Q : GX → GSt → Prop) (s : Slots) (H : Heap) (nt : Nat) : Prop := WPLb K N fn true c ks ks2 Q s H nt

def asB : GV → Option Bool
  | .pure (.bool b) => some b
  | _ => none

/-- What has to hold ahead of a piece of code. -/
def wp : Code → GSt → (GX → GSt → Prop) → Prop
  | .skip, st, Q => Q .normal st
  | .label _, st, Q => Q .normal st
  | .exit id, st, Q => Q (.exit id) st
  | .ret, st, Q => Q .ret st
  | .region _ ops false, st, Q => wpops K fn ops.toList ops.toList st (Q .normal)
  | .region id ops true, st, Q => wpdraw K fn ops.toList (N fn id) 0 ops.toList [] [] st.h st (Q .normal)
  | .seq a b, st, Q => wp a st fun e st => match e with | .normal => wp b st Q | e => Q e st
  | .cond c x y, st, Q => WPv (asB (ev st.s c)) fun b => if b = true then wp x st Q else wp y st Q
  | .block id c, st, Q => wp c st (blockQ id Q)
  | .loop c, st, Q => WPv (K.ann fn (firstRegion c)) fun a => if K.car fn (firstRegion c) = true then WPLc K N fn c a.1 a.2 Q (keepSlots st.s a.1) st.h st.nt else WPL K N fn c a.1 a.2 Q (keepSlots st.s a.1) st.h st.nt
  | .rangeFunc f ps assign body, st, Q => WP K N fn (.rangeFunc f ps assign body) st Q
  | .scope c, st, Q => wp c st Q
  | _, _, _ => False

theorem wp_sound : ∀ (c : Code) {st : GSt} {Q : GX → GSt → Prop}, wp K N fn c st Q → WP K N fn c st Q
  | .skip, st, Q, h => fun _ => ⟨_, _, by rw [geval_eq]; rfl, h⟩
  | .label _, st, Q, h => fun _ => ⟨_, _, by rw [geval_eq]; rfl, h⟩
  | .exit id, st, Q, h => fun _ => ⟨_, _, by rw [geval_eq]; rfl, h⟩
  | .ret, st, Q, h => fun _ => ⟨_, _, by rw [geval_eq]; rfl, h⟩
  | .region id ops false, st, Q, h => fun _ => by
    obtain ⟨st', h1, h2⟩ := wpops_sound K fn h
    rw [geval_eq]
    exact ⟨_, _, by simp only [gbody, h1], h2⟩
  | .region id ops true, st, Q, h => fun hg => by
    simp only [good, Bool.and_eq_true] at hg
    obtain ⟨st', h1, h2⟩ := wpdraw_sound K fn hg.2 _ 0 [] [] [] [] _ _ rfl (by simp) (by simp) h
    rw [List.drop_zero] at h1
    rw [geval_eq]
    exact ⟨_, _, by simp only [gbody, hg.1, if_true, h1], h2⟩
  | .seq a b, st, Q, h => fun hg => by
    simp only [good, Bool.and_eq_true] at hg
    obtain ⟨e, st1, h1, h2⟩ := wp_sound a h hg.1
    rw [geval_eq]
    simp only [gbody, h1]
    cases e with
    | normal =>
      obtain ⟨e2, st2, h3, h4⟩ := wp_sound b h2 hg.2
      exact ⟨e2, st2, h3, h4⟩
    | exit id => exact ⟨_, _, rfl, h2⟩
    | ret => exact ⟨_, _, rfl, h2⟩
  | .cond c x y, st, Q, h => fun hg => by
    simp only [good, Bool.and_eq_true] at hg
    obtain ⟨b, h1, h2⟩ := h
    have hc : ev st.s c = .pure (.bool b) := by
      unfold asB at h1
      split at h1
      · rename_i b' hb; rw [hb]; cases h1; rfl
      · cases h1
    rw [geval_eq]
    simp only [gbody, hc]
    cases b with
    | true =>
      simp only [if_true] at h2 ⊢
      exact wp_sound x h2 hg.1
    | false =>
      simp only [Bool.false_eq_true, if_false] at h2 ⊢
      exact wp_sound y h2 hg.2
  | .block id c, st, Q, h => fun hg => by
    obtain ⟨e, st1, h1, h2⟩ := wp_sound c h (by simpa only [good] using hg)
    rw [geval_eq]
    simp only [gbody, h1]
    cases e with
    | exit id' =>
      simp only [blockQ] at h2
      split at h2
      · rename_i he; exact ⟨_, _, by simp only [he, if_true], h2⟩
      · rename_i he; exact ⟨_, _, by simp only [he, if_false], h2⟩
    | normal => exact ⟨_, _, rfl, h2⟩
    | ret => exact ⟨_, _, rfl, h2⟩
  | .loop c, st, Q, h => fun hg => by
    obtain ⟨⟨ks, ks2⟩, ha, h⟩ := h
    have h0 : WPLb K N fn (K.car fn (firstRegion c)) c ks ks2 Q (keepSlots st.s ks) st.h st.nt := by
      cases hc : K.car fn (firstRegion c) with
      | true => simp only [hc, if_true] at h; exact h
      | false => simp only [hc, Bool.false_eq_true, if_false] at h; exact h
    obtain ⟨e, st', h1, h2⟩ := h0 (by simpa only [good] using hg) ha rfl
    refine ⟨e, st', ?_, h2⟩
    rw [geval_eq]
    simp only [gbody, ha, Option.map_some, keepO]
    exact h1
  | .rangeFunc f ps assign body, st, Q, h => h
  | .scope c, st, Q, h => fun hg => by
    obtain ⟨e, st1, h1, h2⟩ := wp_sound c h (by simpa only [good] using hg)
    rw [geval_eq]
    exact ⟨e, st1, by simp only [gbody, h1], h2⟩
  | .goto _, _, _, h => h.elim
  | .refuse _, _, _, h => h.elim

theorem keep_keep (s : Slots) (ks : List Nat) : keepSlots (keepSlots s ks) ks = keepSlots s ks := by
  have h : ∀ l : List Nat, (∀ t ∈ l, t ∈ ks) → keepSlots (keepSlots s ks) l = keepSlots s l := by
    intro l
    induction l with
    | nil => intro _; rfl
    | cons t r ih =>
      intro hl
      simp only [keepSlots, look_keepSlots s t ks (hl t (List.mem_cons_self ..)), ih fun q hq => hl q (List.mem_cons_of_mem _ hq)]
  exact h ks fun _ h => h

theorem WPL_step {c : Code} {ks ks2 : List Nat} {Q : GX → GSt → Prop} {s : Slots} {H : Heap} {nt : Nat} (h : wp K N fn c ⟨s, [] :: H, nt⟩ (loopQ (WPL K N fn c ks ks2 Q) ks ks2 Q)) : WPL K N fn c ks ks2 Q s H nt := fun hg ha hc => by
  obtain ⟨e, st1, h1, h2⟩ := wp_sound K N fn c h hg
  rw [h1]
  unfold loopQ at h2
  split at h2
  · rename_i fr H1 hh
    obtain ⟨h3, h4⟩ := h2
    have hne : ¬ H1.length = 0 := by omega
    cases e with
    | normal =>
      simp only [gnext, hc, Bool.false_eq_true, gscope, hh, hne, if_false, keepO]
      simp only at h4
      obtain ⟨e2, st2, g1, g2⟩ := h4 hg ha hc
      refine ⟨e2, st2, ?_, g2⟩
      rw [geval_eq]
      simp only [gbody, ha, Option.map_some, keepO]
      rw [keep_clean]
      exact g1
    | exit id =>
      simp only [gscope, hh, hne, if_false, keepO]
      exact ⟨_, _, rfl, h4⟩
    | ret =>
      simp only [gscope, hh, hne, if_false, keepO]
      exact ⟨_, _, rfl, h4⟩
  · exact h2.elim

theorem WPLc_step {c : Code} {ks ks2 : List Nat} {Q : GX → GSt → Prop} {s : Slots} {H : Heap} {nt : Nat} (h : wp K N fn c ⟨s, [] :: H, nt⟩ (loopQc (WPLc K N fn c ks ks2 Q) ks ks2 Q)) : WPLc K N fn c ks ks2 Q s H nt := fun hg ha hc => by
  obtain ⟨e, st1, h1, h2⟩ := wp_sound K N fn c h hg
  rw [h1]
  unfold loopQc at h2
  split at h2
  · rename_i fr H1 hh
    obtain ⟨h3, h4⟩ := h2
    have hne : ¬ H1.length = 0 := by omega
    cases e with
    | normal =>
      simp only at h4
      obtain ⟨st2, k1, k2⟩ := h4
      have hs : st2.s = cleanSlots (fr :: H1) (H1.length - 1) (keepSlots st1.s ks) := by
        unfold gcol at k1
        split at k1
        · split at k1
          · cases k1
          · cases k1; rfl
        · cases k1
      simp only [gnext, hc, if_true, gscope, hh, hne, if_false, ha, Option.map_some, keepO, k1]
      obtain ⟨e2, st3, g1, g2⟩ := k2 hg ha hc
      refine ⟨e2, st3, ?_, g2⟩
      rw [geval_eq]
      simp only [gbody, ha, Option.map_some, keepO]
      rw [hs, keep_clean, keep_keep, ← hs]
      exact g1
    | exit id =>
      simp only [gscope, hh, hne, if_false, keepO]
      exact ⟨_, _, rfl, h4⟩
    | ret =>
      simp only [gscope, hh, hne, if_false, keepO]
      exact ⟨_, _, rfl, h4⟩
  · exact h2.elim

/-! calls -/
def outQ (f : FuncId) (g : Func) (c : Nat) (R : GV × Heap → Prop) (e : GX) (st : GSt) : Prop :=
  (match e with | .exit _ => False | _ => True) ∧ WPv (gresults K g st) fun rs => WPv (gleave K f c (packG rs) st.h) R

theorem call_enter0 {f : FuncId} {g : Func} {code : Code} {args : List GV} {c : Nat} {H : Heap} {R : GV × Heap → Prop} (hf : K.P.funcs[f]? = some g) (hb : g.body = some code)
    (hn : (g.name == "runtime.NumGoroutine") = false) (hgood : good K N f code = true) (hl : args.length ≤ g.ntmps) (hH : 0 < H.length)
    (h : wp K N f code ⟨slotsOf 0 (args.map canon), [] :: H, g.ntmps⟩ (outQ K f g c R)) : WPv (gcall0 K (geval K) f args c H) R := by
  obtain ⟨e, st, h1, h2, rs, h3, x, h4, h5⟩ := wp_sound K N f code h hgood
  refine ⟨x, ?_, h5⟩
  have hnt : ¬ g.ntmps < args.length := by omega
  have hH0 : ¬ H.length = 0 := by omega
  simp only [gcall0, hf, hb, hn, hnt, hH0, decide_false, Bool.or_self, Bool.false_eq_true, if_false, h1]
  cases e with
  | exit id => exact h2.elim
  | normal =>
    simp only [h3]
    rw [← h4]
    rcases rs with _ | ⟨r, _ | ⟨r2, l⟩⟩ <;> rfl
  | ret =>
    simp only [h3]
    rw [← h4]
    rcases rs with _ | ⟨r, _ | ⟨r2, l⟩⟩ <;> rfl

/-- A call whose arguments are told as they are. -/
theorem gcall_plain {f : FuncId} {args : List GV} {c : Nat} {H : Heap} {rec : Rec} (hc : K.cln f = false) (hb : K.bor f = false) (hz : frzVals H args = (args, H)) : gcall K rec f args c H = gcall0 K rec f args c H := by
  unfold gcall gcallN
  rw [hc, hb, hz]
  simp
/-- A call with slices that are lent. -/
theorem gcall_bor {f : FuncId} {args : List GV} {c : Nat} {H : Heap} {rec : Rec} (hc : K.cln f = false) (hb : K.bor f = true) : gcall K rec f args c H = gborrow K rec f ((frzVals H args).1.map canon) c H := by
  unfold gcall gcallN
  rw [hc, hb]
  simp
/-- A call with slices that are lent, that tells a value without slices. -/
theorem bor_flat {f : FuncId} {args args' : List GV} {c : Nat} {H : Heap} {rec : Rec} {p : PV} (hc : K.cln f = false) (hb : K.bor f = true) (hz : (frzVals H args).1.map canon = args') (hq : borBox args' = some none) (hH : 0 < H.length)
    (h0 : ∀ H : Heap, 0 < H.length → gcall0 K rec f args' c H = some (.pure p, H)) (hf : flatP p = true) : gcall K rec f args c H = some (.pure p, H) := by
  rw [gcall_bor K hc hb, hz]
  unfold gborrow
  rw [hq]
  simp only
  rw [h0 _ (by simpa [emptyH] using hH)]
  simp only [lentEnd, lentV, lent2, lent1, hf, if_true, refs, refs2, refs1, dedup, lentIns]

theorem call_enter {f : FuncId} {g : Func} {code : Code} {args : List GV} {c : Nat} {H : Heap} {R : GV × Heap → Prop} (hf : K.P.funcs[f]? = some g) (hb : g.body = some code)
    (hn : (g.name == "runtime.NumGoroutine") = false) (hgood : good K N f code = true) (hz : frzVals H args = (args, H)) (hc : K.cln f = false) (hbo : K.bor f = false) (hl : args.length ≤ g.ntmps) (hH : 0 < H.length)
    (h : wp K N f code ⟨slotsOf 0 (args.map canon), [] :: H, g.ntmps⟩ (outQ K f g c R)) : WPv (gcall K (geval K) f args c H) R := by
  rw [gcall_plain K hc hbo hz]
  exact call_enter0 K N hf hb hn hgood hl hH h

/-- A function whose arguments are not frozen. -/
theorem call_enterR {f : FuncId} {g : Func} {code : Code} {args : List GV} {c : Nat} {H : Heap} {R : GV × Heap → Prop} (hf : K.P.funcs[f]? = some g) (hb : g.body = some code)
    (hn : (g.name == "runtime.NumGoroutine") = false) (hgood : good K N f code = true) (hz : K.frz f = false) (hc : K.cln f = false) (hbo : K.bor f = false) (hl : args.length ≤ g.ntmps) (hH : 0 < H.length)
    (h : wp K N f code ⟨slotsOf 0 (args.map canon), [] :: H, g.ntmps⟩ (outQ K f g c R)) : WPv (gcall K (geval K) f args c H) R := by
  have h0 := call_enter0 K N hf hb hn hgood hl hH h
  unfold gcall gcallN
  rw [hz, hc, hbo]
  simpa using h0

/-- A call that is told by a contract. -/
theorem gcall_ext {f : FuncId} {args : List GV} {c : Nat} {H : Heap} {rec : Rec} {e : List GV → Heap → Option (GV × Heap)} (hc : K.cln f = true) (he : K.ext f = some e) (hH : 0 < H.length) : gcall K rec f args c H = e args H := by
  unfold gcall
  rw [hc, he]
  simp only [if_true]
  rw [if_neg (by omega)]

end
end Go.Gh

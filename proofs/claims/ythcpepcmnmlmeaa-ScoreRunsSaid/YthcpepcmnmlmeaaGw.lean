/- A calculus for walking code in the interpreter: what holds behind a piece of code. -/
import Derived.Test.YthcpepcmnmlmeaaGc
import Derived.IntWalk
namespace Go.Gh
set_option linter.unusedSimpArgs false
set_option linter.unusedVariables false
def opW (K : Ctx) (fn : FuncId) (o : Oper) : Bool := !opPure K fn o && !isAlloc o
def opRd (K : Ctx) (fn : FuncId) (o : Oper) : Bool := opPure K fn o && opR o
def statOk (K : Ctx) (fn : FuncId) (L : List (Nat × Nat)) (all : List Oper) (pre : Array Nat) : Bool :=
  all.zipIdx.all fun (oi, i) => all.zipIdx.all fun (oq, q) =>
    decide (i ≤ q) || (pre.getD i 0).testBit q ||
      ((!(opW K fn oi && opW K fn oq)) && (L.contains (i, q) || (!(opW K fn oi && opRd K fn oq) && !(opRd K fn oi && opW K fn oq))))
structure Obl where
  i : Nat
  o : Oper
  s : Slots
  v : GV
  h : Heap
section
variable (K : Ctx) (fn : FuncId)
def dstOk (nt : Nat) : Option Tmp → Prop
  | none => True
  | some d => d < nt
/-- A value is told, and what holds of it. -/
def WPv {α : Type} (x : Option α) (k : α → Prop) : Prop := ∃ r, x = some r ∧ k r
def wpops (all : List Oper) : List Oper → GSt → (GSt → Prop) → Prop
  | [], st, Q => Q st
  | o :: r, st, Q =>
    WPv (wantedG all st.s o) fun b =>
      if b = false then dstOk st.nt o.dst ∧ wpops all r ⟨putS st.s o.dst gundef, st.h, st.nt⟩ Q
      else WPv (gstep K (geval K) fn o st.s st.h) fun x => dstOk st.nt o.dst ∧ wpops all r ⟨putS st.s o.dst x.1, x.2, st.nt⟩ Q
def wpdraw (all : List Oper) (L : List (Nat × Nat)) : Nat → List Oper → List Obl → List (Nat × Heap) → Heap → GSt → (GSt → Prop) → Prop
  | _, [], _, _, _, st, Q => Q st
  | i, o :: r, obl, old, hb, st, Q =>
    WPv (wantedG all st.s o) fun b =>
      if b = false then dstOk st.nt o.dst ∧ wpdraw all L (i + 1) r obl old hb ⟨putS st.s o.dst gundef, st.h, st.nt⟩ Q
      else if opPure K fn o = true then
        WPv (gop K fn o st.s hb) fun x => dstOk st.nt o.dst ∧ (∀ y ∈ old, y.1 = i → y.2 = hb ∨ sameAt K fn o st.s x.1 y.2 = true) ∧
          wpdraw all L (i + 1) r ((L.filter fun p => p.2 == i).map (fun p => ⟨p.1, o, st.s, x.1, hb⟩) ++ obl) old hb ⟨putS st.s o.dst x.1, st.h, st.nt⟩ Q
      else
        WPv (gstep K (geval K) fn o st.s st.h) fun x => dstOk st.nt o.dst ∧
          if isAlloc o = true then wpdraw all L (i + 1) r obl old hb ⟨putS st.s o.dst x.1, x.2, st.nt⟩ Q
          else (∀ y ∈ obl, y.i = i → x.2 = y.h ∨ sameAt K fn y.o y.s y.v x.2 = true) ∧
            wpdraw all L (i + 1) r obl ((L.filter fun p => p.2 == i).map (fun p => (p.1, hb)) ++ old) x.2 ⟨putS st.s o.dst x.1, x.2, st.nt⟩ Q
theorem put_dst {st : GSt} {d : Option Tmp} (v : GV) (h : dstOk st.nt d) : st.put d v = some ⟨putS st.s d v, st.h, st.nt⟩ := by
  cases d with
  | none => rfl
  | some d => simp only [dstOk] at h; simp only [GSt.put, h, if_true, putS]
theorem wpops_sound {all : List Oper} {Q : GSt → Prop} : ∀ {ops : List Oper} {st : GSt}, wpops K fn all ops st Q → ∃ st', gops K (geval K) fn all ops st = some st' ∧ Q st'
  | [], st, h => ⟨st, rfl, h⟩
  | o :: r, st, h => by
    simp only [wpops] at h
    obtain ⟨b, hw, h⟩ := h
    cases b with
    | false =>
      simp only [if_true] at h
      obtain ⟨st', g1, g2⟩ := wpops_sound h.2
      exact ⟨st', by simp only [gops, hw, put_dst _ h.1]; exact g1, g2⟩
    | true =>
      simp only [Bool.true_eq_false, if_false] at h
      obtain ⟨⟨v, H⟩, hg, h1, h2⟩ := h
      obtain ⟨st', g1, g2⟩ := wpops_sound h2
      exact ⟨st', by simp only [gops, hw, hg, put_dst (st := ⟨st.s, H, st.nt⟩) v h1]; exact g1, g2⟩
theorem sameAt_of {o : Oper} {s : Slots} {v : GV} {H Hx : Heap} (h : gop K fn o s H = some (v, Hx)) : sameAt K fn o s v H = true := by
  unfold sameAt; rw [h]; simp
theorem wpdraw_sound {all : List Oper} {L : List (Nat × Nat)} {pre : Array Nat} (hst : statOk K fn L all pre = true) {Q : GSt → Prop} : ∀ (ops : List Oper) (i : Nat) (obl : List Obl) (old : List (Nat × Heap)) (wl : List (Nat × Heap)) (rl : List RLog) (hb : Heap) (st : GSt),
    all.drop i = ops →
    (∀ x ∈ wl, x.1 < i ∧ (∃ o, all[x.1]? = some o ∧ opW K fn o = true) ∧ ∀ j, (j, x.1) ∈ L → (j, x.2) ∈ old) →
    (∀ q ∈ rl, q.i < i ∧ (∃ o, all[q.i]? = some o ∧ opRd K fn o = true) ∧ (∃ h Hx, gop K fn q.o q.s h = some (q.v, Hx) ∧ ∀ j, (j, q.i) ∈ L → (⟨j, q.o, q.s, q.v, h⟩ : Obl) ∈ obl)) →
    wpdraw K fn all L i ops obl old hb st Q → ∃ st', gdraw K (geval K) fn all pre i ops wl rl hb st = some st' ∧ Q st' := by
  intro ops
  induction ops with
  | nil => intro i obl old wl rl hb st _ _ _ h; exact ⟨st, rfl, h⟩
  | cons o r ih =>
    intro i obl old wl rl hb st hd hwl hrl h
    have ho : all[i]? = some o := by
      have : (all.drop i)[0]? = some o := by rw [hd]; rfl
      rw [List.getElem?_drop] at this
      simpa using this
    have hd' : all.drop (i + 1) = r := by
      have : (all.drop i).drop 1 = r := by rw [hd]; rfl
      rwa [List.drop_drop] at this
    have hstat : ∀ q oq, q < i → all[q]? = some oq → (pre.getD i 0).testBit q = true ∨
        ((!(opW K fn o && opW K fn oq)) && (L.contains (i, q) || (!(opW K fn o && opRd K fn oq) && !(opRd K fn o && opW K fn oq)))) = true := by
      intro q oq hq hoq
      have h1 := List.all_eq_true.1 hst _ (mem_zipIdx' ho)
      have h2 := List.all_eq_true.1 h1 _ (mem_zipIdx' hoq)
      simp only [Bool.or_eq_true, decide_eq_true_eq] at h2
      rcases h2 with (h2 | h2) | h2
      · omega
      · exact .inl h2
      · exact .inr h2
    simp only [wpdraw] at h
    obtain ⟨b, hw, h⟩ := h
    cases b with
    | false =>
      simp only [if_true] at h
      obtain ⟨h1, h2⟩ := h
      obtain ⟨st', g1, g2⟩ := ih (i + 1) obl old wl rl hb _ hd' (fun x hx => ⟨by have := (hwl x hx).1; omega, (hwl x hx).2⟩) (fun q hq => ⟨by have := (hrl q hq).1; omega, (hrl q hq).2⟩) h2
      exact ⟨st', by simp only [gdraw, hw, put_dst _ h1]; exact g1, g2⟩
    | true =>
      simp only [Bool.true_eq_false, if_false] at h
      by_cases hp : opPure K fn o = true
      · rw [if_pos hp] at h
        obtain ⟨⟨v, Hx⟩, hg, h1, h2, h3⟩ := h
        simp only at h2 h3
        simp only [gdraw, hw, hp, if_true, hg, put_dst _ h1]
        have hold : ∀ x ∈ wl, opR o = true → ((pre.getD i 0).testBit x.1 || sameAt K fn o st.s v x.2) = true := by
          intro x hx hR
          obtain ⟨x1, ⟨ox, x2, x3⟩, x4⟩ := hwl x hx
          rcases hstat x.1 ox x1 x2 with h4 | h4
          · rw [h4]; rfl
          · have hrd : opRd K fn o = true := by unfold opRd; rw [hp, hR]; rfl
            rw [hrd, x3] at h4
            simp only [Bool.and_true, Bool.true_and, Bool.not_true, Bool.and_false, Bool.or_false, Bool.and_eq_true] at h4
            have hm : (i, x.1) ∈ L := by simpa using h4.2
            rcases h2 _ (x4 i hm) rfl with h5 | h5
            · have : sameAt K fn o st.s v x.2 = true := by rw [h5]; exact sameAt_of K fn hg
              rw [this]; simp
            · rw [h5]; simp
        cases hR : opR o with
        | true =>
          have hall : (wl.all fun x => (pre.getD i 0).testBit x.1 || sameAt K fn o st.s v x.2) = true := List.all_eq_true.2 fun x hx => hold x hx hR
          simp only [if_true, hall]
          refine ih (i + 1) _ old wl _ hb _ hd' (fun x hx => ⟨by have := (hwl x hx).1; omega, (hwl x hx).2⟩) (fun q hq => ?_) h3
          rcases List.mem_cons.1 hq with rfl | hq
          · refine ⟨by simp, ⟨o, ho, by unfold opRd; rw [hp, hR]; rfl⟩, hb, Hx, hg, fun j hj => List.mem_append_left _ (List.mem_map.2 ⟨(j, i), List.mem_filter.2 ⟨hj, by simp⟩, rfl⟩)⟩
          · obtain ⟨q1, q2, hh, Hy, q3, q4⟩ := hrl q hq
            exact ⟨by omega, q2, hh, Hy, q3, fun j hj => List.mem_append_right _ (q4 j hj)⟩
        | false =>
          simp only [Bool.false_eq_true, if_false]
          refine ih (i + 1) _ old wl rl hb _ hd' (fun x hx => ⟨by have := (hwl x hx).1; omega, (hwl x hx).2⟩) (fun q hq => ?_) h3
          obtain ⟨q1, q2, hh, Hy, q3, q4⟩ := hrl q hq
          exact ⟨by omega, q2, hh, Hy, q3, fun j hj => List.mem_append_right _ (q4 j hj)⟩
      · rw [if_neg hp] at h
        obtain ⟨⟨v, H⟩, hg, h1, h2⟩ := h
        simp only at h2
        have hp' : opPure K fn o = false := by simpa using hp
        simp only [gdraw, hw, hp, if_false, hg, Bool.false_eq_true, put_dst (st := ⟨st.s, H, st.nt⟩) v h1]
        by_cases ha : isAlloc o = true
        · rw [if_pos ha] at h2
          simp only [ha, if_true]
          exact ih (i + 1) obl old wl rl hb _ hd' (fun x hx => ⟨by have := (hwl x hx).1; omega, (hwl x hx).2⟩) (fun q hq => ⟨by have := (hrl q hq).1; omega, (hrl q hq).2⟩) h2
        · rw [if_neg ha] at h2
          have ha' : isAlloc o = false := by simpa using ha
          have hW : opW K fn o = true := by unfold opW; rw [hp', ha']; rfl
          have hnR : opRd K fn o = false := by unfold opRd; rw [hp']; rfl
          obtain ⟨h3, h4⟩ := h2
          have hwl2 : (wl.all fun x => (pre.getD i 0).testBit x.1) = true := List.all_eq_true.2 fun x hx => by
            obtain ⟨x1, ⟨ox, x2, x3⟩, x4⟩ := hwl x hx
            rcases hstat x.1 ox x1 x2 with h4 | h4
            · exact h4
            · rw [hW, x3] at h4; simp at h4
          have hrl2 : (rl.all fun q => (pre.getD i 0).testBit q.i || sameAt K fn q.o q.s q.v H) = true := List.all_eq_true.2 fun q hq => by
            obtain ⟨q1, ⟨oq, q2, q2'⟩, hh, Hy, q3, q4⟩ := hrl q hq
            rcases hstat q.i oq q1 q2 with h4 | h4
            · rw [h4]; rfl
            · rw [hW, q2', hnR] at h4
              simp only [Bool.and_true, Bool.true_and, Bool.not_true, Bool.false_and, Bool.or_false, Bool.and_eq_true] at h4
              have hm : (i, q.i) ∈ L := by simpa using h4.2
              rcases h3 _ (q4 i hm) rfl with h5 | h5
              · have : sameAt K fn q.o q.s q.v H = true := by
                  simp only at h5
                  rw [h5]; exact sameAt_of K fn q3
                rw [this]; simp
              · simp only at h5; rw [h5]; simp
          simp only [ha, hwl2, hrl2, Bool.and_self, if_true, if_false, Bool.false_eq_true]
          refine ih (i + 1) obl _ _ rl H _ hd' (fun x hx => ?_) (fun q hq => ⟨by have := (hrl q hq).1; omega, (hrl q hq).2⟩) h4
          rcases List.mem_cons.1 hx with rfl | hx
          · exact ⟨by simp, ⟨o, ho, hW⟩, fun j hj => List.mem_append_left _ (List.mem_map.2 ⟨(j, i), List.mem_filter.2 ⟨hj, by simp⟩, rfl⟩)⟩
          · obtain ⟨x1, x2, x3⟩ := hwl x hx
            exact ⟨by omega, x2, fun j hj => List.mem_append_right _ (x3 j hj)⟩
end
/-- All drawn regions of a piece of code may be walked in the text's order. -/
def good (K : Ctx) (N : FuncId → Nat → List (Nat × Nat)) (fn : FuncId) : Code → Bool
  | .region id ops true => drawOk K fn ops.toList (Region.before ops) && statOk K fn (N fn id) ops.toList (Region.before ops)
  | .seq a b => good K N fn a && good K N fn b
  | .cond _ a b => good K N fn a && good K N fn b
  | .block _ a => good K N fn a
  | .loop a => good K N fn a
  | .scope a => good K N fn a
  | .rangeFunc _ _ a b => good K N fn a && good K N fn b
  | _ => true
section
variable (K : Ctx) (N : FuncId → Nat → List (Nat × Nat)) (fn : FuncId)
/-- What holds behind a piece of code. -/
def WP (c : Code) (st : GSt) (Q : GX → GSt → Prop) : Prop := good K N fn c = true → ∃ e st', geval K fn c st = some (e, st') ∧ Q e st'
def blockQ (id : Nat) (Q : GX → GSt → Prop) (e : GX) (st : GSt) : Prop := match e with | .exit id' => if id' = id then Q .normal st else Q (.exit id') st | e => Q e st
theorem keep_clean (H : Heap) (l0 : Nat) (s : Slots) : ∀ ks, keepSlots (cleanSlots H l0 s) ks = cleanSlots H l0 (keepSlots s ks)
  | [] => rfl
  | t :: r => by
    simp only [keepSlots, cleanSlots, keep_clean H l0 s r]
    congr 2
    induction s with
    | nil => rfl
    | cons x s ih =>
      obtain ⟨d, v⟩ := x
      simp only [cleanSlots, look]
      split
      · rfl
      · exact ih
/-- A loop's body at its head; 'ks': the slots kept at a round's head, 'ks2': at an exit. -/
def loopQ (W : Slots → Heap → Nat → Prop) (ks ks2 : List Nat) (Q : GX → GSt → Prop) (e : GX) (st : GSt) : Prop :=
  match st.h with
  | fr :: H => 0 < H.length ∧ (match e with
    | .normal => W (cleanSlots (fr :: H) (H.length - 1) (keepSlots st.s ks)) H st.nt
    | e => Q e ⟨cleanSlots (fr :: H) (H.length - 1) (keepSlots st.s ks2), H, st.nt⟩)
  | [] => False
/-- The same where blocks to which nothing leads are let go at a round's end. -/
def loopQc (W : Slots → Heap → Nat → Prop) (ks ks2 : List Nat) (Q : GX → GSt → Prop) (e : GX) (st : GSt) : Prop :=
  match st.h with
  | fr :: H => 0 < H.length ∧ (match e with
    | .normal => WPv (gcol ⟨cleanSlots (fr :: H) (H.length - 1) (keepSlots st.s ks), H, st.nt⟩) fun st => W st.s st.h st.nt
    | e => Q e ⟨cleanSlots (fr :: H) (H.length - 1) (keepSlots st.s ks2), H, st.nt⟩)
  | [] => False
/-- A loop whose head is reached with these slots. -/
def WPLb (b : Bool) (c : Code) (ks ks2 : List Nat) (Q : GX → GSt → Prop) (s : Slots) (H : Heap) (nt : Nat) : Prop :=
  good K N fn c = true → K.ann fn (firstRegion c) = some (ks, ks2) → K.car fn (firstRegion c) = b → ∃ e st', (match geval K fn c ⟨s, [] :: H, nt⟩ with
    | some (.normal, st) => (match gnext K fn c st with | some st => geval K fn (.loop c) st | none => none)
    | some (e, st) => (match gscope (some ks2) st with | some st => some (e, st) | none => none)
    | none => none) = some (e, st') ∧ Q e st'
def WPL (c : Code) (ks ks2 : List Nat) (Q : GX → GSt → Prop) (s : Slots) (H : Heap) (nt : Nat) : Prop := WPLb K N fn false c ks ks2 Q s H nt
def WPLc (c : Code) (ks ks2 : List Nat) (Q : GX → GSt → Prop) (s : Slots) (H : Heap) (nt : Nat) : Prop := WPLb K N fn true c ks ks2 Q s H nt
def asB : GV → Option Bool
  | .pure (.bool b) => some b
  | _ => none
/-- What has to hold ahead of a piece of code. -/
def wp : Code → GSt → (GX → GSt → Prop) → Prop
  | .skip, st, Q => Q .normal st
  | .label _, st, Q => Q .normal st
  | .exit id, st, Q => Q (.exit id) st
  | .ret, st, Q => Q .ret st
  | .region _ ops false, st, Q => wpops K fn ops.toList ops.toList st (Q .normal)
  | .region id ops true, st, Q => wpdraw K fn ops.toList (N fn id) 0 ops.toList [] [] st.h st (Q .normal)
  | .seq a b, st, Q => wp a st fun e st => match e with | .normal => wp b st Q | e => Q e st
  | .cond c x y, st, Q => WPv (asB (ev st.s c)) fun b => if b = true then wp x st Q else wp y st Q
  | .block id c, st, Q => wp c st (blockQ id Q)
  | .loop c, st, Q => WPv (K.ann fn (firstRegion c)) fun a => if K.car fn (firstRegion c) = true then WPLc K N fn c a.1 a.2 Q (keepSlots st.s a.1) st.h st.nt else WPL K N fn c a.1 a.2 Q (keepSlots st.s a.1) st.h st.nt
  | .rangeFunc f ps assign body, st, Q => WP K N fn (.rangeFunc f ps assign body) st Q
  | .scope c, st, Q => wp c st Q
  | _, _, _ => False
theorem wp_sound : ∀ (c : Code) {st : GSt} {Q : GX → GSt → Prop}, wp K N fn c st Q → WP K N fn c st Q
  | .skip, st, Q, h => fun _ => ⟨_, _, by rw [geval_eq]; rfl, h⟩
  | .label _, st, Q, h => fun _ => ⟨_, _, by rw [geval_eq]; rfl, h⟩
  | .exit id, st, Q, h => fun _ => ⟨_, _, by rw [geval_eq]; rfl, h⟩
  | .ret, st, Q, h => fun _ => ⟨_, _, by rw [geval_eq]; rfl, h⟩
  | .region id ops false, st, Q, h => fun _ => by
    obtain ⟨st', h1, h2⟩ := wpops_sound K fn h
    rw [geval_eq]
    exact ⟨_, _, by simp only [gbody, h1], h2⟩
  | .region id ops true, st, Q, h => fun hg => by
    simp only [good, Bool.and_eq_true] at hg
    obtain ⟨st', h1, h2⟩ := wpdraw_sound K fn hg.2 _ 0 [] [] [] [] _ _ rfl (by simp) (by simp) h
    rw [List.drop_zero] at h1
    rw [geval_eq]
    exact ⟨_, _, by simp only [gbody, hg.1, if_true, h1], h2⟩
  | .seq a b, st, Q, h => fun hg => by
    simp only [good, Bool.and_eq_true] at hg
    obtain ⟨e, st1, h1, h2⟩ := wp_sound a h hg.1
    rw [geval_eq]
    simp only [gbody, h1]
    cases e with
    | normal =>
      obtain ⟨e2, st2, h3, h4⟩ := wp_sound b h2 hg.2
      exact ⟨e2, st2, h3, h4⟩
    | exit id => exact ⟨_, _, rfl, h2⟩
    | ret => exact ⟨_, _, rfl, h2⟩
  | .cond c x y, st, Q, h => fun hg => by
    simp only [good, Bool.and_eq_true] at hg
    obtain ⟨b, h1, h2⟩ := h
    have hc : ev st.s c = .pure (.bool b) := by
      unfold asB at h1
      split at h1
      · rename_i b' hb; rw [hb]; cases h1; rfl
      · cases h1
    rw [geval_eq]
    simp only [gbody, hc]
    cases b with
    | true =>
      simp only [if_true] at h2 ⊢
      exact wp_sound x h2 hg.1
    | false =>
      simp only [Bool.false_eq_true, if_false] at h2 ⊢
      exact wp_sound y h2 hg.2
  | .block id c, st, Q, h => fun hg => by
    obtain ⟨e, st1, h1, h2⟩ := wp_sound c h (by simpa only [good] using hg)
    rw [geval_eq]
    simp only [gbody, h1]
    cases e with
    | exit id' =>
      simp only [blockQ] at h2
      split at h2
      · rename_i he; exact ⟨_, _, by simp only [he, if_true], h2⟩
      · rename_i he; exact ⟨_, _, by simp only [he, if_false], h2⟩
    | normal => exact ⟨_, _, rfl, h2⟩
    | ret => exact ⟨_, _, rfl, h2⟩
  | .loop c, st, Q, h => fun hg => by
    obtain ⟨⟨ks, ks2⟩, ha, h⟩ := h
    have h0 : WPLb K N fn (K.car fn (firstRegion c)) c ks ks2 Q (keepSlots st.s ks) st.h st.nt := by
      cases hc : K.car fn (firstRegion c) with
      | true => simp only [hc, if_true] at h; exact h
      | false => simp only [hc, Bool.false_eq_true, if_false] at h; exact h
    obtain ⟨e, st', h1, h2⟩ := h0 (by simpa only [good] using hg) ha rfl
    refine ⟨e, st', ?_, h2⟩
    rw [geval_eq]
    simp only [gbody, ha, Option.map_some, keepO]
    exact h1
  | .rangeFunc f ps assign body, st, Q, h => h
  | .scope c, st, Q, h => fun hg => by
    obtain ⟨e, st1, h1, h2⟩ := wp_sound c h (by simpa only [good] using hg)
    rw [geval_eq]
    exact ⟨e, st1, by simp only [gbody, h1], h2⟩
  | .goto _, _, _, h => h.elim
  | .refuse _, _, _, h => h.elim
theorem WPL_step {c : Code} {ks ks2 : List Nat} {Q : GX → GSt → Prop} {s : Slots} {H : Heap} {nt : Nat} (h : wp K N fn c ⟨s, [] :: H, nt⟩ (loopQ (WPL K N fn c ks ks2 Q) ks ks2 Q)) : WPL K N fn c ks ks2 Q s H nt := fun hg ha hc => by
  obtain ⟨e, st1, h1, h2⟩ := wp_sound K N fn c h hg
  rw [h1]
  unfold loopQ at h2
  split at h2
  · rename_i fr H1 hh
    obtain ⟨h3, h4⟩ := h2
    have hne : ¬ H1.length = 0 := by omega
    cases e with
    | normal =>
      simp only [gnext, hc, Bool.false_eq_true, gscope, hh, hne, if_false, keepO]
      simp only at h4
      obtain ⟨e2, st2, g1, g2⟩ := h4 hg ha hc
      refine ⟨e2, st2, ?_, g2⟩
      rw [geval_eq]
      simp only [gbody, ha, Option.map_some, keepO]
      rw [keep_clean]
      exact g1
    | exit id =>
      simp only [gscope, hh, hne, if_false, keepO]
      exact ⟨_, _, rfl, h4⟩
    | ret =>
      simp only [gscope, hh, hne, if_false, keepO]
      exact ⟨_, _, rfl, h4⟩
  · exact h2.elim
def outQ (f : FuncId) (g : Func) (c : Nat) (R : GV × Heap → Prop) (e : GX) (st : GSt) : Prop :=
  (match e with | .exit _ => False | _ => True) ∧ WPv (gresults K g st) fun rs => WPv (gleave K f c (packG rs) st.h) R
theorem call_enter0 {f : FuncId} {g : Func} {code : Code} {args : List GV} {c : Nat} {H : Heap} {R : GV × Heap → Prop} (hf : K.P.funcs[f]? = some g) (hb : g.body = some code)
    (hn : (g.name == "runtime.NumGoroutine") = false) (hgood : good K N f code = true) (hl : args.length ≤ g.ntmps) (hH : 0 < H.length)
    (h : wp K N f code ⟨slotsOf 0 (args.map canon), [] :: H, g.ntmps⟩ (outQ K f g c R)) : WPv (gcall0 K (geval K) f args c H) R := by
  obtain ⟨e, st, h1, h2, rs, h3, x, h4, h5⟩ := wp_sound K N f code h hgood
  refine ⟨x, ?_, h5⟩
  have hnt : ¬ g.ntmps < args.length := by omega
  have hH0 : ¬ H.length = 0 := by omega
  simp only [gcall0, hf, hb, hn, hnt, hH0, decide_false, Bool.or_self, Bool.false_eq_true, if_false, h1]
  cases e with
  | exit id => exact h2.elim
  | normal =>
    simp only [h3]
    rw [← h4]
    rcases rs with _ | ⟨r, _ | ⟨r2, l⟩⟩ <;> rfl
  | ret =>
    simp only [h3]
    rw [← h4]
    rcases rs with _ | ⟨r, _ | ⟨r2, l⟩⟩ <;> rfl
/-- A call whose arguments are told as they are. -/
theorem gcall_plain {f : FuncId} {args : List GV} {c : Nat} {H : Heap} {rec : Rec} (hc : K.cln f = false) (hb : K.bor f = false) (hz : frzVals H args = (args, H)) : gcall K rec f args c H = gcall0 K rec f args c H := by
  unfold gcall
  rw [hc, hb, hz]
  simp
/-- A call with slices that are lent. -/
theorem gcall_bor {f : FuncId} {args : List GV} {c : Nat} {H : Heap} {rec : Rec} (hc : K.cln f = false) (hb : K.bor f = true) : gcall K rec f args c H = gborrow K rec f ((frzVals H args).1.map canon) c H := by
  unfold gcall
  rw [hc, hb]
  simp
/-- A call with slices that are lent, that tells a value without slices. -/
theorem bor_flat {f : FuncId} {args args' : List GV} {c : Nat} {H : Heap} {rec : Rec} {p : PV} (hc : K.cln f = false) (hb : K.bor f = true) (hz : (frzVals H args).1.map canon = args') (hq : borBox args' = some none) (hH : 0 < H.length)
    (h0 : ∀ H : Heap, 0 < H.length → gcall0 K rec f args' c H = some (.pure p, H)) (hf : flatP p = true) : gcall K rec f args c H = some (.pure p, H) := by
  rw [gcall_bor K hc hb, hz]
  unfold gborrow
  rw [hq]
  simp only
  rw [h0 _ (by simpa [emptyH] using hH)]
  simp only [lentEnd, lentV, lent2, lent1, hf, if_true, refs, refs2, refs1, dedup, lentIns]
theorem call_enter {f : FuncId} {g : Func} {code : Code} {args : List GV} {c : Nat} {H : Heap} {R : GV × Heap → Prop} (hf : K.P.funcs[f]? = some g) (hb : g.body = some code)
    (hn : (g.name == "runtime.NumGoroutine") = false) (hgood : good K N f code = true) (hz : frzVals H args = (args, H)) (hc : K.cln f = false) (hbo : K.bor f = false) (hl : args.length ≤ g.ntmps) (hH : 0 < H.length)
    (h : wp K N f code ⟨slotsOf 0 (args.map canon), [] :: H, g.ntmps⟩ (outQ K f g c R)) : WPv (gcall K (geval K) f args c H) R := by
  rw [gcall_plain K hc hbo hz]
  exact call_enter0 K N hf hb hn hgood hl hH h
/-- A function whose arguments are not frozen. -/
theorem call_enterR {f : FuncId} {g : Func} {code : Code} {args : List GV} {c : Nat} {H : Heap} {R : GV × Heap → Prop} (hf : K.P.funcs[f]? = some g) (hb : g.body = some code)
    (hn : (g.name == "runtime.NumGoroutine") = false) (hgood : good K N f code = true) (hz : K.frz f = false) (hc : K.cln f = false) (hbo : K.bor f = false) (hl : args.length ≤ g.ntmps) (hH : 0 < H.length)
    (h : wp K N f code ⟨slotsOf 0 (args.map canon), [] :: H, g.ntmps⟩ (outQ K f g c R)) : WPv (gcall K (geval K) f args c H) R := by
  have h0 := call_enter0 K N hf hb hn hgood hl hH h
  unfold gcall
  rw [hz, hc, hbo]
  simpa using h0
end
end Go.Gh


/- The calculus as equations for simp. -/
namespace Go.Gh
set_option linter.unusedSimpArgs false
set_option linter.unusedVariables false
section
variable {K : Ctx} {N : FuncId → Nat → List (Nat × Nat)} {fn : FuncId}
@[congr] theorem WPv_cg {α : Type} {x y : Option α} {k : α → Prop} (h : ∀ _ : Unit, x = y) : WPv x k = WPv y k := by rw [h ()]
@[simp] theorem WPv_some {α : Type} {x : α} {k : α → Prop} : WPv (some x) k = k x := by
  unfold WPv; simp
@[simp] theorem WPv_none {α : Type} {k : α → Prop} : WPv none k = False := by
  unfold WPv; simp
@[simp] theorem wp_skip {st : GSt} {Q : GX → GSt → Prop} : wp K N fn .skip st Q = Q .normal st := by rw [wp]
@[simp] theorem wp_label {l : Nat} {st : GSt} {Q : GX → GSt → Prop} : wp K N fn (.label l) st Q = Q .normal st := by rw [wp]
@[simp] theorem wp_exit {id : Nat} {st : GSt} {Q : GX → GSt → Prop} : wp K N fn (.exit id) st Q = Q (.exit id) st := by rw [wp]
@[simp] theorem wp_ret {st : GSt} {Q : GX → GSt → Prop} : wp K N fn .ret st Q = Q .ret st := by rw [wp]
@[simp] theorem wp_region {id : Nat} {ops : Array Oper} {st : GSt} {Q : GX → GSt → Prop} : wp K N fn (.region id ops false) st Q = wpops K fn ops.toList ops.toList st (Q .normal) := by rw [wp]
@[simp] theorem wp_draw {id : Nat} {ops : Array Oper} {st : GSt} {Q : GX → GSt → Prop} : wp K N fn (.region id ops true) st Q = wpdraw K fn ops.toList (N fn id) 0 ops.toList [] [] st.h st (Q .normal) := by rw [wp]
def seqQ (b : Code) (Q : GX → GSt → Prop) (e : GX) (st : GSt) : Prop := match e with | .normal => wp K N fn b st Q | e => Q e st
@[simp] theorem wp_seq {a b : Code} {st : GSt} {Q : GX → GSt → Prop} : wp K N fn (.seq a b) st Q = wp K N fn a st (seqQ (K := K) (N := N) (fn := fn) b Q) := by rw [wp]; rfl
@[simp] theorem seqQ_normal {b : Code} {Q : GX → GSt → Prop} {st : GSt} : seqQ (K := K) (N := N) (fn := fn) b Q .normal st = wp K N fn b st Q := .trans rfl rfl
@[simp] theorem seqQ_exit {b : Code} {Q : GX → GSt → Prop} {id : Nat} {st : GSt} : seqQ (K := K) (N := N) (fn := fn) b Q (.exit id) st = Q (.exit id) st := .trans rfl rfl
@[simp] theorem seqQ_ret {b : Code} {Q : GX → GSt → Prop} {st : GSt} : seqQ (K := K) (N := N) (fn := fn) b Q .ret st = Q .ret st := .trans rfl rfl
@[simp] theorem wp_cond {c : Operand} {x y : Code} {st : GSt} {Q : GX → GSt → Prop} : wp K N fn (.cond c x y) st Q = WPv (asB (ev st.s c)) fun b => if b = true then wp K N fn x st Q else wp K N fn y st Q := by rw [wp]
@[simp] theorem asB_bool {b : Bool} : asB (.pure (.bool b)) = some b := .trans rfl rfl
@[simp] theorem wp_scope {c : Code} {st : GSt} {Q : GX → GSt → Prop} : wp K N fn (.scope c) st Q = wp K N fn c st Q := by rw [wp]
@[simp] theorem wp_block {id : Nat} {c : Code} {st : GSt} {Q : GX → GSt → Prop} : wp K N fn (.block id c) st Q = wp K N fn c st (blockQ id Q) := by rw [wp]
@[simp] theorem blockQ_normal {id : Nat} {Q : GX → GSt → Prop} {st : GSt} : blockQ id Q .normal st = Q .normal st := .trans rfl rfl
@[simp] theorem blockQ_ret {id : Nat} {Q : GX → GSt → Prop} {st : GSt} : blockQ id Q .ret st = Q .ret st := .trans rfl rfl
@[simp] theorem blockQ_exit {id id' : Nat} {Q : GX → GSt → Prop} {st : GSt} : blockQ id Q (.exit id') st = if id' = id then Q .normal st else Q (.exit id') st := .trans rfl rfl
@[simp] theorem wp_loop {c : Code} {st : GSt} {Q : GX → GSt → Prop} : wp K N fn (.loop c) st Q = WPv (K.ann fn (firstRegion c)) fun a => if K.car fn (firstRegion c) = true then WPLc K N fn c a.1 a.2 Q (keepSlots st.s a.1) st.h st.nt else WPL K N fn c a.1 a.2 Q (keepSlots st.s a.1) st.h st.nt := by rw [wp]
@[simp] theorem wp_rangeFunc {f : Operand} {ps : Array Tmp} {as b : Code} {st : GSt} {Q : GX → GSt → Prop} : wp K N fn (.rangeFunc f ps as b) st Q = WP K N fn (.rangeFunc f ps as b) st Q := by rw [wp]
@[simp] theorem loopQ_normal {W : Slots → Heap → Nat → Prop} {ks ks2 : List Nat} {Q : GX → GSt → Prop} {s : Slots} {fr : Fr} {H : Heap} {nt : Nat} :
    loopQ W ks ks2 Q .normal ⟨s, fr :: H, nt⟩ = (0 < H.length ∧ W (cleanSlots (fr :: H) (H.length - 1) (keepSlots s ks)) H nt) := .trans rfl rfl
@[simp] theorem loopQ_exit {W : Slots → Heap → Nat → Prop} {ks ks2 : List Nat} {Q : GX → GSt → Prop} {s : Slots} {fr : Fr} {H : Heap} {nt id : Nat} :
    loopQ W ks ks2 Q (.exit id) ⟨s, fr :: H, nt⟩ = (0 < H.length ∧ Q (.exit id) ⟨cleanSlots (fr :: H) (H.length - 1) (keepSlots s ks2), H, nt⟩) := .trans rfl rfl
@[simp] theorem loopQ_ret {W : Slots → Heap → Nat → Prop} {ks ks2 : List Nat} {Q : GX → GSt → Prop} {s : Slots} {fr : Fr} {H : Heap} {nt : Nat} :
    loopQ W ks ks2 Q .ret ⟨s, fr :: H, nt⟩ = (0 < H.length ∧ Q .ret ⟨cleanSlots (fr :: H) (H.length - 1) (keepSlots s ks2), H, nt⟩) := .trans rfl rfl
@[simp] theorem loopQc_normal {W : Slots → Heap → Nat → Prop} {ks ks2 : List Nat} {Q : GX → GSt → Prop} {s : Slots} {fr : Fr} {H : Heap} {nt : Nat} :
    loopQc W ks ks2 Q .normal ⟨s, fr :: H, nt⟩ = (0 < H.length ∧ WPv (gcol ⟨cleanSlots (fr :: H) (H.length - 1) (keepSlots s ks), H, nt⟩) fun st => W st.s st.h st.nt) := .trans rfl rfl
@[simp] theorem loopQc_exit {W : Slots → Heap → Nat → Prop} {ks ks2 : List Nat} {Q : GX → GSt → Prop} {s : Slots} {fr : Fr} {H : Heap} {nt id : Nat} :
    loopQc W ks ks2 Q (.exit id) ⟨s, fr :: H, nt⟩ = (0 < H.length ∧ Q (.exit id) ⟨cleanSlots (fr :: H) (H.length - 1) (keepSlots s ks2), H, nt⟩) := .trans rfl rfl
@[simp] theorem loopQc_ret {W : Slots → Heap → Nat → Prop} {ks ks2 : List Nat} {Q : GX → GSt → Prop} {s : Slots} {fr : Fr} {H : Heap} {nt : Nat} :
    loopQc W ks ks2 Q .ret ⟨s, fr :: H, nt⟩ = (0 < H.length ∧ Q .ret ⟨cleanSlots (fr :: H) (H.length - 1) (keepSlots s ks2), H, nt⟩) := .trans rfl rfl
@[simp] theorem outQ_normal {f : FuncId} {g : Func} {c : Nat} {R : GV × Heap → Prop} {st : GSt} : outQ K f g c R .normal st = WPv (gresults K g st) fun rs => WPv (gleave K f c (packG rs) st.h) R := by simp [outQ]
@[simp] theorem outQ_ret {f : FuncId} {g : Func} {c : Nat} {R : GV × Heap → Prop} {st : GSt} : outQ K f g c R .ret st = WPv (gresults K g st) fun rs => WPv (gleave K f c (packG rs) st.h) R := by simp [outQ]
@[simp] theorem outQ_exit {f : FuncId} {g : Func} {c : Nat} {R : GV × Heap → Prop} {st : GSt} {id : Nat} : outQ K f g c R (.exit id) st = False := by simp [outQ]
@[simp] theorem keepSlots_nil {s : Slots} : keepSlots s [] = [] := .trans rfl rfl
@[simp] theorem keepSlots_cons {s : Slots} {t : Nat} {r : List Nat} : keepSlots s (t :: r) = (t, look s t) :: keepSlots s r := .trans rfl rfl
@[simp] theorem cleanSlots_nil {H : Heap} {l0 : Nat} : cleanSlots H l0 [] = [] := .trans rfl rfl
@[simp] theorem cleanSlots_cons {H : Heap} {l0 : Nat} {t : Nat} {v : GV} {r : Slots} : cleanSlots H l0 ((t, v) :: r) = (t, clean H l0 v) :: cleanSlots H l0 r := .trans rfl rfl
@[simp] theorem look_nil {t : Nat} : look [] t = gdead := .trans rfl rfl
@[simp] theorem look_cons' {d t : Nat} {v : GV} {s : Slots} : look ((d, v) :: s) t = if t = d then v else look s t := .trans rfl rfl
@[simp] theorem ev_tmp {s : Slots} {t : Nat} : ev s (.tmp t) = look s t := .trans rfl rfl
@[simp] theorem ev_const {s : Slots} {v : Value} : ev s (.const v) = ofConst v := .trans rfl rfl
@[simp] theorem ev_func {s : Slots} {f : Nat} : ev s (.func f) = .pure (.fn f) := .trans rfl rfl
@[simp] theorem ofConst_int {k : IntKind} {n : Int} : ofConst (.int k n) = .pure (.int k n) := .trans rfl rfl
@[simp] theorem ofConst_bool {b : Bool} : ofConst (.bool b) = .pure (.bool b) := .trans rfl rfl
@[simp] theorem ofConst_nils : ofConst (.slice none 0 0) = .nils := .trans rfl rfl
@[simp] theorem ofConst_nilp : ofConst (.pointer none) = .pure .nilp := .trans rfl rfl
@[simp] theorem ofConst_nilf : ofConst .nilFunc = .pure .nilf := .trans rfl rfl
@[simp] theorem ofConst_nilm : ofConst (.map none) = .pure .nilm := .trans rfl rfl
@[simp] theorem ofConst_str {s : ByteArray} : ofConst (.string s) = .pure (.str s.data.toList) := .trans rfl rfl
@[simp] theorem putS_none {s : Slots} {v : GV} : putS s none v = s := .trans rfl rfl
@[simp] theorem putS_some {s : Slots} {d : Nat} {v : GV} : putS s (some d) v = (d, v) :: s := .trans rfl rfl
@[simp] theorem dstOk_none {nt : Nat} : dstOk nt none = True := .trans rfl rfl
@[simp] theorem dstOk_some {nt d : Nat} : dstOk nt (some d) = (d < nt) := .trans rfl rfl
@[simp] theorem slotsOf_nil {i : Nat} : slotsOf i [] = [] := .trans rfl rfl
@[simp] theorem slotsOf_cons {i : Nat} {v : GV} {l : List GV} : slotsOf i (v :: l) = (i, v) :: slotsOf (i + 1) l := .trans rfl rfl
@[simp] theorem wpops_nil {all : List Oper} {st : GSt} {Q : GSt → Prop} : wpops K fn all [] st Q = Q st := .trans rfl rfl
@[simp] theorem wpops_cons {all : List Oper} {o : Oper} {r : List Oper} {st : GSt} {Q : GSt → Prop} : wpops K fn all (o :: r) st Q = WPv (wantedG all st.s o) fun b =>
      if b = false then dstOk st.nt o.dst ∧ wpops K fn all r ⟨putS st.s o.dst gundef, st.h, st.nt⟩ Q
      else WPv (gstep K (geval K) fn o st.s st.h) fun x => dstOk st.nt o.dst ∧ wpops K fn all r ⟨putS st.s o.dst x.1, x.2, st.nt⟩ Q := .trans rfl rfl
@[simp] theorem wpdraw_nil {all : List Oper} {L : List (Nat × Nat)} {i : Nat} {obl : List Obl} {old : List (Nat × Heap)} {hb : Heap} {st : GSt} {Q : GSt → Prop} : wpdraw K fn all L i [] obl old hb st Q = Q st := .trans rfl rfl
@[simp] theorem wpdraw_cons {all : List Oper} {L : List (Nat × Nat)} {i : Nat} {o : Oper} {r : List Oper} {obl : List Obl} {old : List (Nat × Heap)} {hb : Heap} {st : GSt} {Q : GSt → Prop} :
    wpdraw K fn all L i (o :: r) obl old hb st Q = WPv (wantedG all st.s o) fun b =>
      if b = false then dstOk st.nt o.dst ∧ wpdraw K fn all L (i + 1) r obl old hb ⟨putS st.s o.dst gundef, st.h, st.nt⟩ Q
      else if opPure K fn o = true then
        WPv (gop K fn o st.s hb) fun x => dstOk st.nt o.dst ∧ (∀ y ∈ old, y.1 = i → y.2 = hb ∨ sameAt K fn o st.s x.1 y.2 = true) ∧
          wpdraw K fn all L (i + 1) r ((L.filter fun p => p.2 == i).map (fun p => ⟨p.1, o, st.s, x.1, hb⟩) ++ obl) old hb ⟨putS st.s o.dst x.1, st.h, st.nt⟩ Q
      else
        WPv (gstep K (geval K) fn o st.s st.h) fun x => dstOk st.nt o.dst ∧
          if isAlloc o = true then wpdraw K fn all L (i + 1) r obl old hb ⟨putS st.s o.dst x.1, x.2, st.nt⟩ Q
          else (∀ y ∈ obl, y.i = i → x.2 = y.h ∨ sameAt K fn y.o y.s y.v x.2 = true) ∧
            wpdraw K fn all L (i + 1) r obl ((L.filter fun p => p.2 == i).map (fun p => (p.1, hb)) ++ old) x.2 ⟨putS st.s o.dst x.1, x.2, st.nt⟩ Q := .trans rfl rfl
def dstAt : List Oper → Nat → Option Nat
  | [], _ => none
  | o :: r, j => if j = 0 then o.dst else dstAt r (j - 1)
@[simp] theorem dstAt_cons {o : Oper} {r : List Oper} {j : Nat} : dstAt (o :: r) j = if j = 0 then o.dst else dstAt r (j - 1) := .trans rfl rfl
def wantD (s : Slots) (want : Bool) : Option Nat → Option Bool
  | none => none
  | some d => (match look s d with | .pure (.bool b) => some (b == want) | .pure (.tuple []) => some false | _ => none)
def wantV (want : Bool) : GV → Option Bool
  | .pure (.bool b) => some (b == want)
  | .pure (.tuple []) => some false
  | _ => none
@[simp] theorem wantV_bool {want b : Bool} : wantV want (.pure (.bool b)) = some (b == want) := .trans rfl rfl
@[simp] theorem wantV_undef {want : Bool} : wantV want gundef = some false := .trans rfl rfl
@[congr] theorem wantD_cg {s : Slots} {want : Bool} {x y : Option Nat} (h : ∀ _ : Unit, x = y) : wantD s want x = wantD s want y := by rw [h ()]
@[simp] theorem wantD_some {s : Slots} {want : Bool} {d : Nat} : wantD s want (some d) = wantV want (look s d) := by
  unfold wantD wantV; rfl
theorem getElem_dstAt : ∀ (l : List Oper) (j : Nat), dstAt l j = (l[j]?).bind (·.dst)
  | [], j => by simp [dstAt]
  | o :: r, 0 => by simp [dstAt]
  | o :: r, j + 1 => by simp [dstAt, getElem_dstAt r j]
@[simp] theorem wantedG_none {all : List Oper} {s : Slots} {dst : Option Tmp} {op : Op} {ty : TypeId} {pos : String} {af : Array Edge} : wantedG all s ⟨dst, op, ty, pos, af, none⟩ = some true := .trans rfl rfl
@[simp] theorem wantedG_some {all : List Oper} {s : Slots} {dst : Option Tmp} {op : Op} {ty : TypeId} {pos : String} {af : Array Edge} {j : Nat} {want : Bool} :
    wantedG all s ⟨dst, op, ty, pos, af, some (j, want)⟩ = wantD s want (dstAt all j) := by
  rw [getElem_dstAt]
  unfold wantedG wantD
  simp only
  cases all[j]? with
  | none => rfl
  | some oj =>
    simp only [Option.bind_some]
    cases oj.dst with
    | none => rfl
    | some d => rfl
variable {rec : Rec} {dst : Option Tmp} {ty : TypeId} {pos : String} {af : Array Edge} {gu : Option (Nat × Bool)} {s : Slots} {H : Heap}
def liftR (r : Option Nat) (H : Heap) (b : GV) (z : GV × Heap) : Option (GV × Heap) := match r with
  | none => glift H b z
  | some key => gliftRow H b key z
@[congr] theorem liftR_cg {r r' : Option Nat} {H : Heap} {b b' : GV} {z : GV × Heap} (h : ∀ _ : Unit, r = r') (h' : ∀ _ : Unit, b = b') : liftR r H b z = liftR r' H b' z := by rw [h (), h' ()]
@[simp] theorem liftR_none {H : Heap} {b : GV} {z : GV × Heap} : liftR none H b z = glift H b z := .trans rfl rfl
@[simp] theorem liftR_some {key : Nat} {H : Heap} {b : GV} {z : GV × Heap} : liftR (some key) H b z = gliftRow H b key z := .trans rfl rfl
def liftQ (x : Option Tmp) (r : Option Nat) (s : Slots) (H : Heap) (y : Option (GV × Heap)) : Option (GV × Heap) := match x with
  | none => y
  | some t => (match y with | some z => liftR r H (look s t) z | none => none)
@[congr] theorem liftQ_cg {x x' : Option Tmp} {r : Option Nat} {s : Slots} {H : Heap} {y y' : Option (GV × Heap)} (h : ∀ _ : Unit, x = x') (h' : ∀ _ : Unit, y = y') : liftQ x r s H y = liftQ x' r s H y' := by rw [h (), h' ()]
@[simp] theorem liftQ_none {r : Option Nat} {s : Slots} {H : Heap} {y : Option (GV × Heap)} : liftQ none r s H y = y := .trans rfl rfl
@[simp] theorem liftQ_some {t : Tmp} {r : Option Nat} {s : Slots} {H : Heap} {z : GV × Heap} : liftQ (some t) r s H (some z) = liftR r H (look s t) z := .trans rfl rfl
@[simp] theorem gstep_call {f : Operand} {args : Array Operand} {ats : Array TypeId} : gstep K rec fn ⟨dst, .call ⟨.value f, args, ats⟩, ty, pos, af, gu⟩ s H = liftQ (K.lift fn (dst.getD 0)) (K.row fn (dst.getD 0)) s H (gcallee K rec (ev s f) (args.toList.map (ev s)) (dst.getD 0) H) := by
  unfold gstep liftQ
  simp only [goCalls]
  cases K.lift fn (dst.getD 0) with
  | none => rfl
  | some t => simp only [liftR]; cases gcallee K rec (ev s f) (args.toList.map (ev s)) (dst.getD 0) H <;> rfl
@[simp] theorem gcallee_fn {f : Nat} {args : List GV} {c : Nat} : gcallee K rec (.pure (.fn f)) args c H = gcall K rec f args c H := .trans rfl rfl
@[simp] theorem gcallee_func {f : Nat} {first cap args : List GV} {c : Nat} : gcallee K rec (.func f first cap) args c H = gcall K rec f (first ++ args ++ cap) c H := .trans rfl rfl
@[simp] theorem gcallee_yield {nm : Nm} {args : List GV} {c : Nat} : gcallee K rec (.yield nm) args c H = ground rec nm args H := .trans rfl rfl
end
end Go.Gh


/- Operations as equations for simp. -/
namespace Go.Gh
set_option linter.unusedSimpArgs false
set_option linter.unusedVariables false
section
variable {K : Ctx} {fn : FuncId} {rec : Rec} {dst : Option Tmp} {ty : TypeId} {pos : String} {af : Array Edge} {gu : Option (Nat × Bool)} {s : Slots} {H : Heap}
@[simp] theorem gstep_move (x : Operand) : gstep K rec fn ⟨dst, .move x, ty, pos, af, gu⟩ s H = gop K fn ⟨dst, .move x, ty, pos, af, gu⟩ s H := .trans rfl rfl
@[simp] theorem gstep_assign (x : Operand) : gstep K rec fn ⟨dst, .assign x, ty, pos, af, gu⟩ s H = gop K fn ⟨dst, .assign x, ty, pos, af, gu⟩ s H := .trans rfl rfl
@[simp] theorem gstep_pick (c a b : Operand) : gstep K rec fn ⟨dst, .pick c a b, ty, pos, af, gu⟩ s H = gop K fn ⟨dst, .pick c a b, ty, pos, af, gu⟩ s H := .trans rfl rfl
@[simp] theorem gstep_alloc (t : TypeId) : gstep K rec fn ⟨dst, .alloc t, ty, pos, af, gu⟩ s H = gop K fn ⟨dst, .alloc t, ty, pos, af, gu⟩ s H := .trans rfl rfl
@[simp] theorem gstep_box (t : TypeId) (x : Operand) : gstep K rec fn ⟨dst, .box t x, ty, pos, af, gu⟩ s H = gop K fn ⟨dst, .box t x, ty, pos, af, gu⟩ s H := .trans rfl rfl
@[simp] theorem gstep_build (t : TypeId) (ps : Array (Nat × Operand)) : gstep K rec fn ⟨dst, .build t ps, ty, pos, af, gu⟩ s H = gop K fn ⟨dst, .build t ps, ty, pos, af, gu⟩ s H := .trans rfl rfl
@[simp] theorem gstep_buildSlice (t : TypeId) (n : Nat) (ps : Array (Nat × Operand)) : gstep K rec fn ⟨dst, .buildSlice t n ps, ty, pos, af, gu⟩ s H = gop K fn ⟨dst, .buildSlice t n ps, ty, pos, af, gu⟩ s H := .trans rfl rfl
@[simp] theorem gstep_load (t : TypeId) (a : Operand) : gstep K rec fn ⟨dst, .load t a, ty, pos, af, gu⟩ s H = gop K fn ⟨dst, .load t a, ty, pos, af, gu⟩ s H := .trans rfl rfl
@[simp] theorem gstep_store (t : TypeId) (a x : Operand) : gstep K rec fn ⟨dst, .store t a x, ty, pos, af, gu⟩ s H = gop K fn ⟨dst, .store t a x, ty, pos, af, gu⟩ s H := .trans rfl rfl
@[simp] theorem gstep_nilCheck (x : Operand) : gstep K rec fn ⟨dst, .nilCheck x, ty, pos, af, gu⟩ s H = gop K fn ⟨dst, .nilCheck x, ty, pos, af, gu⟩ s H := .trans rfl rfl
@[simp] theorem gstep_binOp (op : BinOp) (t : TypeId) (x y : Operand) (d : TypeId) : gstep K rec fn ⟨dst, .binOp op t x y d, ty, pos, af, gu⟩ s H = gop K fn ⟨dst, .binOp op t x y d, ty, pos, af, gu⟩ s H := .trans rfl rfl
@[simp] theorem gstep_unOp (op : UnOp) (t : TypeId) (x : Operand) : gstep K rec fn ⟨dst, .unOp op t x, ty, pos, af, gu⟩ s H = gop K fn ⟨dst, .unOp op t x, ty, pos, af, gu⟩ s H := .trans rfl rfl
@[simp] theorem gstep_convert (a b : TypeId) (x : Operand) : gstep K rec fn ⟨dst, .convert a b x, ty, pos, af, gu⟩ s H = gop K fn ⟨dst, .convert a b x, ty, pos, af, gu⟩ s H := .trans rfl rfl
@[simp] theorem gstep_makeFunc (f : Fn) (a c : Array Operand) : gstep K rec fn ⟨dst, .makeFunc f a c, ty, pos, af, gu⟩ s H = gop K fn ⟨dst, .makeFunc f a c, ty, pos, af, gu⟩ s H := .trans rfl rfl
@[simp] theorem gstep_makeMap (t : TypeId) (r : Option Operand) : gstep K rec fn ⟨dst, .makeMap t r, ty, pos, af, gu⟩ s H = gop K fn ⟨dst, .makeMap t r, ty, pos, af, gu⟩ s H := .trans rfl rfl
@[simp] theorem gstep_makeSlice (t : TypeId) (l c : Operand) : gstep K rec fn ⟨dst, .makeSlice t l c, ty, pos, af, gu⟩ s H = gop K fn ⟨dst, .makeSlice t l c, ty, pos, af, gu⟩ s H := .trans rfl rfl
@[simp] theorem gstep_slice (t : TypeId) (x : Operand) (lo hi mx : Option Operand) : gstep K rec fn ⟨dst, .slice t x lo hi mx, ty, pos, af, gu⟩ s H = gop K fn ⟨dst, .slice t x lo hi mx, ty, pos, af, gu⟩ s H := .trans rfl rfl
@[simp] theorem gstep_fieldAddr (t : TypeId) (x : Operand) (f : Nat) : gstep K rec fn ⟨dst, .fieldAddr t x f, ty, pos, af, gu⟩ s H = gop K fn ⟨dst, .fieldAddr t x f, ty, pos, af, gu⟩ s H := .trans rfl rfl
@[simp] theorem gstep_field (t : TypeId) (x : Operand) (f : Nat) : gstep K rec fn ⟨dst, .field t x f, ty, pos, af, gu⟩ s H = gop K fn ⟨dst, .field t x f, ty, pos, af, gu⟩ s H := .trans rfl rfl
@[simp] theorem gstep_indexAddr (t : TypeId) (x i : Operand) : gstep K rec fn ⟨dst, .indexAddr t x i, ty, pos, af, gu⟩ s H = gop K fn ⟨dst, .indexAddr t x i, ty, pos, af, gu⟩ s H := .trans rfl rfl
@[simp] theorem gstep_index (t : TypeId) (x i : Operand) : gstep K rec fn ⟨dst, .index t x i, ty, pos, af, gu⟩ s H = gop K fn ⟨dst, .index t x i, ty, pos, af, gu⟩ s H := .trans rfl rfl
@[simp] theorem gstep_lookup (t : TypeId) (x k : Operand) (ok : Bool) : gstep K rec fn ⟨dst, .lookup t x k ok, ty, pos, af, gu⟩ s H = gop K fn ⟨dst, .lookup t x k ok, ty, pos, af, gu⟩ s H := .trans rfl rfl
@[simp] theorem gstep_mapUpdate (t : TypeId) (m k v : Operand) : gstep K rec fn ⟨dst, .mapUpdate t m k v, ty, pos, af, gu⟩ s H = gop K fn ⟨dst, .mapUpdate t m k v, ty, pos, af, gu⟩ s H := .trans rfl rfl
@[simp] theorem gstep_extract (t : Operand) (i : Nat) : gstep K rec fn ⟨dst, .extract t i, ty, pos, af, gu⟩ s H = gop K fn ⟨dst, .extract t i, ty, pos, af, gu⟩ s H := .trans rfl rfl
@[simp] theorem gstep_builtin (b : Builtin) (args : Array Operand) (ats : Array TypeId) : gstep K rec fn ⟨dst, .call ⟨.builtin b, args, ats⟩, ty, pos, af, gu⟩ s H = gop K fn ⟨dst, .call ⟨.builtin b, args, ats⟩, ty, pos, af, gu⟩ s H := .trans rfl rfl
@[simp] theorem opPure_move (x : Operand) : opPure K fn ⟨dst, .move x, ty, pos, af, gu⟩ = true := .trans rfl rfl
@[simp] theorem opPure_assign (x : Operand) : opPure K fn ⟨dst, .assign x, ty, pos, af, gu⟩ = true := .trans rfl rfl
@[simp] theorem opPure_pick (c a b : Operand) : opPure K fn ⟨dst, .pick c a b, ty, pos, af, gu⟩ = true := .trans rfl rfl
@[simp] theorem opPure_alloc (t : TypeId) : opPure K fn ⟨dst, .alloc t, ty, pos, af, gu⟩ = false := .trans rfl rfl
@[simp] theorem opPure_box (t : TypeId) (x : Operand) : opPure K fn ⟨dst, .box t x, ty, pos, af, gu⟩ = false := .trans rfl rfl
@[simp] theorem opPure_build (t : TypeId) (ps : Array (Nat × Operand)) : opPure K fn ⟨dst, .build t ps, ty, pos, af, gu⟩ = true := .trans rfl rfl
@[simp] theorem opPure_load (t : TypeId) (a : Operand) : opPure K fn ⟨dst, .load t a, ty, pos, af, gu⟩ = true := .trans rfl rfl
@[simp] theorem opPure_store (t : TypeId) (a x : Operand) : opPure K fn ⟨dst, .store t a x, ty, pos, af, gu⟩ = false := .trans rfl rfl
@[simp] theorem opPure_nilCheck (x : Operand) : opPure K fn ⟨dst, .nilCheck x, ty, pos, af, gu⟩ = true := .trans rfl rfl
@[simp] theorem opPure_binOp (op : BinOp) (t : TypeId) (x y : Operand) (d : TypeId) : opPure K fn ⟨dst, .binOp op t x y d, ty, pos, af, gu⟩ = true := .trans rfl rfl
@[simp] theorem opPure_unOp (op : UnOp) (t : TypeId) (x : Operand) : opPure K fn ⟨dst, .unOp op t x, ty, pos, af, gu⟩ = true := .trans rfl rfl
@[simp] theorem opPure_convert (a b : TypeId) (x : Operand) : opPure K fn ⟨dst, .convert a b x, ty, pos, af, gu⟩ = true := .trans rfl rfl
@[simp] theorem opPure_makeFunc (f : Fn) (a c : Array Operand) : opPure K fn ⟨dst, .makeFunc f a c, ty, pos, af, gu⟩ = true := .trans rfl rfl
@[simp] theorem opPure_makeMap (t : TypeId) (r : Option Operand) : opPure K fn ⟨dst, .makeMap t r, ty, pos, af, gu⟩ = false := .trans rfl rfl
@[simp] theorem opPure_makeSlice (t : TypeId) (l c : Operand) : opPure K fn ⟨dst, .makeSlice t l c, ty, pos, af, gu⟩ = false := .trans rfl rfl
@[simp] theorem opPure_slice (t : TypeId) (x : Operand) (lo hi mx : Option Operand) : opPure K fn ⟨dst, .slice t x lo hi mx, ty, pos, af, gu⟩ = true := .trans rfl rfl
@[simp] theorem opPure_fieldAddr (t : TypeId) (x : Operand) (f : Nat) : opPure K fn ⟨dst, .fieldAddr t x f, ty, pos, af, gu⟩ = true := .trans rfl rfl
@[simp] theorem opPure_field (t : TypeId) (x : Operand) (f : Nat) : opPure K fn ⟨dst, .field t x f, ty, pos, af, gu⟩ = true := .trans rfl rfl
@[simp] theorem opPure_indexAddr (t : TypeId) (x i : Operand) : opPure K fn ⟨dst, .indexAddr t x i, ty, pos, af, gu⟩ = true := .trans rfl rfl
@[simp] theorem opPure_index (t : TypeId) (x i : Operand) : opPure K fn ⟨dst, .index t x i, ty, pos, af, gu⟩ = true := .trans rfl rfl
@[simp] theorem opPure_lookup (t : TypeId) (x k : Operand) (ok : Bool) : opPure K fn ⟨dst, .lookup t x k ok, ty, pos, af, gu⟩ = true := .trans rfl rfl
@[simp] theorem opPure_mapUpdate (t : TypeId) (m k v : Operand) : opPure K fn ⟨dst, .mapUpdate t m k v, ty, pos, af, gu⟩ = false := .trans rfl rfl
@[simp] theorem opPure_extract (t : Operand) (i : Nat) : opPure K fn ⟨dst, .extract t i, ty, pos, af, gu⟩ = true := .trans rfl rfl
@[simp] theorem opPure_buildSlice (t : TypeId) (n : Nat) (ps : Array (Nat × Operand)) : opPure K fn ⟨dst, .buildSlice t n ps, ty, pos, af, gu⟩ = (match dst with | some d => !K.own fn d | none => true) := .trans rfl rfl
@[simp] theorem opPure_len (args : Array Operand) (ats : Array TypeId) : opPure K fn ⟨dst, .call ⟨.builtin .len, args, ats⟩, ty, pos, af, gu⟩ = true := .trans rfl rfl
@[simp] theorem opPure_min (args : Array Operand) (ats : Array TypeId) : opPure K fn ⟨dst, .call ⟨.builtin .min, args, ats⟩, ty, pos, af, gu⟩ = true := .trans rfl rfl
@[simp] theorem opPure_max (args : Array Operand) (ats : Array TypeId) : opPure K fn ⟨dst, .call ⟨.builtin .max, args, ats⟩, ty, pos, af, gu⟩ = true := .trans rfl rfl
@[simp] theorem opPure_append (args : Array Operand) (ats : Array TypeId) : opPure K fn ⟨dst, .call ⟨.builtin .append, args, ats⟩, ty, pos, af, gu⟩ = false := .trans rfl rfl
@[simp] theorem opPure_call (f : Operand) (args : Array Operand) (ats : Array TypeId) : opPure K fn ⟨dst, .call ⟨.value f, args, ats⟩, ty, pos, af, gu⟩ = false := .trans rfl rfl
@[simp] theorem isAlloc_move (x : Operand) : isAlloc ⟨dst, .move x, ty, pos, af, gu⟩ = false := by cases dst <;> rfl
@[simp] theorem isAlloc_assign (x : Operand) : isAlloc ⟨dst, .assign x, ty, pos, af, gu⟩ = false := by cases dst <;> rfl
@[simp] theorem isAlloc_pick (c a b : Operand) : isAlloc ⟨dst, .pick c a b, ty, pos, af, gu⟩ = false := by cases dst <;> rfl
@[simp] theorem isAlloc_box (t : TypeId) (x : Operand) : isAlloc ⟨dst, .box t x, ty, pos, af, gu⟩ = false := by cases dst <;> rfl
@[simp] theorem isAlloc_build (t : TypeId) (ps : Array (Nat × Operand)) : isAlloc ⟨dst, .build t ps, ty, pos, af, gu⟩ = false := by cases dst <;> rfl
@[simp] theorem isAlloc_buildSlice (t : TypeId) (n : Nat) (ps : Array (Nat × Operand)) : isAlloc ⟨dst, .buildSlice t n ps, ty, pos, af, gu⟩ = false := by cases dst <;> rfl
@[simp] theorem isAlloc_load (t : TypeId) (a : Operand) : isAlloc ⟨dst, .load t a, ty, pos, af, gu⟩ = false := by cases dst <;> rfl
@[simp] theorem isAlloc_store (t : TypeId) (a x : Operand) : isAlloc ⟨dst, .store t a x, ty, pos, af, gu⟩ = false := by cases dst <;> rfl
@[simp] theorem isAlloc_nilCheck (x : Operand) : isAlloc ⟨dst, .nilCheck x, ty, pos, af, gu⟩ = false := by cases dst <;> rfl
@[simp] theorem isAlloc_binOp (op : BinOp) (t : TypeId) (x y : Operand) (d : TypeId) : isAlloc ⟨dst, .binOp op t x y d, ty, pos, af, gu⟩ = false := by cases dst <;> rfl
@[simp] theorem isAlloc_unOp (op : UnOp) (t : TypeId) (x : Operand) : isAlloc ⟨dst, .unOp op t x, ty, pos, af, gu⟩ = false := by cases dst <;> rfl
@[simp] theorem isAlloc_convert (a b : TypeId) (x : Operand) : isAlloc ⟨dst, .convert a b x, ty, pos, af, gu⟩ = false := by cases dst <;> rfl
@[simp] theorem isAlloc_makeFunc (f : Fn) (a c : Array Operand) : isAlloc ⟨dst, .makeFunc f a c, ty, pos, af, gu⟩ = false := by cases dst <;> rfl
@[simp] theorem isAlloc_makeMap (t : TypeId) (r : Option Operand) : isAlloc ⟨dst, .makeMap t r, ty, pos, af, gu⟩ = false := by cases dst <;> rfl
@[simp] theorem isAlloc_makeSlice (t : TypeId) (l c : Operand) : isAlloc ⟨dst, .makeSlice t l c, ty, pos, af, gu⟩ = false := by cases dst <;> rfl
@[simp] theorem isAlloc_slice (t : TypeId) (x : Operand) (lo hi mx : Option Operand) : isAlloc ⟨dst, .slice t x lo hi mx, ty, pos, af, gu⟩ = false := by cases dst <;> rfl
@[simp] theorem isAlloc_fieldAddr (t : TypeId) (x : Operand) (f : Nat) : isAlloc ⟨dst, .fieldAddr t x f, ty, pos, af, gu⟩ = false := by cases dst <;> rfl
@[simp] theorem isAlloc_field (t : TypeId) (x : Operand) (f : Nat) : isAlloc ⟨dst, .field t x f, ty, pos, af, gu⟩ = false := by cases dst <;> rfl
@[simp] theorem isAlloc_indexAddr (t : TypeId) (x i : Operand) : isAlloc ⟨dst, .indexAddr t x i, ty, pos, af, gu⟩ = false := by cases dst <;> rfl
@[simp] theorem isAlloc_index (t : TypeId) (x i : Operand) : isAlloc ⟨dst, .index t x i, ty, pos, af, gu⟩ = false := by cases dst <;> rfl
@[simp] theorem isAlloc_lookup (t : TypeId) (x k : Operand) (ok : Bool) : isAlloc ⟨dst, .lookup t x k ok, ty, pos, af, gu⟩ = false := by cases dst <;> rfl
@[simp] theorem isAlloc_mapUpdate (t : TypeId) (m k v : Operand) : isAlloc ⟨dst, .mapUpdate t m k v, ty, pos, af, gu⟩ = false := by cases dst <;> rfl
@[simp] theorem isAlloc_extract (t : Operand) (i : Nat) : isAlloc ⟨dst, .extract t i, ty, pos, af, gu⟩ = false := by cases dst <;> rfl
@[simp] theorem isAlloc_call (c : Call) : isAlloc ⟨dst, .call c, ty, pos, af, gu⟩ = false := by cases dst <;> rfl
@[simp] theorem isAlloc_alloc {d : Nat} (t : TypeId) : isAlloc ⟨some d, .alloc t, ty, pos, af, none⟩ = true := .trans rfl rfl
/-- A value, the heap as it was. -/
def rv (H : Heap) (x : Option GV) : Option (GV × Heap) := match x with | some v => some (v, H) | none => none
@[congr] theorem rv_cg {x y : Option GV} (h : ∀ _ : Unit, x = y) : rv H x = rv H y := by rw [h ()]
@[simp] theorem rv_some {v : GV} : rv H (some v) = some (v, H) := .trans rfl rfl
@[simp] theorem rv_none : rv H none = none := .trans rfl rfl
def rp (H : Heap) (x : Option PV) : Option (GV × Heap) := match x with | some v => some (.pure v, H) | none => none
@[congr] theorem rp_cg {x y : Option PV} (h : ∀ _ : Unit, x = y) : rp H x = rp H y := by rw [h ()]
@[simp] theorem rp_some {v : PV} : rp H (some v) = some (.pure v, H) := .trans rfl rfl
@[simp] theorem rp_none : rp H none = none := .trans rfl rfl
def rh (x : Option Heap) : Option (GV × Heap) := match x with | some H => some (gdead, H) | none => none
@[simp] theorem rh_some : rh (some H) = some (gdead, H) := .trans rfl rfl
@[simp] theorem rh_none : rh none = none := .trans rfl rfl
def rn (x : Option (Nm × Heap)) (g : Nm → GV) : Option (GV × Heap) := match x with | some (nm, H) => some (g nm, H) | none => none
@[simp] theorem rn_some {nm : Nm} {g : Nm → GV} : rn (some (nm, H)) g = some (g nm, H) := .trans rfl rfl
@[simp] theorem rn_none {g : Nm → GV} : rn none g = none := .trans rfl rfl
@[simp] theorem gop_move {x : Operand} : gop K fn ⟨dst, .move x, ty, pos, af, gu⟩ s H = rv H (some (ev s x)) := .trans rfl rfl
@[simp] theorem gop_assign {x : Operand} : gop K fn ⟨dst, .assign x, ty, pos, af, gu⟩ s H = rv H (some (ev s x)) := .trans rfl rfl
def pickV (c a b : GV) : Option GV := match c with | .pure (.bool t) => some (if t then a else b) | _ => none
@[simp] theorem pickV_bool {t : Bool} {a b : GV} : pickV (.pure (.bool t)) a b = some (if t = true then a else b) := .trans rfl rfl
@[simp] theorem gop_pick {c a b : Operand} : gop K fn ⟨dst, .pick c a b, ty, pos, af, gu⟩ s H = rv H (pickV (ev s c) (ev s a) (ev s b)) := by
  simp only [gop]; unfold pickV; generalize ev s c = g; cases g with
  | pure p => cases p <;> rfl
  | _ => rfl
def newBox (H : Heap) (d : Nat) (x : Option (List GV)) : Option (GV × Heap) := match x with | some cs => rn (gnew H d (.box cs)) (fun nm => .bptr nm 0) | none => none
@[simp] theorem newBox_some {d : Nat} {cs : List GV} : newBox H d (some cs) = rn (gnew H d (.box cs)) (fun nm => .bptr nm 0) := .trans rfl rfl
def cellsO' (x : Option GV) : Option (List GV) := match x with | some z => cellsO z | none => none
@[simp] theorem cellsO'_some {z : GV} : cellsO' (some z) = cellsO z := .trans rfl rfl
@[simp] theorem gop_alloc {d : Nat} {t : TypeId} : gop K fn ⟨some d, .alloc t, ty, pos, af, gu⟩ s H = newBox H d (cellsO' (tzero K.P t)) := by
  simp only [gop]
  cases h : tzero K.P t with
  | none => rfl
  | some z =>
    simp only [cellsO'_some, newBox]
    cases cellsO z with
    | none => rfl
    | some cs =>
      simp only
      cases gnew H d (.box cs) with
      | none => rfl
      | some x => rfl
@[simp] theorem gop_box {d : Nat} {t : TypeId} {x : Operand} : gop K fn ⟨some d, .box t x, ty, pos, af, gu⟩ s H = newBox H d (cellsO (ev s x)) := by
  simp only [gop, newBox]
  cases cellsO (ev s x) with
  | none => rfl
  | some cs =>
    simp only
    cases gnew H d (.box cs) with
    | none => rfl
    | some x => rfl
@[simp] theorem gnew_cons {fr : Fr} {d : Nat} {b : Blk} : gnew (fr :: H) d b = if (fr.get d).isSome then none else some ((H.length, d), fr.ins d b :: H) := by
  unfold gnew gnewAt
  simp only [List.length_cons, Nat.add_sub_cancel]
  rw [if_neg (by omega)]
  simp only [Heap.get, Heap.set, if_true]
  cases fr.get d <;> simp
@[simp] theorem Fr.get_nil {q : Nat} : Fr.get [] q = none := .trans rfl rfl
@[simp] theorem Fr.get_cons {k q : Nat} {b : Blk} {r : Fr} : Fr.get ((k, b) :: r) q = if q = k then some b else Fr.get r q := .trans rfl rfl
@[simp] theorem Fr.ins_nil {q : Nat} {x : Blk} : Fr.ins q x [] = [(q, x)] := .trans rfl rfl
@[simp] theorem Fr.ins_cons {k q : Nat} {x b : Blk} {r : Fr} : Fr.ins q x ((k, b) :: r) = if q = k then (q, x) :: r else if q < k then (q, x) :: (k, b) :: r else (k, b) :: Fr.ins q x r := .trans rfl rfl
@[simp] theorem Heap.get_cons' {fr : Fr} {nm : Nm} : Heap.get (fr :: H) nm = if nm.1 = H.length then fr.get nm.2 else Heap.get H nm := .trans rfl rfl
@[simp] theorem Heap.set_cons' {fr : Fr} {nm : Nm} {b : Blk} : Heap.set (fr :: H) nm b = if nm.1 = H.length then fr.ins nm.2 b :: H else fr :: Heap.set H nm b := .trans rfl rfl
@[simp] theorem cellsO_agg {l : List GV} : cellsO (.agg l) = some l := .trans rfl rfl
@[simp] theorem cellsO_pagg {l : List PV} : cellsO (.pure (.agg l)) = some (l.map .pure) := .trans rfl rfl
@[simp] theorem cellsO_int {k : IntKind} {n : Int} : cellsO (.pure (.int k n)) = some [.pure (.int k n)] := .trans rfl rfl
@[simp] theorem cellsO_bool {b : Bool} : cellsO (.pure (.bool b)) = some [.pure (.bool b)] := .trans rfl rfl
@[simp] theorem cellsO_str {l : List UInt8} : cellsO (.pure (.str l)) = some [.pure (.str l)] := .trans rfl rfl
@[simp] theorem cellsO_slice {l : List (List PV)} : cellsO (.pure (.slice l)) = some [.pure (.slice l)] := .trans rfl rfl
@[simp] theorem cellsO_fn {f : Nat} : cellsO (.pure (.fn f)) = some [.pure (.fn f)] := .trans rfl rfl
@[simp] theorem cellsO_nilm : cellsO (.pure .nilm) = some [.pure .nilm] := .trans rfl rfl
@[simp] theorem cellsO_nilf : cellsO (.pure .nilf) = some [.pure .nilf] := .trans rfl rfl
@[simp] theorem cellsO_nilp : cellsO (.pure .nilp) = some [.pure .nilp] := .trans rfl rfl
@[simp] theorem cellsO_nils : cellsO .nils = some [.nils] := .trans rfl rfl
@[simp] theorem cellsO_hdr {nm : Nm} {es top lo len : Nat} : cellsO (.hdr nm es top lo len) = some [.hdr nm es top lo len] := .trans rfl rfl
@[simp] theorem cellsO_bptr {nm : Nm} {o : Nat} : cellsO (.bptr nm o) = some [.bptr nm o] := .trans rfl rfl
@[simp] theorem cellsO_map {nm : Nm} : cellsO (.map nm) = some [.map nm] := .trans rfl rfl
@[simp] theorem cellsO_func {f : Nat} {a c : List GV} : cellsO (.func f a c) = some [.func f a c] := .trans rfl rfl
@[simp] theorem cellsO_yield {nm : Nm} : cellsO (.yield nm) = some [.yield nm] := .trans rfl rfl
@[simp] theorem cellsO_lits {l : List (List GV)} : cellsO (.lits l) = some [.lits l] := .trans rfl rfl
@[simp] theorem allPure_nil : allPure [] = some [] := .trans rfl rfl
@[simp] theorem allPure_pure {p : PV} {r : List GV} : allPure (.pure p :: r) = (allPure r).map (p :: ·) := by
  simp only [allPure]; cases allPure r <;> rfl
@[simp] theorem allPure_map' (l : List PV) : allPure (l.map .pure) = some l := allPure_map l
@[simp] theorem allPure_agg {l : List GV} {r : List GV} : allPure (.agg l :: r) = none := .trans rfl rfl
@[simp] theorem allPure_nils {r : List GV} : allPure (.nils :: r) = none := .trans rfl rfl
@[simp] theorem allPure_hdr {nm : Nm} {es top lo len : Nat} {r : List GV} : allPure (.hdr nm es top lo len :: r) = none := .trans rfl rfl
@[simp] theorem allPure_bptr {nm : Nm} {o : Nat} {r : List GV} : allPure (.bptr nm o :: r) = none := .trans rfl rfl
@[simp] theorem allPure_mapn {nm : Nm} {r : List GV} : allPure (.map nm :: r) = none := .trans rfl rfl
@[simp] theorem allPure_func {f : Nat} {a c : List GV} {r : List GV} : allPure (.func f a c :: r) = none := .trans rfl rfl
def mkA (x : Option (List PV)) (l : List GV) : GV := match x with | some ps => .pure (.agg ps) | none => .agg l
@[congr] theorem mkA_cg {x y : Option (List PV)} {l : List GV} (h : ∀ _ : Unit, x = y) : mkA x l = mkA y l := by rw [h ()]
@[simp] theorem mkA_some {ps : List PV} {l : List GV} : mkA (some ps) l = .pure (.agg ps) := .trans rfl rfl
@[simp] theorem mkA_none {l : List GV} : mkA none l = .agg l := .trans rfl rfl
@[simp] theorem mkAgg_def {l : List GV} : mkAgg l = mkA (allPure l) l := .trans rfl rfl
def mkT (x : Option (List PV)) (l : List GV) : GV := match x with | some ps => .pure (.tuple ps) | none => .tuple l
@[congr] theorem mkT_cg {x y : Option (List PV)} {l : List GV} (h : ∀ _ : Unit, x = y) : mkT x l = mkT y l := by rw [h ()]
@[simp] theorem mkT_some {ps : List PV} {l : List GV} : mkT (some ps) l = .pure (.tuple ps) := .trans rfl rfl
@[simp] theorem mkT_none {l : List GV} : mkT none l = .tuple l := .trans rfl rfl
@[simp] theorem mkTuple_def {l : List GV} : mkTuple l = mkT (allPure l) l := .trans rfl rfl
@[simp] theorem gop_load {t : TypeId} {a : Operand} : gop K fn ⟨dst, .load t a, ty, pos, af, gu⟩ s H = rv H (gload K.P t H (ev s a)) := .trans rfl rfl
@[simp] theorem gop_store {t : TypeId} {a x : Operand} : gop K fn ⟨dst, .store t a x, ty, pos, af, gu⟩ s H = rh (gstore K.P t H (ev s a) (ev s x)) := .trans rfl rfl
def ldBox (ag : Option Bool) (sz : Option Nat) (off : Nat) (b : Option Blk) : Option GV :=
  match ag, sz, b with
  | some true, some size, some (.box cs) => if off + size ≤ cs.length then some (mkAgg ((cs.drop off).take size)) else none
  | some false, some _, some (.box cs) => cs[off]?
  | _, _, _ => none
@[simp] theorem ldBox_agg {sz off : Nat} {cs : List GV} : ldBox (some true) (some sz) off (some (.box cs)) = if off + sz ≤ cs.length then some (mkAgg ((cs.drop off).take sz)) else none := .trans rfl rfl
@[simp] theorem ldBox_one {sz off : Nat} {cs : List GV} : ldBox (some false) (some sz) off (some (.box cs)) = cs[off]? := .trans rfl rfl
@[simp] theorem gload_bptr {P : Program} {t : TypeId} {nm : Nm} {off : Nat} : gload P t H (.bptr nm off) = ldBox (tagg P t) (tsize P t) off (H.get nm) := by
  unfold gload ldBox; generalize tagg P t = x; generalize tsize P t = y; simp only; generalize Heap.get H nm = z
  rcases x with _ | ag <;> rcases y with _ | sz <;> rcases z with _ | b <;> try rfl
  all_goals (cases ag <;> try rfl)
  all_goals (cases b <;> rfl)
def ldP (ag : Option Bool) (sz : Option Nat) (cs : List PV) : Option GV :=
  match ag, sz with
  | some true, some size => if size ≤ cs.length then some (.pure (.agg (cs.take size))) else none
  | some false, some _ => (match cs[0]? with | some p => some (.pure p) | none => none)
  | _, _ => none
@[simp] theorem ldP_agg {sz : Nat} {cs : List PV} : ldP (some true) (some sz) cs = if sz ≤ cs.length then some (.pure (.agg (cs.take sz))) else none := .trans rfl rfl
@[simp] theorem ldP_one {sz : Nat} {p : PV} {cs : List PV} : ldP (some false) (some sz) (p :: cs) = some (.pure p) := .trans rfl rfl
@[simp] theorem gload_pptr {P : Program} {t : TypeId} {cs : List PV} : gload P t H (.pptr cs) = ldP (tagg P t) (tsize P t) cs := by
  unfold gload ldP; generalize tagg P t = x; generalize tsize P t = y
  rcases x with _ | ag <;> rcases y with _ | sz <;> try rfl
  all_goals (cases ag <;> rfl)
def ldL (ag : Option Bool) (sz : Option Nat) (cs : List GV) : Option GV :=
  match ag, sz with
  | some true, some size => if size ≤ cs.length then some (mkAgg (cs.take size)) else none
  | some false, some _ => cs[0]?
  | _, _ => none
@[simp] theorem ldL_agg {sz : Nat} {cs : List GV} : ldL (some true) (some sz) cs = if sz ≤ cs.length then some (mkAgg (cs.take sz)) else none := .trans rfl rfl
@[simp] theorem ldL_one {sz : Nat} {cs : List GV} : ldL (some false) (some sz) cs = cs[0]? := .trans rfl rfl
@[simp] theorem gload_lptr {P : Program} {t : TypeId} {cs : List GV} : gload P t H (.lptr cs) = ldL (tagg P t) (tsize P t) cs := by
  unfold gload ldL; generalize tagg P t = x; generalize tsize P t = y
  rcases x with _ | ag <;> rcases y with _ | sz <;> try rfl
  all_goals (cases ag <;> rfl)
def ldE (ag : Option Bool) (sz : Option Nat) (es top i off : Nat) (b : Option Blk) : Option GV :=
  match ag, sz, b with
  | some ag, some size, some (.arr es' elems vf _) => if es' = es ∧ vf ≤ top ∧ i < top ∧ top ≤ elems.length then
        (match elems[i]? with
        | some e => if ag then (if off + size ≤ e.length then some (.pure (.agg ((e.drop off).take size))) else none) else (match e[off]? with | some p => some (.pure p) | none => none)
        | none => none)
      else none
  | _, _, _ => none
def ldM (ag : Option Bool) (sz : Option Nat) (nm : Nm) (es top i off : Nat) (b : Option Blk) : Option GV :=
  match ag, sz, b with
  | some ag, some _, some (.mat es' rows n) => if ag = false ∧ es = 1 ∧ off = 0 ∧ i < top ∧ top ≤ n then (match rows[i]? with | some r => some (.rhdr nm es' i r.length) | none => none) else none
  | ag, sz, b => ldE ag sz es top i off b
@[congr] theorem ldM_cg {ag : Option Bool} {sz : Option Nat} {nm : Nm} {es top i off : Nat} {b b' : Option Blk} (h : ∀ _ : Unit, b = b') : ldM ag sz nm es top i off b = ldM ag sz nm es top i off b' := by rw [h ()]
@[simp] theorem ldM_mat {sz : Nat} {nm : Nm} {top i es' n : Nat} {rows : List (List (List PV))} : ldM (some false) (some sz) nm 1 top i 0 (some (.mat es' rows n)) = if i < top ∧ top ≤ n then (match rows[i]? with | some r => some (.rhdr nm es' i r.length) | none => none) else none := by
  simp only [ldM, true_and]
@[simp] theorem ldM_arr {ag sz : Option _} {nm : Nm} {es top i off es' vf : Nat} {elems : List (List PV)} {ro : Bool} : ldM ag sz nm es top i off (some (.arr es' elems vf ro)) = ldE ag sz es top i off (some (.arr es' elems vf ro)) := by
  cases ag <;> cases sz <;> rfl
@[simp] theorem gload_eptr {P : Program} {t : TypeId} {nm : Nm} {es top i off : Nat} : gload P t H (.eptr nm es top i off) = ldM (tagg P t) (tsize P t) nm es top i off (H.get nm) := by
  unfold gload ldM ldE; generalize tagg P t = x; generalize tsize P t = y; simp only; generalize Heap.get H nm = z
  rcases x with _ | ag <;> rcases y with _ | sz <;> rcases z with _ | b <;> try rfl
  all_goals (cases b <;> rfl)
@[simp] theorem ldE_agg {sz es top i off es' vf : Nat} {elems : List (List PV)} {ro : Bool} : ldE (some true) (some sz) es top i off (some (.arr es' elems vf ro)) = if es' = es ∧ vf ≤ top ∧ i < top ∧ top ≤ elems.length then
        (match elems[i]? with
        | some e => if off + sz ≤ e.length then some (.pure (.agg ((e.drop off).take sz))) else none
        | none => none)
      else none := .trans rfl rfl
@[simp] theorem ldE_one {sz es top i off es' vf : Nat} {elems : List (List PV)} {ro : Bool} : ldE (some false) (some sz) es top i off (some (.arr es' elems vf ro)) = if es' = es ∧ vf ≤ top ∧ i < top ∧ top ≤ elems.length then
        (match elems[i]? with
        | some e => (match e[off]? with | some p => some (.pure p) | none => none)
        | none => none)
      else none := by
  simp only [ldE]
  split <;> simp
def band (k : IntKind) (a b : Int) : Int := k.wrap (BitVec.ofInt k.bits a &&& BitVec.ofInt k.bits b).toNat
def bor (k : IntKind) (a b : Int) : Int := k.wrap (BitVec.ofInt k.bits a ||| BitVec.ofInt k.bits b).toNat
def bxor (k : IntKind) (a b : Int) : Int := k.wrap (BitVec.ofInt k.bits a ^^^ BitVec.ofInt k.bits b).toNat
@[simp] theorem isNilC_tmp {t : Nat} : isNilC (.tmp t) = false := .trans rfl rfl
@[simp] theorem isNilC_int {k : IntKind} {n : Int} : isNilC (.const (.int k n)) = false := .trans rfl rfl
@[simp] theorem isNilC_bool {b : Bool} : isNilC (.const (.bool b)) = false := .trans rfl rfl
@[simp] theorem isNilC_str {b : ByteArray} : isNilC (.const (.string b)) = false := .trans rfl rfl
@[simp] theorem isNilC_agg {a : Array Value} : isNilC (.const (.agg a)) = false := .trans rfl rfl
@[simp] theorem isNilC_nil : isNilC (.const (.slice none 0 0)) = true := .trans rfl rfl
@[simp] theorem isNilC_func {f : Nat} : isNilC (.func f) = false := .trans rfl rfl
theorem gop_binOp0 {op : BinOp} {t d : TypeId} {x y : Operand} : gop K fn ⟨dst, .binOp op t x y d, ty, pos, af, gu⟩ s H = rp H (gbinN K op t s x y) := .trans rfl rfl
@[simp] theorem gop_binOp {op : BinOp} {t d : TypeId} {x y : Operand} : gop K fn ⟨dst, .binOp op t x y d, ty, pos, af, gu⟩ s H = rp H (if isNilC y = true then gnilEq K op t (ev s x) else gbin K op t (ev s x) (ev s y)) := by
  rw [gop_binOp0]; rfl
section
variable {t : TypeId} {k : IntKind} {a b : Int}
@[simp] theorem gbin_add : gbin K .add t (.pure (.int k a)) (.pure (.int k b)) = some (.int k (k.wrap (a + b))) := by simp [gbin, gint]
@[simp] theorem gbin_sub : gbin K .sub t (.pure (.int k a)) (.pure (.int k b)) = some (.int k (k.wrap (a - b))) := by simp [gbin, gint]
@[simp] theorem gbin_mul : gbin K .mul t (.pure (.int k a)) (.pure (.int k b)) = some (.int k (k.wrap (a * b))) := by simp [gbin, gint]
@[simp] theorem gbin_quo : gbin K .quo t (.pure (.int k a)) (.pure (.int k b)) = if b = 0 then none else some (.int k (k.wrap (a.tdiv b))) := by simp [gbin, gint]
@[simp] theorem gbin_rem : gbin K .rem t (.pure (.int k a)) (.pure (.int k b)) = if b = 0 then none else some (.int k (a.tmod b)) := by simp [gbin, gint]
@[simp] theorem gbin_and : gbin K .and t (.pure (.int k a)) (.pure (.int k b)) = some (.int k (band k a b)) := by simp [gbin, gint, band]
@[simp] theorem gbin_or : gbin K .or t (.pure (.int k a)) (.pure (.int k b)) = some (.int k (bor k a b)) := by simp [gbin, gint, bor]
@[simp] theorem gbin_xor : gbin K .xor t (.pure (.int k a)) (.pure (.int k b)) = some (.int k (bxor k a b)) := by simp [gbin, gint, bxor]
@[simp] theorem gbin_eql : gbin K .eql t (.pure (.int k a)) (.pure (.int k b)) = some (.bool (a == b)) := by simp [gbin, gint]
@[simp] theorem gbin_neq : gbin K .neq t (.pure (.int k a)) (.pure (.int k b)) = some (.bool (a != b)) := by simp [gbin, gint]
@[simp] theorem gbin_lss : gbin K .lss t (.pure (.int k a)) (.pure (.int k b)) = some (.bool (decide (a < b))) := by simp [gbin, gint]
@[simp] theorem gbin_leq : gbin K .leq t (.pure (.int k a)) (.pure (.int k b)) = some (.bool (decide (a ≤ b))) := by simp [gbin, gint]
@[simp] theorem gbin_gtr : gbin K .gtr t (.pure (.int k a)) (.pure (.int k b)) = some (.bool (decide (b < a))) := by simp [gbin, gint]
@[simp] theorem gbin_geq : gbin K .geq t (.pure (.int k a)) (.pure (.int k b)) = some (.bool (decide (b ≤ a))) := by simp [gbin, gint]
@[simp] theorem gbin_shl {k' : IntKind} : gbin K .shl t (.pure (.int k a)) (.pure (.int k' b)) = if b < 0 then none else some (.int k (k.wrap (a * 2 ^ (min b.toNat k.bits)))) := by simp [gbin, gshift]
@[simp] theorem gbin_shr {k' : IntKind} : gbin K .shr t (.pure (.int k a)) (.pure (.int k' b)) = if b < 0 then none else some (.int k (a.fdiv (2 ^ (min b.toNat k.bits)))) := by simp [gbin, gshift]
end
@[simp] theorem gbin_str {op : BinOp} {t : TypeId} {a b : List UInt8} : gbin K op t (.pure (.str a)) (.pure (.str b)) = gstr op a b := .trans rfl rfl
@[simp] theorem gbin_beql {t : TypeId} {a b : Bool} : gbin K .eql t (.pure (.bool a)) (.pure (.bool b)) = (match K.P.underlying t with | some .bool => some (.bool (a == b)) | _ => none) := by
  simp only [gbin]; cases K.P.underlying t with
  | none => rfl
  | some x => cases x <;> rfl
@[simp] theorem gbin_bneq {t : TypeId} {a b : Bool} : gbin K .neq t (.pure (.bool a)) (.pure (.bool b)) = (match K.P.underlying t with | some .bool => some (.bool (!(a == b))) | _ => none) := by
  simp only [gbin]; cases K.P.underlying t with
  | none => rfl
  | some x => cases x <;> rfl
def eqA (neg : Bool) (ks : Option (List SK)) (a b : List PV) : Option PV := match ks with | some ks => (match eqRow ks a b with | some q => some (.bool (if neg then !q else q)) | none => none) | none => none
@[simp] theorem gbin_aeql {t : TypeId} {a b : List PV} : gbin K .eql t (.pure (.agg a)) (.pure (.agg b)) = eqA false (K.eqs t) a b := by
  simp only [gbin, eqA]; cases K.eqs t with
  | none => rfl
  | some ks => simp only; cases eqRow ks a b <;> rfl
@[simp] theorem gbin_aneq {t : TypeId} {a b : List PV} : gbin K .neq t (.pure (.agg a)) (.pure (.agg b)) = eqA true (K.eqs t) a b := by
  simp only [gbin, eqA]; cases K.eqs t with
  | none => rfl
  | some ks => simp only; cases eqRow ks a b <;> rfl
@[simp] theorem eqA_some {neg : Bool} {ks : List SK} {a b : List PV} : eqA neg (some ks) a b = (eqRow ks a b).map (fun q => .bool (if neg then !q else q)) := by
  simp only [eqA]; cases eqRow ks a b <;> rfl
@[simp] theorem eqRow_nil : eqRow [] [] [] = some true := .trans rfl rfl
@[simp] theorem eqRow_int {k : IntKind} {ks : List SK} {x y : Int} {a b : List PV} : eqRow (.int k :: ks) (.int k x :: a) (.int k y :: b) = (eqRow ks a b).map (x == y && ·) := by
  simp only [eqRow, and_self, if_true]; cases eqRow ks a b <;> rfl
@[simp] theorem eqRow_bool {ks : List SK} {x y : Bool} {a b : List PV} : eqRow (.bool :: ks) (.bool x :: a) (.bool y :: b) = (eqRow ks a b).map (x == y && ·) := by
  simp only [eqRow]; cases eqRow ks a b <;> rfl
@[simp] theorem eqRow_str {ks : List SK} {x y : List UInt8} {a b : List PV} : eqRow (.str :: ks) (.str x :: a) (.str y :: b) = (eqRow ks a b).map (x == y && ·) := by
  simp only [eqRow]; cases eqRow ks a b <;> rfl
def unV (op : UnOp) (x : GV) : Option GV := match op, x with
  | .not, .pure (.bool b) => some (.pure (.bool (!b)))
  | .neg, .pure (.int k n) => some (.pure (.int k (k.wrap (-n))))
  | _, _ => none
@[simp] theorem unV_not {b : Bool} : unV .not (.pure (.bool b)) = some (.pure (.bool (!b))) := .trans rfl rfl
@[simp] theorem unV_neg {k : IntKind} {n : Int} : unV .neg (.pure (.int k n)) = some (.pure (.int k (k.wrap (-n)))) := .trans rfl rfl
@[simp] theorem gop_unOp {op : UnOp} {t : TypeId} {x : Operand} : gop K fn ⟨dst, .unOp op t x, ty, pos, af, gu⟩ s H = rv H (unV op (ev s x)) := by
  simp only [gop]; unfold unV; generalize ev s x = g; cases op <;> cases g <;> try rfl
  all_goals (rename_i p; cases p <;> rfl)
def cvV (a b : Option TypeDesc) (x : GV) : Option GV := match a, b, x with
  | some _, some (.int k), .pure (.int _ n) => some (.pure (.int k (k.wrap n)))
  | some _, some .string, .pure (.str l) => some (.pure (.str l))
  | _, _, _ => none
@[simp] theorem cvV_int {d : TypeDesc} {k k' : IntKind} {n : Int} : cvV (some d) (some (.int k)) (.pure (.int k' n)) = some (.pure (.int k (k.wrap n))) := .trans rfl rfl
@[simp] theorem cvV_str {d : TypeDesc} {l : List UInt8} : cvV (some d) (some .string) (.pure (.str l)) = some (.pure (.str l)) := .trans rfl rfl
@[simp] theorem gop_convert {a b : TypeId} {x : Operand} : gop K fn ⟨dst, .convert a b x, ty, pos, af, gu⟩ s H = rv H (cvV (K.P.underlying a) (K.P.underlying b) (ev s x)) := by
  simp only [gop]; unfold cvV; generalize ev s x = g; generalize K.P.underlying a = x1; generalize K.P.underlying b = x2
  rcases x1 with _ | d1 <;> rcases x2 with _ | d2 <;> try rfl
  cases d2 <;> cases g <;> try rfl
  all_goals (rename_i p; cases p <;> rfl)
def ncV (x : GV) : Option GV := match x with
  | .bptr nm off => some (.bptr nm off)
  | .eptr nm es top i off => some (.eptr nm es top i off)
  | .pptr cs => some (.pptr cs)
  | .lptr cs => some (.lptr cs)
  | .func f first cap => some (.func f first cap)
  | .pure (.fn f) => some (.pure (.fn f))
  | .yield nm => some (.yield nm)
  | _ => none
@[simp] theorem ncV_bptr {nm : Nm} {o : Nat} : ncV (.bptr nm o) = some (.bptr nm o) := .trans rfl rfl
@[simp] theorem ncV_eptr {nm : Nm} {es top i o : Nat} : ncV (.eptr nm es top i o) = some (.eptr nm es top i o) := .trans rfl rfl
@[simp] theorem ncV_pptr {cs : List PV} : ncV (.pptr cs) = some (.pptr cs) := .trans rfl rfl
@[simp] theorem ncV_lptr {cs : List GV} : ncV (.lptr cs) = some (.lptr cs) := .trans rfl rfl
@[simp] theorem ncV_func {f : Nat} {a c : List GV} : ncV (.func f a c) = some (.func f a c) := .trans rfl rfl
@[simp] theorem ncV_fn {f : Nat} : ncV (.pure (.fn f)) = some (.pure (.fn f)) := .trans rfl rfl
@[simp] theorem ncV_yield {nm : Nm} : ncV (.yield nm) = some (.yield nm) := .trans rfl rfl
@[simp] theorem gop_nilCheck {x : Operand} : gop K fn ⟨dst, .nilCheck x, ty, pos, af, gu⟩ s H = rv H (ncV (ev s x)) := by
  simp only [gop]; unfold ncV; generalize ev s x = g; cases g <;> try rfl
  all_goals (rename_i p; cases p <;> rfl)
@[simp] theorem gmoved_bptr {q : Nat} {nm : Nm} {o : Nat} : gmoved q (.bptr nm o) = some (.bptr nm (o + q)) := .trans rfl rfl
@[simp] theorem gmoved_eptr {q : Nat} {nm : Nm} {es top i o : Nat} : gmoved q (.eptr nm es top i o) = some (.eptr nm es top i (o + q)) := .trans rfl rfl
@[simp] theorem gmoved_pptr {q : Nat} {cs : List PV} : gmoved q (.pptr cs) = if q ≤ cs.length then some (.pptr (cs.drop q)) else none := .trans rfl rfl
@[simp] theorem gmoved_lptr {q : Nat} {cs : List GV} : gmoved q (.lptr cs) = if q ≤ cs.length then some (.lptr (cs.drop q)) else none := .trans rfl rfl
@[simp] theorem gmoved_rptr {q : Nat} {nm : Nm} {es i j o : Nat} : gmoved q (.rptr nm es i j o) = some (.rptr nm es i j (o + q)) := .trans rfl rfl
def faV (f : Option (Nat × Option Nat)) (x : GV) : Option GV := match f with | some (off, some size) => if size = 0 then none else gmoved off x | _ => none
@[simp] theorem faV_some {off size : Nat} {x : GV} : faV (some (off, some size)) x = if size = 0 then none else gmoved off x := .trans rfl rfl
/-- A field: offset, size. -/
def tfs (P : Program) (t : TypeId) (f : Nat) : Option (Nat × Option Nat) := (tfield P t f).map fun x => (x.1, tsize P x.2)
/-- A field: offset, is it made of cells, size. -/
def tfa (P : Program) (t : TypeId) (f : Nat) : Option (Nat × Option Bool × Option Nat) := (tfield P t f).map fun x => (x.1, tagg P x.2, tsize P x.2)
@[simp] theorem gop_fieldAddr {t : TypeId} {x : Operand} {f : Nat} : gop K fn ⟨dst, .fieldAddr t x f, ty, pos, af, gu⟩ s H = rv H (faV (tfs K.P t f) (ev s x)) := by
  simp only [gop, faV, tfs]
  cases tfield K.P t f with
  | none => rfl
  | some p =>
    obtain ⟨off, ft⟩ := p
    simp only [Option.map_some]
    cases tsize K.P ft with
    | none => rfl
    | some size =>
      simp only
      split
      · rfl
      · cases gmoved off (ev s x) <;> rfl
def fdV (f : Option (Nat × Option Bool × Option Nat)) (x : GV) : Option GV := match f, x with
  | some (off, some ag, some size), .agg cs => if off + size ≤ cs.length then (if ag then some (mkAgg ((cs.drop off).take size)) else cs[off]?) else none
  | some (off, some ag, some size), .pure (.agg cs) => if off + size ≤ cs.length then (if ag then some (.pure (.agg ((cs.drop off).take size))) else (match cs[off]? with | some v => some (.pure v) | none => none)) else none
  | _, _ => none
@[simp] theorem fdV_agg {off size : Nat} {cs : List GV} : fdV (some (off, some true, some size)) (.agg cs) = if off + size ≤ cs.length then some (mkAgg ((cs.drop off).take size)) else none := by simp [fdV]
@[simp] theorem fdV_one {off size : Nat} {cs : List GV} : fdV (some (off, some false, some size)) (.agg cs) = if off + size ≤ cs.length then cs[off]? else none := by simp [fdV]
@[simp] theorem fdV_pagg {off size : Nat} {cs : List PV} : fdV (some (off, some true, some size)) (.pure (.agg cs)) = if off + size ≤ cs.length then some (.pure (.agg ((cs.drop off).take size))) else none := by simp [fdV]
@[simp] theorem fdV_pone {off size : Nat} {cs : List PV} : fdV (some (off, some false, some size)) (.pure (.agg cs)) = if off + size ≤ cs.length then (match cs[off]? with | some v => some (.pure v) | none => none) else none := by simp [fdV]
@[simp] theorem gop_field {t : TypeId} {x : Operand} {f : Nat} : gop K fn ⟨dst, .field t x f, ty, pos, af, gu⟩ s H = rv H (fdV (tfa K.P t f) (ev s x)) := by
  simp only [gop, tfa]
  cases tfield K.P t f with
  | none => rfl
  | some p =>
    obtain ⟨off, ft⟩ := p
    simp only [Option.map_some]
    unfold fdV
    cases tagg K.P ft with
    | none => rfl
    | some ag =>
      cases tsize K.P ft with
      | none => rfl
      | some size =>
        cases ev s x with
        | pure p =>
          cases p with
          | agg cs =>
            simp only
            split
            · cases ag
              · simp only [Bool.false_eq_true, if_false]; cases cs[off]? <;> rfl
              · rfl
            · rfl
          | _ => rfl
        | agg cs =>
          simp only
          split
          · cases ag
            · simp only [Bool.false_eq_true, if_false]; cases cs[off]? <;> rfl
            · rfl
          · rfl
        | _ => rfl
/-- An array's type: how many, size of an element, is it made of cells. -/
def tarrS (P : Program) (t : TypeId) : Option (Nat × Option Nat × Option Bool) := (tarr P t).map fun x => (x.1, tsize P x.2, tagg P x.2)
/-- A slice's type: the size of an element. -/
def telemS (P : Program) (t : TypeId) : Option (Option Nat) := (telem P t).map fun e => tsize P e
def iaS (es : Option (Option Nat)) (x : GV) (i : Int) : Option GV := match es with
  | some (some size) => (match x with
          | .hdr nm es top lo len => if es = size ∧ i < len then some (.eptr nm es top (lo + i.toNat) 0) else none
          | .pure (.slice l) => (match l[i.toNat]? with | some cs => if cs.length = size then some (.pptr cs) else none | none => none)
          | .lits l => (match l[i.toNat]? with | some cs => if cs.length = size then some (.lptr cs) else none | none => none)
          | .rhdr nm es q len => if es = size ∧ i < len then some (.rptr nm es q i.toNat 0) else none
          | _ => none)
  | _ => none
def iaV (ar : Option (Nat × Option Nat × Option Bool)) (es : Option (Option Nat)) (x i : GV) : Option GV := match i with
  | .pure (.int _ i) => if i < 0 then none else
    (match ar with
    | some (n, some size, _) => if (n : Int) ≤ i then none else gmoved (i.toNat * size) x
    | some (_, none, _) => none
    | none => iaS es x i)
  | _ => none
@[simp] theorem iaV_arr {n size : Nat} {ag : Option Bool} {es : Option (Option Nat)} {x : GV} {k : IntKind} {i : Int} : iaV (some (n, some size, ag)) es x (.pure (.int k i)) = if i < 0 then none else if (n : Int) ≤ i then none else gmoved (i.toNat * size) x := .trans rfl rfl
@[simp] theorem iaV_slice {es : Option (Option Nat)} {x : GV} {k : IntKind} {i : Int} : iaV none es x (.pure (.int k i)) = if i < 0 then none else iaS es x i := .trans rfl rfl
@[simp] theorem iaS_hdr {size : Nat} {nm : Nm} {es top lo len : Nat} {i : Int} : iaS (some (some size)) (.hdr nm es top lo len) i = if es = size ∧ i < len then some (.eptr nm es top (lo + i.toNat) 0) else none := .trans rfl rfl
@[simp] theorem iaS_pure {size : Nat} {l : List (List PV)} {i : Int} : iaS (some (some size)) (.pure (.slice l)) i = (match l[i.toNat]? with | some cs => if cs.length = size then some (.pptr cs) else none | none => none) := .trans rfl rfl
@[simp] theorem iaS_lits {size : Nat} {l : List (List GV)} {i : Int} : iaS (some (some size)) (.lits l) i = (match l[i.toNat]? with | some cs => if cs.length = size then some (.lptr cs) else none | none => none) := .trans rfl rfl
@[simp] theorem iaS_rhdr {size : Nat} {nm : Nm} {es q len : Nat} {i : Int} : iaS (some (some size)) (.rhdr nm es q len) i = if es = size ∧ i < (len : Int) then some (.rptr nm es q i.toNat 0) else none := .trans rfl rfl
@[simp] theorem gop_indexAddr {t : TypeId} {x i : Operand} : gop K fn ⟨dst, .indexAddr t x i, ty, pos, af, gu⟩ s H = rv H (iaV (tarrS K.P t) (telemS K.P t) (ev s x) (ev s i)) := by
  have h : gindexAddr K t (ev s x) (ev s i) = iaV (tarrS K.P t) (telemS K.P t) (ev s x) (ev s i) := by
    unfold gindexAddr iaV tarrS telemS
    generalize ev s i = g
    generalize ev s x = gx
    cases g with
    | pure p =>
      cases p with
      | int k n =>
        simp only
        split
        · rfl
        · cases tarr K.P t with
          | some p =>
            obtain ⟨n, e⟩ := p
            simp only [Option.map_some]
            cases tsize K.P e <;> rfl
          | none =>
            simp only [Option.map_none]
            cases telem K.P t with
            | none => rfl
            | some e =>
              simp only [Option.map_some]
              cases tsize K.P e <;> rfl
      | _ => rfl
    | _ => rfl
  simp only [gop, h]
  cases iaV (tarrS K.P t) (telemS K.P t) (ev s x) (ev s i) <;> rfl
def ixV (ar : Option (Nat × Option Nat × Option Bool)) (un : Option TypeDesc) (x i : GV) : Option GV := match i with
  | .pure (.int _ i) => if i < 0 then none else
    (match ar with
    | some (n, some size, some ag) => if (n : Int) ≤ i then none else
        (match x with
        | .agg cs => if (i.toNat * size) + size ≤ cs.length then (if ag then some (mkAgg ((cs.drop (i.toNat * size)).take size)) else cs[i.toNat * size]?) else none
        | .pure (.agg cs) => if (i.toNat * size) + size ≤ cs.length then (if ag then some (.pure (.agg ((cs.drop (i.toNat * size)).take size))) else (match cs[i.toNat * size]? with | some p => some (.pure p) | none => none)) else none
        | _ => none)
    | some _ => none
    | none => (match x, un with
      | .pure (.str l), some .string => (match l[i.toNat]? with | some b => some (.pure (.int .u8 b.toNat)) | none => none)
      | _, _ => none))
  | _ => none
@[simp] theorem ixV_one {n size : Nat} {un : Option TypeDesc} {cs : List PV} {k : IntKind} {i : Int} : ixV (some (n, some size, some false)) un (.pure (.agg cs)) (.pure (.int k i)) =
    if i < 0 then none else if (n : Int) ≤ i then none else if (i.toNat * size) + size ≤ cs.length then (match cs[i.toNat * size]? with | some p => some (.pure p) | none => none) else none := by simp [ixV]
@[simp] theorem ixV_agg {n size : Nat} {un : Option TypeDesc} {cs : List PV} {k : IntKind} {i : Int} : ixV (some (n, some size, some true)) un (.pure (.agg cs)) (.pure (.int k i)) =
    if i < 0 then none else if (n : Int) ≤ i then none else if (i.toNat * size) + size ≤ cs.length then some (.pure (.agg ((cs.drop (i.toNat * size)).take size))) else none := by simp [ixV]
@[simp] theorem ixV_gone {n size : Nat} {un : Option TypeDesc} {cs : List GV} {k : IntKind} {i : Int} : ixV (some (n, some size, some false)) un (.agg cs) (.pure (.int k i)) =
    if i < 0 then none else if (n : Int) ≤ i then none else if (i.toNat * size) + size ≤ cs.length then cs[i.toNat * size]? else none := by simp [ixV]
@[simp] theorem ixV_gagg {n size : Nat} {un : Option TypeDesc} {cs : List GV} {k : IntKind} {i : Int} : ixV (some (n, some size, some true)) un (.agg cs) (.pure (.int k i)) =
    if i < 0 then none else if (n : Int) ≤ i then none else if (i.toNat * size) + size ≤ cs.length then some (mkAgg ((cs.drop (i.toNat * size)).take size)) else none := by simp [ixV]
@[simp] theorem ixV_str {l : List UInt8} {k : IntKind} {i : Int} : ixV none (some .string) (.pure (.str l)) (.pure (.int k i)) = if i < 0 then none else (match l[i.toNat]? with | some b => some (.pure (.int .u8 b.toNat)) | none => none) := .trans rfl rfl
@[simp] theorem gop_index {t : TypeId} {x i : Operand} : gop K fn ⟨dst, .index t x i, ty, pos, af, gu⟩ s H = rv H (ixV (tarrS K.P t) (K.P.underlying t) (ev s x) (ev s i)) := by
  have h : gindex K (ev s x) (ev s i) t = ixV (tarrS K.P t) (K.P.underlying t) (ev s x) (ev s i) := by
    unfold gindex ixV tarrS
    generalize ev s i = g
    generalize ev s x = gx
    cases g with
    | pure p =>
      cases p with
      | int k n =>
        simp only
        split
        · rfl
        · cases tarr K.P t with
          | some p =>
            obtain ⟨n, e⟩ := p
            simp only [Option.map_some]
            cases tagg K.P e with
            | none => cases tsize K.P e <;> rfl
            | some ag =>
              cases tsize K.P e with
              | none => rfl
              | some size => rfl
          | none => rfl
      | _ => rfl
    | _ => rfl
  simp only [gop, h]
  cases ixV (tarrS K.P t) (K.P.underlying t) (ev s x) (ev s i) <;> rfl
def bdV (ar : Option (Option Nat)) (pl : Option (List (Nat × Nat))) (z : Option (List GV)) (ps : List (Nat × GV)) : Option GV :=
  match z with
  | some zs =>
    (match (match ar with
      | some (some size) => gfill (fun i => some (i * size, size)) zs ps
      | some none => none
      | none => (match pl with | some l => gfill (fun i => l[i]?) zs ps | none => none)) with
    | some cs => some (mkAgg cs)
    | none => none)
  | none => none
def bdM (x : Option (List GV)) : Option GV := match x with | some cs => some (mkAgg cs) | none => none
@[simp] theorem bdM_some {cs : List GV} : bdM (some cs) = some (mkAgg cs) := .trans rfl rfl
@[simp] theorem bdV_arr {size : Nat} {pl : Option (List (Nat × Nat))} {zs : List GV} {ps : List (Nat × GV)} : bdV (some (some size)) pl (some zs) ps = bdM (gfill (fun i => some (i * size, size)) zs ps) := .trans rfl rfl
@[simp] theorem bdV_struct {l : List (Nat × Nat)} {zs : List GV} {ps : List (Nat × GV)} : bdV none (some l) (some zs) ps = bdM (gfill (fun i => l[i]?) zs ps) := .trans rfl rfl
@[simp] theorem gop_build {t : TypeId} {ps : Array (Nat × Operand)} : gop K fn ⟨dst, .build t ps, ty, pos, af, gu⟩ s H = rv H (bdV ((tarrS K.P t).map (·.2.1)) (tplaces K.P t) (cellsO' (tzero K.P t)) (ps.toList.map (evp s))) := by
  simp only [gop, bdV, tarrS]
  cases tzero K.P t with
  | none => rfl
  | some z =>
    simp only [cellsO'_some]
    cases cellsO z with
    | none => rfl
    | some zs =>
      simp only
      cases tarr K.P t with
      | some p =>
        obtain ⟨n, e⟩ := p
        simp only [Option.map_some]
        cases tsize K.P e with
        | none => rfl
        | some size =>
          simp only
          cases gfill (fun i => some (i * size, size)) zs (ps.toList.map (evp s)) <;> rfl
      | none =>
        simp only [Option.map_none]
        cases tplaces K.P t with
        | none => rfl
        | some l =>
          simp only
          cases gfill (fun i => l[i]?) zs (ps.toList.map (evp s)) <;> rfl
@[simp] theorem evp_def {x : Nat × Operand} : evp s x = (x.1, ev s x.2) := .trans rfl rfl
@[simp] theorem gfill_nil {place : Nat → Option (Nat × Nat)} {cells : List GV} : gfill place cells [] = some cells := .trans rfl rfl
def gfillC (place : Nat → Option (Nat × Nat)) (cells : List GV) (rest : List (Nat × GV)) (p : Option (Nat × Nat)) (vs : Option (List GV)) : Option (List GV) :=
  match p, vs with
  | some (off, size), some vs => if vs.length ≠ size ∨ off + vs.length > cells.length then none else gfill place (splice cells off vs) rest
  | _, _ => none
@[congr] theorem gfillC_cg {place : Nat → Option (Nat × Nat)} {cells : List GV} {rest : List (Nat × GV)} {p p' : Option (Nat × Nat)} {vs vs' : Option (List GV)} (h : ∀ _ : Unit, p = p') (h' : ∀ _ : Unit, vs = vs') : gfillC place cells rest p vs = gfillC place cells rest p' vs' := by rw [h (), h' ()]
@[simp] theorem gfillC_some {place : Nat → Option (Nat × Nat)} {cells : List GV} {rest : List (Nat × GV)} {off size : Nat} {vs : List GV} : gfillC place cells rest (some (off, size)) (some vs) =
    if vs.length ≠ size ∨ off + vs.length > cells.length then none else gfill place (splice cells off vs) rest := .trans rfl rfl
@[simp] theorem gfill_cons {place : Nat → Option (Nat × Nat)} {cells : List GV} {i : Nat} {v : GV} {rest : List (Nat × GV)} : gfill place cells ((i, v) :: rest) = gfillC place cells rest (place i) (cellsO v) := by
  simp only [gfill]
  cases place i with
  | none => rfl
  | some p => obtain ⟨off, size⟩ := p; cases cellsO v <;> rfl
@[simp] theorem splice_def {α : Type} {l xs : List α} {off : Nat} : splice l off xs = l.take off ++ xs ++ l.drop (off + xs.length) := .trans rfl rfl
def stBox (size off : Nat) (cells' : List GV × Heap) (nm : Nm) : Option Heap := match cells'.2.get nm with
  | some (.box cs) => if off + size ≤ cs.length then some (cells'.2.set nm (.box (splice cs off cells'.1))) else none
  | _ => none
def stB (size off : Nat) (cs' : List GV) (H : Heap) (nm : Nm) (b : Option Blk) : Option Heap := match b with
  | some (.box cs) => if off + size ≤ cs.length then some (H.set nm (.box (splice cs off cs'))) else none
  | _ => none
@[congr] theorem stB_cg {size off : Nat} {cs' : List GV} {nm : Nm} {b b' : Option Blk} (h : ∀ _ : Unit, b = b') : stB size off cs' H nm b = stB size off cs' H nm b' := by rw [h ()]
@[simp] theorem stB_box {size off : Nat} {cs' cs : List GV} {nm : Nm} : stB size off cs' H nm (some (.box cs)) = if off + size ≤ cs.length then some (H.set nm (.box (splice cs off cs'))) else none := .trans rfl rfl
@[simp] theorem stBox_def {size off : Nat} {cs' : List GV} {nm : Nm} : stBox size off (cs', H) nm = stB size off cs' H nm (H.get nm) := by
  unfold stBox stB; rfl
def stV (sz : Option Nat) (cells : Option (List GV)) (k : Nat → List GV → Option Heap) : Option Heap := match sz, cells with | some size, some cells => if cells.length ≠ size then none else k size cells | _, _ => none
@[congr] theorem stV_cg {sz sz' : Option Nat} {cells cells' : Option (List GV)} {k : Nat → List GV → Option Heap} (h : ∀ _ : Unit, sz = sz') (h' : ∀ _ : Unit, cells = cells') : stV sz cells k = stV sz' cells' k := by rw [h (), h' ()]
@[simp] theorem stV_some {size : Nat} {cells : List GV} {k : Nat → List GV → Option Heap} : stV (some size) (some cells) k = if cells.length ≠ size then none else k size cells := .trans rfl rfl
@[simp] theorem gstore_bptr {P : Program} {t : TypeId} {nm : Nm} {off : Nat} {v : GV} : gstore P t H (.bptr nm off) v = stV (tsize P t) (cellsO v) fun size cells => stBox size off (lowerCells H nm.1 cells) nm := by
  unfold gstore stV
  cases tsize P t with
  | none => rfl
  | some size =>
    cases cellsO v with
    | none => rfl
    | some cells => rfl
def stArr (size es top i off : Nat) (ps : List PV × Heap) (nm : Nm) : Option Heap := match ps.2.get nm with
  | some (.arr es' elems _ ro) => if es' = es ∧ ro = false ∧ top = elems.length ∧ i < top then
          (match elems[i]? with
          | some e => if off + size ≤ e.length then some (ps.2.set nm (.arr es' (elems.set i (splice e off ps.1)) elems.length false)) else none
          | none => none)
        else none
  | _ => none
@[simp] theorem gstore_eptr {P : Program} {t : TypeId} {nm : Nm} {es top i off : Nat} {v : GV} : gstore P t H (.eptr nm es top i off) v = stV (tsize P t) (cellsO v) fun size cells => stArr size es top i off (pureCells H cells) nm := by
  unfold gstore stV
  cases tsize P t with
  | none => rfl
  | some size =>
    cases cellsO v with
    | none => rfl
    | some cells => rfl
def stA (size es top i off : Nat) (ps : List PV) (H : Heap) (nm : Nm) (b : Option Blk) : Option Heap := match b with
  | some (.arr es' elems _ ro) => if es' = es ∧ ro = false ∧ top = elems.length ∧ i < top then
          (match elems[i]? with
          | some e => if off + size ≤ e.length then some (H.set nm (.arr es' (elems.set i (splice e off ps)) elems.length false)) else none
          | none => none)
        else none
  | _ => none
@[congr] theorem stA_cg {size es top i off : Nat} {ps : List PV} {nm : Nm} {b b' : Option Blk} (h : ∀ _ : Unit, b = b') : stA size es top i off ps H nm b = stA size es top i off ps H nm b' := by rw [h ()]
@[simp] theorem stA_arr {size es top i off es' vf : Nat} {ps : List PV} {nm : Nm} {elems : List (List PV)} {ro : Bool} : stA size es top i off ps H nm (some (.arr es' elems vf ro)) = if es' = es ∧ ro = false ∧ top = elems.length ∧ i < top then
          (match elems[i]? with
          | some e => if off + size ≤ e.length then some (H.set nm (.arr es' (elems.set i (splice e off ps)) elems.length false)) else none
          | none => none)
        else none := .trans rfl rfl
@[simp] theorem stArr_def {size es top i off : Nat} {ps : List PV} {nm : Nm} : stArr size es top i off (ps, H) nm = stA size es top i off ps H nm (H.get nm) := by
  unfold stArr stA; rfl
@[simp] theorem lowerCells_nil {l0 : Nat} : lowerCells H l0 [] = ([], H) := .trans rfl rfl
def lcC (l0 : Nat) (r : List GV) (x : GV × Heap) : List GV × Heap := (x.1 :: (lowerCells x.2 l0 r).1, (lowerCells x.2 l0 r).2)
@[congr] theorem lcC_cg {l0 : Nat} {r : List GV} {x y : GV × Heap} (h : ∀ _ : Unit, x = y) : lcC l0 r x = lcC l0 r y := by rw [h ()]
@[simp] theorem lcC_pair {l0 : Nat} {r : List GV} {g : GV} : lcC l0 r (g, H) = (g :: (lowerCells H l0 r).1, (lowerCells H l0 r).2) := .trans rfl rfl
@[simp] theorem lowerCells_cons {l0 : Nat} {g : GV} {r : List GV} : lowerCells H l0 (g :: r) = lcC l0 r (lowerCell H l0 g) := .trans rfl rfl
@[simp] theorem lowerCells_pures {l0 : Nat} : ∀ {ps : List PV}, lowerCells H l0 (ps.map .pure) = (ps.map .pure, H)
  | [] => rfl
  | p :: ps => by rw [List.map_cons, lowerCells_cons]; show lcC l0 _ (.pure p, H) = _; rw [lcC_pair, lowerCells_pures]
@[simp] theorem lowerCell_pure {l0 : Nat} {p : PV} : lowerCell H l0 (.pure p) = (.pure p, H) := .trans rfl rfl
@[simp] theorem lowerCell_nils {l0 : Nat} : lowerCell H l0 .nils = (.nils, H) := .trans rfl rfl
@[simp] theorem lowerCell_bptr {l0 : Nat} {nm : Nm} {o : Nat} : lowerCell H l0 (.bptr nm o) = (if nm.1 ≤ l0 then .bptr nm o else gdead, H) := .trans rfl rfl
@[simp] theorem lowerCell_map {l0 : Nat} {nm : Nm} : lowerCell H l0 (.map nm) = (if nm.1 ≤ l0 then .map nm else gdead, H) := .trans rfl rfl
@[simp] theorem lowerCell_func {l0 : Nat} {f : Nat} {a c : List GV} : lowerCell H l0 (.func f a c) = (if allLe l0 a && allLe l0 c then .func f a c else gdead, H) := .trans rfl rfl
@[simp] theorem lowerCell_hdr {l0 : Nat} {nm : Nm} {es top lo len : Nat} : lowerCell H l0 (.hdr nm es top lo len) = if nm.1 ≤ l0 then (.hdr nm es top lo len, H) else (.pure (pureCell H (.hdr nm es top lo len)).1, (pureCell H (.hdr nm es top lo len)).2) := .trans rfl rfl
@[simp] theorem pureCells_nil : pureCells H [] = ([], H) := .trans rfl rfl
def pcC (r : List GV) (x : PV × Heap) : List PV × Heap := (x.1 :: (pureCells x.2 r).1, (pureCells x.2 r).2)
@[congr] theorem pcC_cg {r : List GV} {x y : PV × Heap} (h : ∀ _ : Unit, x = y) : pcC r x = pcC r y := by rw [h ()]
@[simp] theorem pcC_pair {r : List GV} {g : PV} : pcC r (g, H) = (g :: (pureCells H r).1, (pureCells H r).2) := .trans rfl rfl
@[simp] theorem pureCells_cons {g : GV} {r : List GV} : pureCells H (g :: r) = pcC r (pureCell H g) := .trans rfl rfl
@[simp] theorem pureCell_pure {p : PV} : pureCell H (.pure p) = (p, H) := .trans rfl rfl
@[simp] theorem pureCell_nils : pureCell H .nils = (.slice [], H) := .trans rfl rfl
@[simp] theorem pureCells_pures : ∀ {ps : List PV}, pureCells H (ps.map .pure) = (ps, H)
  | [] => rfl
  | p :: ps => by rw [List.map_cons, pureCells_cons, pureCell_pure, pcC_pair, pureCells_pures]
def pcHdr (es top lo len : Nat) (H : Heap) (nm : Nm) (b : Option Blk) : PV × Heap := match b with
    | some (.arr es' elems vf _) => if es' = es ∧ vf ≤ top ∧ lo + len ≤ top ∧ top ≤ elems.length then (.slice ((elems.drop lo).take len), H.set nm (.arr es' elems vf true)) else (.dead, H)
    | _ => (.dead, H)
@[congr] theorem pcHdr_cg {es top lo len : Nat} {nm : Nm} {b b' : Option Blk} (h : ∀ _ : Unit, b = b') : pcHdr es top lo len H nm b = pcHdr es top lo len H nm b' := by rw [h ()]
@[simp] theorem pcHdr_arr {es top lo len es' vf : Nat} {nm : Nm} {elems : List (List PV)} {ro : Bool} : pcHdr es top lo len H nm (some (.arr es' elems vf ro)) =
    if es' = es ∧ vf ≤ top ∧ lo + len ≤ top ∧ top ≤ elems.length then (.slice ((elems.drop lo).take len), H.set nm (.arr es' elems vf true)) else (.dead, H) := .trans rfl rfl
@[simp] theorem pureCell_hdr {nm : Nm} {es top lo len : Nat} : pureCell H (.hdr nm es top lo len) = pcHdr es top lo len H nm (H.get nm) := by
  rw [pureCell_hdr_get]; unfold pcHdr
  cases H.get nm with
  | none => rfl
  | some b => cases b <;> rfl
/-- A slice's type: its element's size, bytes, zero cells' number. -/
@[simp] theorem gop_len {x : Operand} {t : TypeId} : gop K fn ⟨dst, .call ⟨.builtin .len, #[x], #[t]⟩, ty, pos, af, gu⟩ s H = rp H ((glen K t H (ev s x)).map (.int .i64)) := by
  show (match glen K t H (ev s x) with | some n => some (GV.pure (.int .i64 n), H) | none => none) = _
  cases glen K t H (ev s x) <;> rfl
def lenD (d : Option TypeDesc) (H : Heap) (x : GV) : Option Int :=
  match d, x with
  | some (.array n _), _ => some n
  | some (.slice _), .hdr _ _ _ _ len => some len
  | some (.slice _), .rhdr _ _ _ len => some len
  | some (.slice _), .nils => some 0
  | some (.slice _), .lits l => some l.length
  | some (.slice _), .pure (.slice l) => some l.length
  | some .string, .pure (.str l) => some l.length
  | some (.map _ _), .pure .nilm => some 0
  | some (.map _ _), .map nm => (match H.get nm with | some (.map es) => some es.length | _ => none)
  | _, _ => none
@[simp] theorem glen_def {t : TypeId} {x : GV} : glen K t H x = lenD (K.P.underlying t) H x := .trans rfl rfl
@[simp] theorem lenD_hdr {e : TypeId} {nm : Nm} {es top lo len : Nat} : lenD (some (.slice e)) H (.hdr nm es top lo len) = some (len : Int) := .trans rfl rfl
@[simp] theorem lenD_rhdr {e : TypeId} {nm : Nm} {es i len : Nat} : lenD (some (.slice e)) H (.rhdr nm es i len) = some (len : Int) := .trans rfl rfl
@[simp] theorem lenD_nils {e : TypeId} : lenD (some (.slice e)) H .nils = some 0 := .trans rfl rfl
@[simp] theorem lenD_lits {e : TypeId} {l : List (List GV)} : lenD (some (.slice e)) H (.lits l) = some (l.length : Int) := .trans rfl rfl
@[simp] theorem lenD_pure {e : TypeId} {l : List (List PV)} : lenD (some (.slice e)) H (.pure (.slice l)) = some (l.length : Int) := .trans rfl rfl
@[simp] theorem lenD_str {l : List UInt8} : lenD (some .string) H (.pure (.str l)) = some (l.length : Int) := .trans rfl rfl
@[simp] theorem gop_extract {t : Operand} {i : Nat} : gop K fn ⟨dst, .extract t i, ty, pos, af, gu⟩ s H = rv H (match ev s t with | .tuple l => l[i]? | .pure (.tuple l) => (match l[i]? with | some v => some (.pure v) | none => none) | _ => none) := by
  simp only [gop]
  cases ev s t with
  | tuple l => simp only; cases l[i]? <;> rfl
  | pure p =>
    cases p with
    | tuple l => simp only; cases l[i]? <;> rfl
    | _ => rfl
  | _ => rfl
@[simp] theorem packG_one {r : GV} : packG [r] = r := .trans rfl rfl
@[simp] theorem packG_nil : packG [] = .pure (.tuple []) := .trans rfl rfl
@[simp] theorem packG_two {a b : GV} {l : List GV} : packG (a :: b :: l) = mkTuple (a :: b :: l) := .trans rfl rfl
@[simp] theorem frzVals_nil : frzVals H [] = ([], H) := .trans rfl rfl
@[simp] theorem frzVal_pure {p : PV} : frzVal H (.pure p) = (.pure p, H) := .trans rfl rfl
@[simp] theorem frzVal_bptr {nm : Nm} {o : Nat} : frzVal H (.bptr nm o) = (.bptr nm o, H) := .trans rfl rfl
@[simp] theorem frzVal_map {nm : Nm} : frzVal H (.map nm) = (.map nm, H) := .trans rfl rfl
@[simp] theorem frzVal_func {f : Nat} {a c : List GV} : frzVal H (.func f a c) = (.func f a c, H) := .trans rfl rfl
@[simp] theorem frzVal_yield {nm : Nm} : frzVal H (.yield nm) = (.yield nm, H) := .trans rfl rfl
@[simp] theorem canon_pure {p : PV} : canon (.pure p) = .pure p := .trans rfl rfl
@[simp] theorem canon_bptr {nm : Nm} {o : Nat} : canon (.bptr nm o) = .bptr nm o := .trans rfl rfl
@[simp] theorem canon_map {nm : Nm} : canon (.map nm) = .map nm := .trans rfl rfl
@[simp] theorem canon_func {f : Nat} {a c : List GV} : canon (.func f a c) = .func f a c := .trans rfl rfl
@[simp] theorem canon_yield {nm : Nm} : canon (.yield nm) = .yield nm := .trans rfl rfl
@[simp] theorem canon_nils : canon .nils = .pure (.slice []) := .trans rfl rfl
@[simp] theorem canon_hdr {nm : Nm} {es top lo len : Nat} : canon (.hdr nm es top lo len) = .hdr nm es top lo len := .trans rfl rfl
@[simp] theorem canon_agg {l : List GV} : canon (.agg l) = mkAgg (l.map canon1) := .trans rfl rfl
@[simp] theorem canon1_pure {p : PV} : canon1 (.pure p) = .pure p := .trans rfl rfl
@[simp] theorem canon1_nils : canon1 .nils = .pure (.slice []) := .trans rfl rfl
@[simp] theorem canon1_hdr {nm : Nm} {es top lo len : Nat} : canon1 (.hdr nm es top lo len) = .hdr nm es top lo len := .trans rfl rfl
@[simp] theorem canon1_bptr {nm : Nm} {o : Nat} : canon1 (.bptr nm o) = .bptr nm o := .trans rfl rfl
@[simp] theorem canon1_func {f : Nat} {a c : List GV} : canon1 (.func f a c) = .func f a c := .trans rfl rfl
@[simp] theorem canon1_map {nm : Nm} : canon1 (.map nm) = .map nm := .trans rfl rfl
@[simp] theorem canon_tuple {l : List GV} : canon (.tuple l) = mkTuple (l.map fun g => match g with | .agg l => mkAgg (l.map canon1) | g => canon1 g) := .trans rfl rfl
@[simp] theorem clean_pure {l0 : Nat} {p : PV} : clean H l0 (.pure p) = .pure p := .trans rfl rfl
@[simp] theorem clean_nils {l0 : Nat} : clean H l0 .nils = .nils := .trans rfl rfl
@[simp] theorem clean_bptr {l0 : Nat} {nm : Nm} {o : Nat} : clean H l0 (.bptr nm o) = if nm.1 ≤ l0 then .bptr nm o else gdead := .trans rfl rfl
@[simp] theorem clean_map {l0 : Nat} {nm : Nm} : clean H l0 (.map nm) = if nm.1 ≤ l0 then .map nm else gdead := .trans rfl rfl
@[simp] theorem clean_yield {l0 : Nat} {nm : Nm} : clean H l0 (.yield nm) = if nm.1 ≤ l0 then .yield nm else gdead := .trans rfl rfl
@[simp] theorem clean_eptr {l0 : Nat} {nm : Nm} {es top i o : Nat} : clean H l0 (.eptr nm es top i o) = if nm.1 ≤ l0 then .eptr nm es top i o else gdead := .trans rfl rfl
@[simp] theorem clean_hdr {l0 : Nat} {nm : Nm} {es top lo len : Nat} : clean H l0 (.hdr nm es top lo len) = if nm.1 ≤ l0 then .hdr nm es top lo len else .pure (sliceOfM H nm es top lo len) := .trans rfl rfl
def capD (f : Nat) (a : List GV) (x : Option (List GV)) : GV := match x with | some c => .func f a c | none => gdead
@[congr] theorem capD_cg {f : Nat} {a : List GV} {x y : Option (List GV)} (h : ∀ _ : Unit, x = y) : capD f a x = capD f a y := by rw [h ()]
@[simp] theorem capD_some {f : Nat} {a c : List GV} : capD f a (some c) = .func f a c := .trans rfl rfl
@[simp] theorem clean_func {l0 : Nat} {f : Nat} {a c : List GV} : clean H l0 (.func f a c) = if allLe l0 a && allLe l0 c then .func f a c else if allLe l0 a then capD f a (capsP H l0 c) else gdead := .trans rfl rfl
@[simp] theorem clean1_func {l0 : Nat} {f : Nat} {a c : List GV} : clean1 H l0 (.func f a c) = if allLe l0 a && allLe l0 c then .func f a c else gdead := .trans rfl rfl
@[simp] theorem allLe_pptr {l0 : Nat} {cs : List PV} {r : List GV} : allLe l0 (.pptr cs :: r) = allLe l0 r := .trans rfl rfl
@[simp] theorem clean_pptr {l0 : Nat} {cs : List PV} : clean H l0 (.pptr cs) = .pptr cs := .trans rfl rfl
@[simp] theorem clean_agg {l0 : Nat} {l : List GV} : clean H l0 (.agg l) = mkAgg (l.map (clean1 H l0)) := .trans rfl rfl
@[simp] theorem clean_tuple {l0 : Nat} {l : List GV} : clean H l0 (.tuple l) = mkTuple (l.map (clean2 H l0)) := .trans rfl rfl
@[simp] theorem clean2_agg {l0 : Nat} {l : List GV} : clean2 H l0 (.agg l) = mkAgg (l.map (clean1 H l0)) := .trans rfl rfl
@[simp] theorem clean2_pure {l0 : Nat} {p : PV} : clean2 H l0 (.pure p) = .pure p := .trans rfl rfl
@[simp] theorem clean2_nils {l0 : Nat} : clean2 H l0 .nils = .nils := .trans rfl rfl
@[simp] theorem clean2_hdr {l0 : Nat} {nm : Nm} {es top lo len : Nat} : clean2 H l0 (.hdr nm es top lo len) = if nm.1 ≤ l0 then .hdr nm es top lo len else .pure (sliceOfM H nm es top lo len) := .trans rfl rfl
@[simp] theorem clean1_pure {l0 : Nat} {p : PV} : clean1 H l0 (.pure p) = .pure p := .trans rfl rfl
@[simp] theorem clean1_nilsE {l0 : Nat} : clean1 H l0 .nils = .nils := .trans rfl rfl
@[simp] theorem clean1_hdr {l0 : Nat} {nm : Nm} {es top lo len : Nat} : clean1 H l0 (.hdr nm es top lo len) = if nm.1 ≤ l0 then .hdr nm es top lo len else .pure (sliceOfM H nm es top lo len) := .trans rfl rfl
@[simp] theorem clean1_bptr {l0 : Nat} {nm : Nm} {o : Nat} : clean1 H l0 (.bptr nm o) = if nm.1 ≤ l0 then .bptr nm o else gdead := .trans rfl rfl
@[simp] theorem clean1_map {l0 : Nat} {nm : Nm} : clean1 H l0 (.map nm) = if nm.1 ≤ l0 then .map nm else gdead := .trans rfl rfl
def slD (es top lo len : Nat) (b : Option Blk) : PV := match b with
  | some (.arr es' elems vf _) => if es' = es ∧ vf ≤ top ∧ lo + len ≤ top ∧ top ≤ elems.length then .slice ((elems.drop lo).take len) else .dead
  | _ => .dead
@[simp] theorem slD_arr {es top lo len es' vf : Nat} {elems : List (List PV)} {ro : Bool} : slD es top lo len (some (.arr es' elems vf ro)) = if es' = es ∧ vf ≤ top ∧ lo + len ≤ top ∧ top ≤ elems.length then .slice ((elems.drop lo).take len) else .dead := .trans rfl rfl
@[simp] theorem sliceOf_def {nm : Nm} {es top lo len : Nat} : sliceOf H nm es top lo len = slD es top lo len (H.get nm) := by
  unfold sliceOf slD
  cases H.get nm with
  | none => rfl
  | some b => cases b <;> rfl
def slM (es top lo len : Nat) (b : Option Blk) : PV := match b with
  | some (.mat _ rows n) => if es = 1 ∧ lo + len ≤ top ∧ top ≤ n then .slice (((rows.drop lo).take len).map fun r => [.slice r]) else .dead
  | b => slD es top lo len b
@[simp] theorem slM_arr {es top lo len es' vf : Nat} {elems : List (List PV)} {ro : Bool} : slM es top lo len (some (.arr es' elems vf ro)) = if es' = es ∧ vf ≤ top ∧ lo + len ≤ top ∧ top ≤ elems.length then .slice ((elems.drop lo).take len) else .dead := .trans rfl rfl
@[simp] theorem slM_mat {es top lo len es' n : Nat} {rows : List (List (List PV))} : slM es top lo len (some (.mat es' rows n)) = if es = 1 ∧ lo + len ≤ top ∧ top ≤ n then .slice (((rows.drop lo).take len).map fun r => [.slice r]) else .dead := .trans rfl rfl
@[simp] theorem sliceOfM_def {nm : Nm} {es top lo len : Nat} : sliceOfM H nm es top lo len = slM es top lo len (H.get nm) := by
  unfold sliceOfM
  rw [sliceOf_def]
  unfold slM
  cases H.get nm with
  | none => rfl
  | some b => cases b <;> rfl
@[simp] theorem allLe_nil {l0 : Nat} : allLe l0 [] = true := .trans rfl rfl
@[simp] theorem allLe_pure {l0 : Nat} {p : PV} {r : List GV} : allLe l0 (.pure p :: r) = allLe l0 r := .trans rfl rfl
@[simp] theorem allLe_nils {l0 : Nat} {r : List GV} : allLe l0 (.nils :: r) = allLe l0 r := .trans rfl rfl
@[simp] theorem allLe_bptr {l0 : Nat} {nm : Nm} {o : Nat} {r : List GV} : allLe l0 (.bptr nm o :: r) = (decide (nm.1 ≤ l0) && allLe l0 r) := .trans rfl rfl
@[simp] theorem allLe_hdr {l0 : Nat} {nm : Nm} {es top lo len : Nat} {r : List GV} : allLe l0 (.hdr nm es top lo len :: r) = (decide (nm.1 ≤ l0) && allLe l0 r) := .trans rfl rfl
@[simp] theorem allLe_map {l0 : Nat} {nm : Nm} {r : List GV} : allLe l0 (.map nm :: r) = (decide (nm.1 ≤ l0) && allLe l0 r) := .trans rfl rfl
@[simp] theorem allLe_yield {l0 : Nat} {nm : Nm} {r : List GV} : allLe l0 (.yield nm :: r) = (decide (nm.1 ≤ l0) && allLe l0 r) := .trans rfl rfl
theorem gleave_free {f : Nat} {c : Nat} {r : GV} {fr : Fr} (h : K.keep f = false) : gleave K f c r (fr :: H) = some (canon (clean (fr :: H) (H.length - 1) r), H) := by
  unfold gleave; simp [h]
end
end Go.Gh


/- Appends, slices, maps, functions as equations for simp. -/
namespace Go.Gh
set_option linter.unusedSimpArgs false
set_option linter.unusedVariables false
section
variable {K : Ctx} {fn : FuncId} {rec : Rec} {dst : Option Tmp} {ty : TypeId} {pos : String} {af : Array Edge} {gu : Option (Nat × Bool)} {s : Slots} {H : Heap}
/-- A slice's type: size and bytes of an element, how many cells its zero value has. -/
def tapp (P : Program) (t : TypeId) : Option (Option Nat × Option Nat × Option Nat) := (telem P t).map fun e => (tsize P e, tbytes P e, zsize P e)
def apV (lv : Option Nat) (k : Nat → Option (GV × Heap)) : Option (GV × Heap) := match lv with | some l => k l | none => none
@[congr] theorem apV_cg {lv lv' : Option Nat} {k : Nat → Option (GV × Heap)} (h : ∀ _ : Unit, lv = lv') : apV lv k = apV lv' k := by rw [h ()]
@[simp] theorem apV_some {l : Nat} {k : Nat → Option (GV × Heap)} : apV (some l) k = k l := .trans rfl rfl
def gapE (ta : Option (Option Nat × Option Nat × Option Nat)) (xs : Option (List (List PV) × Heap)) (k : Nat → Nat → List (List PV) → Heap → Option (GV × Heap)) : Option (GV × Heap) :=
  match ta, xs with
  | some (some size, some bytes, zs), some (xs, H) =>
    if zs = some size ∧ (xs.all fun r => r.length == size) = true ∧ 0 < size ∧ 0 < bytes ∧ bytes ≤ 1048576 then k size bytes xs H else none
  | _, _ => none
@[congr] theorem gapE_cg {ta ta' : Option (Option Nat × Option Nat × Option Nat)} {xs xs' : Option (List (List PV) × Heap)} {k : Nat → Nat → List (List PV) → Heap → Option (GV × Heap)} (h : ∀ _ : Unit, ta = ta') (h' : ∀ _ : Unit, xs = xs') : gapE ta xs k = gapE ta' xs' k := by rw [h (), h' ()]
@[simp] theorem gapE_some {size bytes : Nat} {zs : Option Nat} {xs : List (List PV)} {k : Nat → Nat → List (List PV) → Heap → Option (GV × Heap)} : gapE (some (some size, some bytes, zs)) (some (xs, H)) k =
    if zs = some size ∧ (xs.all fun r => r.length == size) = true ∧ 0 < size ∧ 0 < bytes ∧ bytes ≤ 1048576 then k size bytes xs H else none := .trans rfl rfl
def apK (l key : Nat) (s : GV) (size bytes : Nat) (xs : List (List PV)) (H : Heap) : Option (GV × Heap) :=
  match s with
  | .nils =>
    if xs.length * bytes ≤ 1099511627776 then (if xs.isEmpty then some (.nils, H) else rn (gnewAt H l key (.arr size xs 0 false)) fun nm => .hdr nm size xs.length 0 xs.length) else none
  | .hdr nm es top lo len =>
    (match H.get nm with
    | some (.arr es' elems vf ro) =>
      if es' = size ∧ es = size ∧ top = elems.length ∧ lo = 0 ∧ len = top ∧ vf ≤ top ∧ ro = false ∧ (len + xs.length) * bytes ≤ 1099511627776 then
        (if xs.isEmpty then some (.hdr nm es top lo len, H) else some (.hdr nm es (top + xs.length) 0 (top + xs.length), H.set nm (.arr es' (elems ++ xs) vf false)))
      else none
    | _ => none)
  | _ => none
@[simp] theorem apK_nils {l key size bytes : Nat} {xs : List (List PV)} : apK l key .nils size bytes xs H =
    if xs.length * bytes ≤ 1099511627776 then (if xs.isEmpty then some (.nils, H) else rn (gnewAt H l key (.arr size xs 0 false)) fun nm => .hdr nm size xs.length 0 xs.length) else none := .trans rfl rfl
def apH (H : Heap) (nm : Nm) (es top lo len size bytes : Nat) (xs : List (List PV)) (b : Option Blk) : Option (GV × Heap) := match b with
    | some (.arr es' elems vf ro) =>
      if es' = size ∧ es = size ∧ top = elems.length ∧ lo = 0 ∧ len = top ∧ vf ≤ top ∧ ro = false ∧ (len + xs.length) * bytes ≤ 1099511627776 then
        (if xs.isEmpty then some (.hdr nm es top lo len, H) else some (.hdr nm es (top + xs.length) 0 (top + xs.length), H.set nm (.arr es' (elems ++ xs) vf false)))
      else none
    | _ => none
@[congr] theorem apH_cg {nm : Nm} {es top lo len size bytes : Nat} {xs : List (List PV)} {b b' : Option Blk} (h : ∀ _ : Unit, b = b') : apH H nm es top lo len size bytes xs b = apH H nm es top lo len size bytes xs b' := by rw [h ()]
@[simp] theorem apH_arr {nm : Nm} {es top lo len size bytes : Nat} {xs : List (List PV)} {es' vf : Nat} {elems : List (List PV)} {ro : Bool} : apH H nm es top lo len size bytes xs (some (.arr es' elems vf ro)) =
      if es' = size ∧ es = size ∧ top = elems.length ∧ lo = 0 ∧ len = top ∧ vf ≤ top ∧ ro = false ∧ (len + xs.length) * bytes ≤ 1099511627776 then
        (if xs.isEmpty then some (.hdr nm es top lo len, H) else some (.hdr nm es (top + xs.length) 0 (top + xs.length), H.set nm (.arr es' (elems ++ xs) vf false)))
      else none := .trans rfl rfl
@[simp] theorem apK_hdr {l key size bytes : Nat} {xs : List (List PV)} {nm : Nm} {es top lo len : Nat} : apK l key (.hdr nm es top lo len) size bytes xs H = apH H nm es top lo len size bytes xs (H.get nm) := by
  unfold apK apH
  rfl
theorem gappend_def {l key : Nat} {t : TypeId} {a x : GV} : gappend K H l key t a x = gapE (tapp K.P t) (gelems H x) (apK l key a) := by
  unfold gappend tapp
  cases telem K.P t with
  | none => rfl
  | some e =>
    simp only [Option.map_some]
    cases tsize K.P e with
    | none => rfl
    | some size =>
      cases tbytes K.P e with
      | none => rfl
      | some bytes =>
        cases gelems H x with
        | none => rfl
        | some y =>
          obtain ⟨xs, H1⟩ := y
          simp only [gapE]
          by_cases hc : zsize K.P e = some size ∧ (xs.all fun r => r.length == size) = true ∧ 0 < size ∧ 0 < bytes ∧ bytes ≤ 1048576
          · obtain ⟨h1, h2, h3, h4, h5⟩ := hc
            simp only [h1, h2, h3, h4, h5, decide_true, Bool.and_self, and_self, if_true]
            unfold apK
            cases a with
            | nils =>
              simp only
              split
              · split
                · rfl
                · cases gnewAt H1 l key (.arr size xs 0 false) <;> rfl
              · rfl
            | hdr nm es top lo len => rfl
            | _ => rfl
          · rw [if_neg hc, if_neg]
            intro h
            simp only [Bool.and_eq_true, decide_eq_true_eq] at h
            exact hc ⟨h.1.1.1.1, h.1.1.1.2, h.1.1.2, h.1.2, h.2⟩
def apR (r : Option Nat) (x : Option (GV × Heap)) (y : Nat → Option (GV × Heap)) : Option (GV × Heap) := match r with | none => x | some key => y key
@[congr] theorem apR_cg {r r' : Option Nat} {x : Option (GV × Heap)} {y : Nat → Option (GV × Heap)} (h : ∀ _ : Unit, r = r') : apR r x y = apR r' x y := by rw [h ()]
@[simp] theorem apR_none {x : Option (GV × Heap)} {y : Nat → Option (GV × Heap)} : apR none x y = x := .trans rfl rfl
@[simp] theorem apR_some {key : Nat} {x : Option (GV × Heap)} {y : Nat → Option (GV × Heap)} : apR (some key) x y = y key := .trans rfl rfl
def upX (bn : Option Nm) (k : Nm → Option (GV × Heap)) : Option (GV × Heap) := match bn with | some l => k l | none => none
@[congr] theorem upX_cg {lv lv' : Option Nm} {k : Nm → Option (GV × Heap)} (h : ∀ _ : Unit, lv = lv') : upX lv k = upX lv' k := by rw [h ()]
@[simp] theorem upX_some {l : Nm} {k : Nm → Option (GV × Heap)} : upX (some l) k = k l := .trans rfl rfl
def upN : GV → Option Nm | .bptr nm _ => some nm | _ => none
@[simp] theorem upN_bptr {nm : Nm} {o : Nat} : upN (.bptr nm o) = some nm := .trans rfl rfl
@[simp] theorem upBox_box {t : Nat} : upBox s (.box t) = upN (look s t) := by
  unfold upBox upN; rfl
@[simp] theorem gop_append {d : Nat} {x y : Operand} {t t2 : TypeId} : gop K fn ⟨some d, .call ⟨.builtin .append, #[x, y], #[t, t2]⟩, ty, pos, af, gu⟩ s H =
    if spreads K.P (some t2) = true then apR (K.row fn d) (apV (upLevel H s (K.up fn d)) fun l => gapE (tapp K.P t) (gelems H (ev s y)) (apK l d (ev s x))) fun key => upX (upBox s (K.up fn d)) fun bn => gappendR K H bn key t (ev s x) (ev s y) else none := by
  show (if spreads K.P (some t2) = true then (match K.row fn d with | none => (match upLevel H s (K.up fn d) with | some l => gappend K H l d t (ev s x) (ev s y) | none => none) | some key => (match upBox s (K.up fn d) with | some bn => gappendR K H bn key t (ev s x) (ev s y) | none => none)) else none) = _
  split
  · cases K.row fn d with
    | none =>
      simp only [apR]
      cases upLevel H s (K.up fn d) with
      | none => rfl
      | some l => exact gappend_def
    | some key => rfl
  · rfl
@[simp] theorem upLevel_scopes {n : Nat} : upLevel H s (.scopes n) = if H.length ≤ n then none else some (H.length - 1 - n) := .trans rfl rfl
def upB : GV → Option Nat | .bptr nm _ => some nm.1 | _ => none
@[simp] theorem upB_bptr {nm : Nm} {o : Nat} : upB (.bptr nm o) = some nm.1 := .trans rfl rfl
@[simp] theorem upLevel_box {t : Nat} : upLevel H s (.box t) = upB (look s t) := by
  unfold upLevel upB; rfl
@[simp] theorem gnewAt_def {l key : Nat} {b : Blk} : gnewAt H l key b = if H.length ≤ l then none else if (H.get (l, key)).isSome then none else some ((l, key), H.set (l, key) b) := by
  unfold gnewAt
  split
  · rfl
  · cases H.get (l, key) <;> simp
@[simp] theorem gelems_nils : gelems H .nils = some ([], H) := .trans rfl rfl
@[simp] theorem gelems_pure {l : List (List PV)} : gelems H (.pure (.slice l)) = some (l, H) := .trans rfl rfl
@[simp] theorem gelems_str {l : List UInt8} : gelems H (.pure (.str l)) = some (l.map fun b => [.int .u8 b.toNat], H) := .trans rfl rfl
@[simp] theorem gelems_lits {l : List (List GV)} : gelems H (.lits l) = some (pureRows H l) := .trans rfl rfl
def elH (H : Heap) (x : PV) : Option (List (List PV) × Heap) := match x with | .slice l => some (l, H) | _ => none
@[simp] theorem elH_slice {l : List (List PV)} : elH H (.slice l) = some (l, H) := .trans rfl rfl
@[simp] theorem gelems_hdr {nm : Nm} {es top lo len : Nat} : gelems H (.hdr nm es top lo len) = elH H (slD es top lo len (H.get nm)) := by
  rw [← sliceOf_def]
  unfold gelems elH
  simp only
  generalize sliceOf H nm es top lo len = q
  cases q <;> rfl
@[simp] theorem pureRows_nil : pureRows H [] = ([], H) := .trans rfl rfl
def prC (r : List (List GV)) (x : List PV × Heap) : List (List PV) × Heap := (x.1 :: (pureRows x.2 r).1, (pureRows x.2 r).2)
@[congr] theorem prC_cg {r : List (List GV)} {x y : List PV × Heap} (h : ∀ _ : Unit, x = y) : prC r x = prC r y := by rw [h ()]
@[simp] theorem prC_pair {r : List (List GV)} {g : List PV} : prC r (g, H) = (g :: (pureRows H r).1, (pureRows H r).2) := .trans rfl rfl
@[simp] theorem pureRows_cons {g : List GV} {r : List (List GV)} : pureRows H (g :: r) = prC r (pureCells H g) := .trans rfl rfl
@[simp] theorem gop_slice {t : TypeId} {x : Operand} {lo hi mx : Option Operand} : gop K fn ⟨dst, .slice t x lo hi mx, ty, pos, af, gu⟩ s H = rv H (gslice K t (ev s x) (lo.map (ev s)) (hi.map (ev s)) (mx.map (ev s))) := by
  simp only [gop, rv]; rfl
def slP (es : Option (Option Nat)) (a b : Option Nat) (l : List (List PV)) : Option GV :=
  match es, a, b with
  | some (some es), some a, some b => if a ≤ b ∧ b ≤ l.length ∧ (l.all fun r => r.length == es) = true then some (.pure (.slice ((l.take b).drop a))) else none
  | _, _, _ => none
@[simp] theorem slP_some {es a b : Nat} {l : List (List PV)} : slP (some (some es)) (some a) (some b) l = if a ≤ b ∧ b ≤ l.length ∧ (l.all fun r => r.length == es) = true then some (.pure (.slice ((l.take b).drop a))) else none := .trans rfl rfl
@[simp] theorem gslice_pure {t : TypeId} {l : List (List PV)} {lo hi : Option GV} : gslice K t (.pure (.slice l)) lo hi none = slP (telemS K.P t) (gbound lo 0) (gbound hi l.length) l := by
  unfold gslice slP telemS
  simp only [Option.isSome_none, Bool.false_eq_true, if_false]
  generalize gbound lo 0 = a
  generalize gbound hi l.length = b
  rcases a with _ | a <;> rcases b with _ | b
  · cases telem K.P t with
    | none => rfl
    | some e => simp only [Option.map_some]; cases tsize K.P e <;> rfl
  · cases telem K.P t with
    | none => rfl
    | some e => simp only [Option.map_some]; cases tsize K.P e <;> rfl
  · cases telem K.P t with
    | none => rfl
    | some e => simp only [Option.map_some]; cases tsize K.P e <;> rfl
  · cases telem K.P t with
    | none => rfl
    | some e =>
      simp only [Option.map_some]
      cases tsize K.P e with
      | none => simp
      | some es =>
        simp only
        by_cases h : a ≤ b ∧ b ≤ l.length
        · rw [if_pos h]
          simp only [h.1, h.2, true_and]
        · rw [if_neg h, if_neg (fun h' => h ⟨h'.1, h'.2.1⟩)]
def slH (es : Option (Option Nat)) (a b : Option Nat) (nm : Nm) (es' top l0 len : Nat) : Option GV :=
  match es, a, b with
  | some es, some a, some b => if a ≤ b ∧ b ≤ len ∧ es = some es' then (if a = b then some (.pure (.slice [])) else some (.hdr nm es' top (l0 + a) (b - a))) else none
  | _, _, _ => none
@[simp] theorem slH_some {es : Option Nat} {a b : Nat} {nm : Nm} {es' top l0 len : Nat} : slH (some es) (some a) (some b) nm es' top l0 len = if a ≤ b ∧ b ≤ len ∧ es = some es' then (if a = b then some (.pure (.slice [])) else some (.hdr nm es' top (l0 + a) (b - a))) else none := .trans rfl rfl
@[simp] theorem gslice_hdr {t : TypeId} {nm : Nm} {es top l0 len : Nat} {lo hi : Option GV} : gslice K t (.hdr nm es top l0 len) lo hi none = slH (telemS K.P t) (gbound lo 0) (gbound hi len) nm es top l0 len := by
  unfold gslice slH telemS
  simp only [Option.isSome_none, Bool.false_eq_true, if_false]
  generalize gbound lo 0 = a
  generalize gbound hi len = b
  cases telem K.P t with
  | none => cases a <;> cases b <;> rfl
  | some e => cases a <;> cases b <;> rfl
def slS (un : Option TypeDesc) (a b : Option Nat) (l : List UInt8) : Option GV := match a, b, un with
    | some a, some b, some .string => if a ≤ b ∧ b ≤ l.length then some (.pure (.str ((l.take b).drop a))) else none
    | _, _, _ => none
@[simp] theorem slS_some {a b : Nat} {l : List UInt8} : slS (some .string) (some a) (some b) l = if a ≤ b ∧ b ≤ l.length then some (.pure (.str ((l.take b).drop a))) else none := .trans rfl rfl
@[simp] theorem gslice_str {t : TypeId} {l : List UInt8} {lo hi : Option GV} : gslice K t (.pure (.str l)) lo hi none = slS (K.P.underlying t) (gbound lo 0) (gbound hi l.length) l := by
  unfold gslice slS
  simp only [Option.isSome_none, Bool.false_eq_true, if_false]
  rfl
@[simp] theorem gbound_none {d : Nat} : gbound none d = some d := .trans rfl rfl
@[simp] theorem gbound_some {k : IntKind} {i : Int} {d : Nat} : gbound (some (.pure (.int k i))) d = if i < 0 then none else some i.toNat := .trans rfl rfl
/-- A slice's type: the size of an element, its zero cells. -/
def tlit (P : Program) (t : TypeId) : Option (Option Nat × Option (List GV)) := (telem P t).map fun e => (tsize P e, cellsO' (tzero P e))
def blR (own : Bool) (d : Nat) (H : Heap) (size len : Nat) (cs : List GV) (ps : Option (List PV)) : Option (GV × Heap) :=
  match ps with
  | some ps => if own then rn (gnew H d (.arr size (chunks size len ps) 0 false)) (fun nm => .hdr nm size len 0 len) else some (.pure (.slice (chunks size len ps)), H)
  | none => some (.lits (chunks size len cs), H)
def blL (own : Bool) (d : Nat) (H : Heap) (size len : Nat) (x : Option (List GV)) : Option (GV × Heap) := match x with
  | some cs => if len = 0 then some (.nils, H) else blR own d H size len cs (allPure (cs.map canon1))
  | none => none
def blV (own : Bool) (d : Nat) (H : Heap) (len : Nat) (ps : List (Nat × GV)) (tl : Option (Option Nat × Option (List GV))) : Option (GV × Heap) := match tl with
  | some (some size, some zs) => if zs.length = size ∧ 0 < size ∧ len * size ≤ 16777216 then blL own d H size len (gfill (fun i => some (i * size, size)) (List.replicate len zs).flatten ps) else none
  | _ => none
@[simp] theorem blR_own {d size len : Nat} {cs : List GV} {ps : List PV} : blR true d H size len cs (some ps) = rn (gnew H d (.arr size (chunks size len ps) 0 false)) (fun nm => .hdr nm size len 0 len) := .trans rfl rfl
@[simp] theorem blR_pure {d size len : Nat} {cs : List GV} {ps : List PV} : blR false d H size len cs (some ps) = some (.pure (.slice (chunks size len ps)), H) := .trans rfl rfl
@[simp] theorem blR_lits {own : Bool} {d size len : Nat} {cs : List GV} : blR own d H size len cs none = some (.lits (chunks size len cs), H) := .trans rfl rfl
@[simp] theorem blL_some {own : Bool} {d size len : Nat} {cs : List GV} : blL own d H size len (some cs) = if len = 0 then some (.nils, H) else blR own d H size len cs (allPure (cs.map canon1)) := .trans rfl rfl
@[simp] theorem blV_some {own : Bool} {d size len : Nat} {zs : List GV} {ps : List (Nat × GV)} : blV own d H len ps (some (some size, some zs)) =
    if zs.length = size ∧ 0 < size ∧ len * size ≤ 16777216 then blL own d H size len (gfill (fun i => some (i * size, size)) (List.replicate len zs).flatten ps) else none := .trans rfl rfl
@[simp] theorem gop_buildSlice {d : Nat} {t : TypeId} {n : Nat} {ps : Array (Nat × Operand)} : gop K fn ⟨some d, .buildSlice t n ps, ty, pos, af, gu⟩ s H = blV (K.own fn d) d H n (ps.toList.map (evp s)) (tlit K.P t) := by
  simp only [gop, tlit]
  cases telem K.P t with
  | none => rfl
  | some e =>
    simp only [Option.map_some]
    cases tsize K.P e with
    | none => rfl
    | some size =>
      cases tzero K.P e with
      | none => rfl
      | some z =>
        simp only [cellsO'_some]
        cases cellsO z with
        | none => rfl
        | some zs =>
          simp only [blV_some]
          split
          · cases gfill (fun i => some (i * size, size)) (List.replicate n zs).flatten (ps.toList.map (evp s)) with
            | none => rfl
            | some cs =>
              simp only [blL_some]
              split
              · rfl
              · cases allPure (cs.map canon1) with
                | none => rfl
                | some qs =>
                  simp only
                  cases K.own fn d with
                  | true =>
                    simp only [if_true, blR_own]
                    cases gnew H d (.arr size (chunks size n qs) 0 false) <;> rfl
                  | false => rfl
          · rfl
@[simp] theorem chunks_zero {α : Type} {es : Nat} {l : List α} : chunks es 0 l = [] := .trans rfl rfl
@[simp] theorem chunks_succ {α : Type} {es n : Nat} {l : List α} : chunks es (n + 1) l = l.take es :: chunks es n (l.drop es) := .trans rfl rfl
def tmk (P : Program) (t : TypeId) : Option (Option Nat × Option Nat × Option (List PV)) := (telem P t).map fun e => (tsize P e, tbytes P e, match cellsO' (tzero P e) with | some zs => allPure (zs.map canon1) | none => none)
def mkS (d : Nat) (H : Heap) (a b : GV) (tm : Option (Option Nat × Option Nat × Option (List PV))) : Option (GV × Heap) := match tm, a, b with
  | some (some size, some bytes, some ps), .pure (.int _ l), .pure (.int _ c) => if ps.length = size ∧ 0 < size ∧ 0 < bytes ∧ 0 ≤ l ∧ l ≤ c ∧ c * bytes ≤ 1099511627776 then
      rn (gnew H d (.arr size (List.replicate l.toNat ps) 0 false)) (fun nm => .hdr nm size l.toNat 0 l.toNat) else none
  | _, _, _ => none
@[simp] theorem mkS_some {d size bytes : Nat} {ps : List PV} {k k' : IntKind} {l c : Int} : mkS d H (.pure (.int k l)) (.pure (.int k' c)) (some (some size, some bytes, some ps)) =
    if ps.length = size ∧ 0 < size ∧ 0 < bytes ∧ 0 ≤ l ∧ l ≤ c ∧ c * bytes ≤ 1099511627776 then
      rn (gnew H d (.arr size (List.replicate l.toNat ps) 0 false)) (fun nm => .hdr nm size l.toNat 0 l.toNat) else none := .trans rfl rfl
@[simp] theorem gop_makeSlice {d : Nat} {t : TypeId} {l c : Operand} : gop K fn ⟨some d, .makeSlice t l c, ty, pos, af, gu⟩ s H = mkS d H (ev s l) (ev s c) (tmk K.P t) := by
  simp only [gop, tmk]
  generalize ev s l = a
  generalize ev s c = b
  cases telem K.P t with
  | none => rfl
  | some e =>
    simp only [Option.map_some]
    cases tsize K.P e with
    | none => rfl
    | some size =>
      cases tbytes K.P e with
      | none => rfl
      | some bytes =>
        cases tzero K.P e with
        | none => rfl
        | some z =>
          simp only [cellsO'_some]
          cases a with
          | pure p =>
            cases p with
            | int k l =>
              cases b with
              | pure q =>
                cases q with
                | int k' c =>
                  simp only
                  cases cellsO z with
                  | none => rfl
                  | some zs =>
                    simp only
                    cases allPure (zs.map canon1) with
                    | none => rfl
                    | some ps =>
                      simp only [mkS_some]
                      split
                      · cases gnew H d (.arr size (List.replicate l.toNat ps) 0 false) <;> rfl
                      · rfl
                | _ => cases cellsO z <;> try rfl
                       all_goals (rename_i zs; simp only; cases allPure (zs.map canon1) <;> rfl)
              | _ => cases cellsO z <;> try rfl
                     all_goals (rename_i zs; simp only; cases allPure (zs.map canon1) <;> rfl)
            | _ => cases cellsO z <;> try rfl
                   all_goals (rename_i zs; simp only; cases allPure (zs.map canon1) <;> rfl)
          | _ => cases cellsO z <;> try rfl
                 all_goals (rename_i zs; simp only; cases allPure (zs.map canon1) <;> rfl)
@[simp] theorem gop_makeMap {d : Nat} {t : TypeId} : gop K fn ⟨some d, .makeMap t none, ty, pos, af, gu⟩ s H = rn (gnew H d (.map [])) .map := by
  simp only [gop]; cases gnew H d (.map []) <;> rfl
def luV (ok : Bool) (z : Option GV) (x : Option (Option (Nat × GV))) : Option GV := match x with
  | some (some (_, v)) => some (if ok then mkTuple [v, .pure (.bool true)] else v)
  | some none => (match z with | some z => some (if ok then mkTuple [z, .pure (.bool false)] else z) | none => none)
  | none => none
@[simp] theorem luV_hit {ok : Bool} {z : Option GV} {i : Nat} {v : GV} : luV ok z (some (some (i, v))) = some (if ok then mkTuple [v, .pure (.bool true)] else v) := .trans rfl rfl
@[simp] theorem luV_miss {ok : Bool} {z : GV} : luV ok (some z) (some none) = some (if ok then mkTuple [z, .pure (.bool false)] else z) := .trans rfl rfl
def tmz (P : Program) (t : TypeId) : Option (TypeId × Option GV) := (tmap P t).map fun x => (x.1, tzero P x.2)
def luK (K : Ctx) (ok : Bool) (tm : Option (TypeId × Option GV)) (k : GV) (es : Option (List (PV × GV))) : Option GV := match tm, k, es with
  | some (kt, z), .pure k, some es => if keyFitsK K kt k = false then none else luV ok z (findEntry k es 0)
  | _, _, _ => none
@[simp] theorem luK_some {K : Ctx} {ok : Bool} {kt : TypeId} {z : Option GV} {k : PV} {es : List (PV × GV)} : luK K ok (some (kt, z)) (.pure k) (some es) = if keyFitsK K kt k = false then none else luV ok z (findEntry k es 0) := .trans rfl rfl
@[simp] theorem gop_lookup {t : TypeId} {x k : Operand} {ok : Bool} : gop K fn ⟨dst, .lookup t x k ok, ty, pos, af, gu⟩ s H = rv H (luK K ok (tmz K.P t) (ev s k) (mapOf H (ev s x))) := by
  have h : glookup K t H (ev s x) (ev s k) ok = luK K ok (tmz K.P t) (ev s k) (mapOf H (ev s x)) := by
    unfold glookup luK tmz
    generalize ev s k = g
    generalize mapOf H (ev s x) = m
    cases tmap K.P t with
    | none => rfl
    | some p =>
      obtain ⟨kt, e⟩ := p
      cases g with
      | pure q =>
        cases m with
        | none => rfl
        | some es =>
          simp only [Option.map_some]
          split
          · rfl
          · unfold luV
            cases findEntry q es 0 with
            | none => rfl
            | some y => cases y <;> rfl
      | _ => cases m <;> rfl
  simp only [gop, h]
  rfl
def mapB (b : Option Blk) : Option (List (PV × GV)) := match b with | some (.map es) => some es | _ => none
@[simp] theorem mapB_map {es : List (PV × GV)} : mapB (some (.map es)) = some es := .trans rfl rfl
@[simp] theorem mapOf_map {nm : Nm} : mapOf H (.map nm) = mapB (H.get nm) := by
  unfold mapOf mapB
  simp only
  generalize Heap.get H nm = q
  rcases q with _ | b
  · rfl
  · cases b <;> rfl
@[simp] theorem mapOf_nilm : mapOf H (.pure .nilm) = some [] := .trans rfl rfl
def muE (nm : Nm) (H : Heap) (k : PV) (v : GV) (es : List (PV × GV)) (x : Option (Option (Nat × GV))) : Option Heap := match x with
  | some (some (i, _)) => some (H.set nm (.map (es.set i (k, v))))
  | some none => some (H.set nm (.map (es ++ [(k, v)])))
  | none => none
@[simp] theorem muE_hit {nm : Nm} {k : PV} {v v' : GV} {es : List (PV × GV)} {i : Nat} : muE nm H k v es (some (some (i, v'))) = some (H.set nm (.map (es.set i (k, v)))) := .trans rfl rfl
@[simp] theorem muE_miss {nm : Nm} {k : PV} {v : GV} {es : List (PV × GV)} : muE nm H k v es (some none) = some (H.set nm (.map (es ++ [(k, v)]))) := .trans rfl rfl
def muK (K : Ctx) (kt : TypeId) (nm : Nm) (k : PV) (x : Option (GV × Heap)) : Option Heap := match x with
  | some (v', H1) => (match mapB (H1.get nm) with | some es => if keyFitsK K kt k = false then none else muE nm H1 k v' es (findEntry k es 0) | none => none)
  | none => none
@[simp] theorem muK_some {K : Ctx} {kt : TypeId} {nm : Nm} {k : PV} {v : GV} : muK K kt nm k (some (v, H)) = (match mapB (H.get nm) with | some es => if keyFitsK K kt k = false then none else muE nm H k v es (findEntry k es 0) | none => none) := .trans rfl rfl
def muV (K : Ctx) (tm : Option (TypeId × TypeId)) (H : Heap) (m k v : GV) : Option Heap := match tm, m, k with
  | some (kt, _), .map nm, .pure k => muK K kt nm k (lowerVal H nm.1 v)
  | _, _, _ => none
@[simp] theorem muV_some {K : Ctx} {kt e : TypeId} {nm : Nm} {k : PV} {v : GV} : muV K (some (kt, e)) H (.map nm) (.pure k) v = muK K kt nm k (lowerVal H nm.1 v) := .trans rfl rfl
@[simp] theorem lowerVal_pure {l0 : Nat} {p : PV} : lowerVal H l0 (.pure p) = some (.pure p, H) := .trans rfl rfl
@[simp] theorem gop_mapUpdate {t : TypeId} {m k v : Operand} : gop K fn ⟨dst, .mapUpdate t m k v, ty, pos, af, gu⟩ s H = rh (muV K (tmap K.P t) H (ev s m) (ev s k) (ev s v)) := by
  have h : gmapUpdate K t H (ev s m) (ev s k) (ev s v) = muV K (tmap K.P t) H (ev s m) (ev s k) (ev s v) := by
    unfold gmapUpdate muV
    generalize ev s m = gm
    generalize ev s k = gk
    cases tmap K.P t with
    | none => rfl
    | some p =>
      obtain ⟨kt, e⟩ := p
      cases gm with
      | map nm =>
        cases gk with
        | pure q =>
          simp only
          cases lowerVal H nm.1 (ev s v) with
          | none => rfl
          | some y =>
            obtain ⟨v', H1⟩ := y
            simp only [muK, mapB]
            cases H1.get nm with
            | none => rfl
            | some b =>
              cases b with
              | map es =>
                simp only
                split
                · rfl
                · unfold muE
                  cases findEntry q es 0 with
                  | none => rfl
                  | some y => cases y <;> rfl
              | _ => rfl
        | _ => rfl
      | _ => rfl
  simp only [gop, h]
  rfl
@[simp] theorem gop_makeFunc {f : Nat} {a c : Array Operand} : gop K fn ⟨dst, .makeFunc (.func f) a c, ty, pos, af, gu⟩ s H = rv H (some (mkFunc f (a.toList.map (ev s)) (c.toList.map (ev s)))) := .trans rfl rfl
@[simp] theorem mkFunc_cap {f : Nat} {a : List GV} {g : GV} {c : List GV} : mkFunc f a (g :: c) = .func f a (g :: c) := by unfold mkFunc; simp
@[simp] theorem mkFunc_first {f : Nat} {g : GV} {a c : List GV} : mkFunc f (g :: a) c = .func f (g :: a) c := by unfold mkFunc; simp
@[simp] theorem mkFunc_none {f : Nat} : mkFunc f [] [] = .pure (.fn f) := .trans rfl rfl
@[simp] theorem gop_min {args : Array Operand} {ats : Array TypeId} : gop K fn ⟨dst, .call ⟨.builtin .min, args, ats⟩, ty, pos, af, gu⟩ s H = rv H (gminmax false (args.toList.map (ev s))) := by
  simp only [gop, rv]; rfl
@[simp] theorem gop_max {args : Array Operand} {ats : Array TypeId} : gop K fn ⟨dst, .call ⟨.builtin .max, args, ats⟩, ty, pos, af, gu⟩ s H = rv H (gminmax true (args.toList.map (ev s))) := by
  simp only [gop, rv]; rfl
@[simp] theorem gminmax_one {mx : Bool} {k : IntKind} {a : Int} : gminmax mx [.pure (.int k a)] = some (.pure (.int k a)) := by
  rw [gminmax]
@[simp] theorem gminmax_two {mx : Bool} {k : IntKind} {a b : Int} {r : List GV} : gminmax mx (.pure (.int k a) :: .pure (.int k b) :: r) = gminmax mx (.pure (.int k (if mx = true then (if a < b then b else a) else (if b < a then b else a))) :: r) := by
  rw [gminmax]; simp
def consO (x : Option GV) (r : Option (List GV)) : Option (List GV) := match x, r with | some v, some l => some (v :: l) | _, _ => none
@[simp] theorem consO_some {v : GV} {l : List GV} : consO (some v) (some l) = some (v :: l) := .trans rfl rfl
def resL (K : Ctx) (st : GSt) : List ResultVar → Option (List GV)
  | [] => some []
  | .tmp t :: r => consO (some (look st.s t)) (resL K st r)
  | .cell a t :: r => consO (gload K.P t st.h (look st.s a)) (resL K st r)
@[simp] theorem resL_nil {st : GSt} : resL K st [] = some [] := .trans rfl rfl
@[simp] theorem resL_tmp {st : GSt} {t : Nat} {r : List ResultVar} : resL K st (.tmp t :: r) = consO (some (look st.s t)) (resL K st r) := .trans rfl rfl
@[simp] theorem resL_cell {st : GSt} {a : Nat} {t : TypeId} {r : List ResultVar} : resL K st (.cell a t :: r) = consO (gload K.P t st.h (look st.s a)) (resL K st r) := .trans rfl rfl
@[simp] theorem gresults_def {g : Func} {st : GSt} : gresults K g st = resL K st g.results.toList := by
  unfold gresults
  generalize g.results.toList = l
  induction l with
  | nil => rfl
  | cons x r ih =>
    cases x with
    | tmp t =>
      simp only [List.mapM_cons, resL_tmp, ← ih]
      generalize List.mapM (m := Option) _ r = q
      cases q <;> rfl
    | cell a t =>
      simp only [List.mapM_cons, resL_cell, ← ih]
      cases gload K.P t st.h (look st.s a) with
      | none => rfl
      | some v =>
        generalize List.mapM (m := Option) _ r = q
        cases q <;> rfl
@[simp] theorem firstRegion_region {id : Nat} {ops : Array Oper} {b : Bool} : firstRegion (.region id ops b) = id + 1 := .trans rfl rfl
@[simp] theorem firstRegion_seq {a b : Code} : firstRegion (.seq a b) = if firstRegion a = 0 then firstRegion b else firstRegion a := .trans rfl rfl
@[simp] theorem firstRegion_cond {c : Operand} {a b : Code} : firstRegion (.cond c a b) = if firstRegion a = 0 then firstRegion b else firstRegion a := .trans rfl rfl
@[simp] theorem firstRegion_block {id : Nat} {a : Code} : firstRegion (.block id a) = firstRegion a := .trans rfl rfl
@[simp] theorem firstRegion_loop {a : Code} : firstRegion (.loop a) = firstRegion a + 100000 := .trans rfl rfl
@[simp] theorem firstRegion_skip : firstRegion .skip = 0 := .trans rfl rfl
@[simp] theorem firstRegion_exit {id : Nat} : firstRegion (.exit id) = 0 := .trans rfl rfl
@[simp] theorem firstRegion_ret : firstRegion .ret = 0 := .trans rfl rfl
theorem WPv_eq {α : Type} {x : Option α} {a : α} (h : WPv x (fun r => r = a)) : x = some a := by
  obtain ⟨r, h1, h2⟩ := h; rw [h1, h2]
end
end Go.Gh


/- The calculus: loops by number, looks at other heaps, numbers, boxes with a number. -/
namespace Go.Gh
set_option linter.unusedSimpArgs false
set_option linter.unusedVariables false
/-- The bodies of the loops of a piece of code, in the text's order. -/
def loopsOf : Code → List Code
  | .seq a b => loopsOf a ++ loopsOf b
  | .cond _ a b => loopsOf a ++ loopsOf b
  | .block _ a => loopsOf a
  | .scope a => loopsOf a
  | .loop a => a :: loopsOf a
  | .rangeFunc _ _ a b => loopsOf a ++ loopsOf b
  | _ => []
def lp (g : Func) (k : Nat) : Code := ((loopsOf (g.body.getD .skip))[k]?).getD .skip
/-- A value that the kernel does not unfold. -/
noncomputable def hid {α : Type} (a : α) : α := Classical.choose (⟨a, rfl⟩ : ∃ x, x = a)
theorem hid_eq {α : Type} (a : α) : hid a = a := Classical.choose_spec (⟨a, rfl⟩ : ∃ x, x = a)
@[simp] theorem firstRegion_scope {a : Code} : firstRegion (.scope a) = firstRegion a := .trans rfl rfl
@[simp] theorem firstRegion_label {l : Nat} : firstRegion (.label l) = 0 := .trans rfl rfl
section
variable {K : Ctx} {fn : FuncId} {H : Heap}
def saV (v : GV) (x : Option (GV × Heap)) : Bool := match x with | some (v', _) => GV.beq v' v | none => false
@[simp] theorem saV_some {v v' : GV} : saV v (some (v', H)) = GV.beq v' v := rfl
@[simp] theorem sameAt_def {o : Oper} {s : Slots} {v : GV} : sameAt K fn o s v H = saV v (gop K fn o s H) := by
  unfold sameAt saV; rfl
@[simp] theorem natCast_lt_zero (n : Nat) : ((n : Int) < 0) = False := by simp
theorem w64 {x : Int} (h1 : -9223372036854775808 ≤ x) (h2 : x ≤ 9223372036854775807) : IntKind.i64.wrap x = x := IntWalk.i64_in x ⟨h1, h2⟩
def wbox (w : Int) : Blk := .box [.pure (.int .u64 w)]
def isBox (H : Heap) (nm : Nm) : Prop := ∃ w, H.get nm = some (wbox w) ∧ H.set nm (wbox w) = H
def wordAt (H : Heap) (nm : Nm) : Int := match H.get nm with | some (.box [.pure (.int _ w)]) => w | _ => 0
theorem isBox_get {nm : Nm} (h : isBox H nm) : H.get nm = some (wbox (wordAt H nm)) := by
  obtain ⟨w, h1, h2⟩ := h
  simp only [wordAt, h1, wbox]
theorem isBox_set {nm : Nm} (h : isBox H nm) : H.set nm (wbox (wordAt H nm)) = H := by
  obtain ⟨w, h1, h2⟩ := h
  simp only [wordAt, h1, wbox]
  exact h2
theorem isBox_lt {nm : Nm} (h : isBox H nm) : nm.1 < H.length := by
  obtain ⟨w, h1, h2⟩ := h
  exact Heap.get_lt h1
theorem Fr.ins_ins {q : Nat} {x y : Blk} : ∀ f : Fr, (f.ins q x).ins q y = f.ins q y
  | [] => by simp [Fr.ins]
  | (k, b) :: r => by
    simp only [Fr.ins]
    split
    · simp [Fr.ins]
    · rename_i h
      split
      · simp [Fr.ins]
      · rename_i h2
        simp only [Fr.ins, h, h2, if_false, Fr.ins_ins r]
@[simp] theorem Heap.set_set {nm : Nm} {x y : Blk} : ∀ {H : Heap}, (H.set nm x).set nm y = H.set nm y
  | [] => rfl
  | f :: H => by
    simp only [Heap.set]
    split
    · rename_i h; simp only [Heap.set, h, if_true, Fr.ins_ins]
    · rename_i h; simp only [Heap.set, Heap.length_set, h, if_false, Heap.set_set]
attribute [simp] Heap.length_set
@[simp] theorem Heap.get_set' {nm : Nm} {b : Blk} (h : nm.1 < H.length) : (H.set nm b).get nm = some b := Heap.get_set b h
@[simp] theorem wordAt_set {nm : Nm} {w : Int} (h : nm.1 < H.length) : wordAt (H.set nm (wbox w)) nm = w := by
  simp only [wordAt, Heap.get_set' h, wbox]
@[simp] theorem isBox_set' {nm : Nm} {w : Int} (h : nm.1 < H.length) : isBox (H.set nm (wbox w)) nm := ⟨w, Heap.get_set' h, Heap.set_set⟩
theorem isBox_up {nm : Nm} {fr : Fr} (h : isBox H nm) : isBox (fr :: H) nm := by
  have hl := isBox_lt h
  obtain ⟨w, h1, h2⟩ := h
  have : ¬ nm.1 = H.length := by omega
  exact ⟨w, by simp [this, h1], by simp [this, h2]⟩
theorem wordAt_up {nm : Nm} {fr : Fr} (h : nm.1 < H.length) : wordAt (fr :: H) nm = wordAt H nm := by
  have : ¬ nm.1 = H.length := by omega
  simp [wordAt, this]
theorem Heap.set_up {nm : Nm} {fr : Fr} {b : Blk} (h : nm.1 < H.length) : Heap.set (fr :: H) nm b = fr :: H.set nm b := by
  have : ¬ nm.1 = H.length := by omega
  simp [this]
end
end Go.Gh


/- Lists that are built by appends: how they lie in a function's frame. -/
namespace Go.Gh
set_option linter.unusedSimpArgs false
set_option linter.unusedVariables false
@[simp] theorem ne_add2 (n : Nat) : (n = n + 1 + 1) = False := by simp; omega
@[simp] theorem ne_add3 (n : Nat) : (n = n + 1 + 1 + 1) = False := by simp; omega
@[simp] theorem ne_add4 (n : Nat) : (n = n + 1 + 1 + 1 + 1) = False := by simp; omega
@[simp] theorem ne_add2' (n : Nat) : (n + 1 + 1 = n) = False := by simp; omega
@[simp] theorem ne_add3' (n : Nat) : (n + 1 + 1 + 1 = n) = False := by simp; omega
@[simp] theorem nle_add2 (n : Nat) : (n + 1 + 1 ≤ n) = False := by simp; omega
@[simp] theorem nle_add3 (n : Nat) : (n + 1 + 1 + 1 ≤ n) = False := by simp; omega
@[simp] theorem le_add2 (n : Nat) : (n ≤ n + 1 + 1) = True := by simp; omega
@[simp] theorem le_add3 (n : Nat) : (n ≤ n + 1 + 1 + 1) = True := by simp; omega
def apS (nm : Nm) (es : Nat) (rows : List (List PV)) : GV := if rows = [] then .nils else .hdr nm es rows.length 0 rows.length
def apF (key es : Nat) (rows : List (List PV)) (fr : Fr) : Fr := if rows = [] then fr else fr.ins key (.arr es rows 0 false)
theorem apS_nil {nm : Nm} {es : Nat} : apS nm es [] = .nils := rfl
theorem apF_nil {key es : Nat} {fr : Fr} : apF key es [] fr = fr := rfl
theorem Fr.ins_comm {q p : Nat} (x y : Blk) (h : q ≠ p) : ∀ f : Fr, (f.ins p y).ins q x = (f.ins q x).ins p y
  | [] => by
    simp only [Fr.ins, h, Ne.symm h, if_false]
    split
    · rename_i h1; rw [if_neg (by omega)]
    · rename_i h1; rw [if_pos (by omega)]
  | (k, b) :: r => by
    have hp : ¬ p = q := fun e => h e.symm
    by_cases h1 : p = k
    · subst h1
      by_cases h3 : q < p
      · simp [Fr.ins, h, h3, hp, show ¬ p < q by omega]
      · simp [Fr.ins, h, h3]
    · by_cases h2 : q = k
      · subst h2
        by_cases h3 : p < q
        · simp [Fr.ins, h, h3, hp, show ¬ q < p by omega]
        · simp [Fr.ins, h1, h3]
      · by_cases h3 : p < k
        · by_cases h4 : q < k
          · by_cases h5 : q < p
            · simp [Fr.ins, h, hp, h1, h2, h3, h4, h5, show ¬ p < q by omega]
            · simp [Fr.ins, h, hp, h1, h2, h3, h4, h5, show p < q by omega]
          · simp [Fr.ins, h, hp, h1, h2, h3, h4, show ¬ q < p by omega]
        · by_cases h4 : q < k
          · simp [Fr.ins, h, hp, h1, h2, h3, h4, show ¬ p < q by omega]
          · simp [Fr.ins, h1, h2, h3, h4, Fr.ins_comm x y h r]
section
variable {key es : Nat} {rows : List (List PV)} {fr : Fr} {H : Heap} {nm : Nm}
@[simp] theorem apF_get {k : Nat} (h : k ≠ key) : (apF key es rows fr).get k = fr.get k := by
  unfold apF; split
  · rfl
  · exact Fr.get_ins_other _ h _
@[simp] theorem apF_ins {k : Nat} {b : Blk} (h : k ≠ key) : (apF key es rows fr).ins k b = apF key es rows (fr.ins k b) := by
  unfold apF; split
  · rfl
  · exact Fr.ins_comm _ _ h _
theorem apF_self (h : rows ≠ []) : (apF key es rows fr).get key = some (.arr es rows 0 false) := by
  unfold apF; rw [if_neg h]; exact Fr.get_ins _ _ _
@[simp] theorem cellsO_apS : cellsO (apS nm es rows) = some [apS nm es rows] := by
  unfold apS; split <;> rfl
@[simp] theorem lowerCell_apS {l0 : Nat} (h : nm.1 ≤ l0) : lowerCell H l0 (apS nm es rows) = (apS nm es rows, H) := by
  unfold apS; split
  · rfl
  · simp [h]
@[simp] theorem lenD_apS {e : TypeId} : lenD (some (.slice e)) H (apS nm es rows) = some (rows.length : Int) := by
  unfold apS; split
  · rename_i h; subst h; rfl
  · rfl
@[simp] theorem allPure_apS {r : List GV} : allPure (apS nm es rows :: r) = none := by
  unfold apS; split <;> rfl
@[simp] theorem clean_apS_keep {l0 : Nat} (h : nm.1 ≤ l0) : clean H l0 (apS nm es rows) = apS nm es rows := by
  unfold apS; split
  · rfl
  · simp [h]
/-- One row more. -/
theorem apK_apS {l bytes : Nat} {r : List PV} {H' : Heap} (hg : rows = [] → H'.get (l, key) = none) (hg2 : rows ≠ [] → H'.get (l, key) = some (.arr es rows 0 false)) (hl : l < H'.length) (hb : (rows.length + 1) * bytes ≤ 1099511627776) :
    apK l key (apS (l, key) es rows) es bytes [r] H' = some (apS (l, key) es (rows ++ [r]), H'.set (l, key) (.arr es (rows ++ [r]) 0 false)) := by
  unfold apS
  by_cases h : rows = []
  · subst h
    have h1 := hg rfl
    have h2 : ¬ H'.length ≤ l := by omega
    have h3 : bytes ≤ 1099511627776 := by simpa using hb
    simp [h1, h2, h3]
  · have h1 := hg2 h
    simp [h, h1, hb]
@[simp] theorem apK_0 {l bytes : Nat} {r : List PV} (hl : H.length = l) (hf : fr.get key = none) (hb : (rows.length + 1) * bytes ≤ 1099511627776) :
    apK l key (apS (l, key) es rows) es bytes [r] (apF key es rows fr :: H) = some (apS (l, key) es (rows ++ [r]), apF key es (rows ++ [r]) fr :: H) := by
  subst hl
  rw [apK_apS (fun h => by subst h; simp [apF, hf]) (fun h => by simp [apF_self h]) (by simp) hb]
  simp [apF]
  split
  · rfl
  · rw [Fr.ins_ins]
@[simp] theorem apK_1 {l bytes : Nat} {r : List PV} {f0 : Fr} (hl : H.length = l) (hf : fr.get key = none) (hb : (rows.length + 1) * bytes ≤ 1099511627776) :
    apK l key (apS (l, key) es rows) es bytes [r] (f0 :: apF key es rows fr :: H) = some (apS (l, key) es (rows ++ [r]), f0 :: apF key es (rows ++ [r]) fr :: H) := by
  subst hl
  rw [apK_apS (fun h => by subst h; simp [apF, hf]) (fun h => by simp [apF_self h]) (by simp; omega) hb]
  simp [apF]
  split
  · rfl
  · rw [Fr.ins_ins]
/-- A list's end: what it is behind the call. -/
theorem cc_apS {l l0 : Nat} (hl : H.length = l) (h : l0 < l) : canon (clean (apF key es rows fr :: H) l0 (apS (l, key) es rows)) = .pure (.slice rows) := by
  subst hl
  unfold apS
  by_cases hr : rows = []
  · subst hr; simp
  · have : ¬ H.length ≤ l0 := by omega
    simp [hr, this, apF_self hr]
theorem clean1_apS {l l0 : Nat} {F : Fr} (hl : H.length = l) (h : l0 < l) (hF : rows ≠ [] → F.get key = some (.arr es rows 0 false)) : clean1 (F :: H) l0 (apS (l, key) es rows) = if rows = [] then .nils else .pure (.slice rows) := by
  subst hl
  unfold apS
  by_cases hr : rows = []
  · subst hr; simp
  · have : ¬ H.length ≤ l0 := by omega
    simp [hr, this, hF hr]
@[simp] theorem iaS_apS {i : Nat} (h : i < rows.length) : iaS (some (some es)) (apS nm es rows) (i : Int) = some (.eptr nm es rows.length i 0) := by
  unfold apS
  have hr : rows ≠ [] := fun e => by subst e; simp at h
  simp [hr, h]
end
end Go.Gh


/- The calculus: a range over a function, its rounds. -/
namespace Go.Gh
set_option linter.unusedSimpArgs false
set_option linter.unusedVariables false
/-- Behind a heap's innermost scope. -/
def hdQ (h : Heap) (k : Fr → Heap → Prop) : Prop := match h with | fr :: H1 => k fr H1 | [] => False
@[simp] theorem hdQ_cons {fr : Fr} {H : Heap} {k : Fr → Heap → Prop} : hdQ (fr :: H) k = k fr H := .trans rfl rfl
def lpQ (x : Option Blk) (k : GLoop → Prop) : Prop := match x with | some (.loop l) => k l | _ => False
@[simp] theorem lpQ_loop {l : GLoop} {k : GLoop → Prop} : lpQ (some (.loop l)) k = k l := .trans rfl rfl
section
variable (K : Ctx) (N : FuncId → Nat → List (Nat × Nat))
end
end Go.Gh


/- Tables: equations for simp. -/
namespace Go.Gh
set_option linter.unusedSimpArgs false
set_option linter.unusedVariables false
section
variable {K : Ctx} {fn : FuncId} {H : Heap}
@[simp] theorem cellsO_rhdr {nm : Nm} {es i len : Nat} : cellsO (.rhdr nm es i len) = some [.rhdr nm es i len] := .trans rfl rfl
@[simp] theorem allPure_rhdr {nm : Nm} {es i len : Nat} {r : List GV} : allPure (.rhdr nm es i len :: r) = none := .trans rfl rfl
@[simp] theorem canon1_rhdr {nm : Nm} {es i len : Nat} : canon1 (.rhdr nm es i len) = .rhdr nm es i len := .trans rfl rfl
@[simp] theorem canon_rhdr {nm : Nm} {es i len : Nat} : canon (.rhdr nm es i len) = .rhdr nm es i len := .trans rfl rfl
@[simp] theorem clean_rhdr {l0 : Nat} {nm : Nm} {es i len : Nat} : clean H l0 (.rhdr nm es i len) = if nm.1 ≤ l0 then .rhdr nm es i len else gdead := .trans rfl rfl
@[simp] theorem frzVal_rhdr {nm : Nm} {es i len : Nat} : frzVal H (.rhdr nm es i len) = (.rhdr nm es i len, H) := .trans rfl rfl
def tbLd (ag : Option Bool) (sz : Option Nat) (es i j off : Nat) (b : Option Blk) : Option GV :=
  match ag, sz, b with
  | some ag, some size, some (.mat es' rows _) =>
    if es' = es then
      (match rows[i]? with
      | some r =>
        (match r[j]? with
        | some e => if ag then (if off + size ≤ e.length then some (.pure (.agg ((e.drop off).take size))) else none) else (match e[off]? with | some p => some (.pure p) | none => none)
        | none => none)
      | none => none)
    else none
  | _, _, _ => none
@[congr] theorem tbLd_cg {ag : Option Bool} {sz : Option Nat} {es i j off : Nat} {b b' : Option Blk} (h : ∀ _ : Unit, b = b') : tbLd ag sz es i j off b = tbLd ag sz es i j off b' := by rw [h ()]
@[simp] theorem tbLd_one {sz es i j off n : Nat} {rows : List (List (List PV))} : tbLd (some false) (some sz) es i j off (some (.mat es rows n)) =
      (match rows[i]? with
      | some r =>
        (match r[j]? with
        | some e => (match e[off]? with | some p => some (.pure p) | none => none)
        | none => none)
      | none => none) := by
  simp only [tbLd, if_true]
  split <;> simp
@[simp] theorem gload_rptr {P : Program} {t : TypeId} {nm : Nm} {es i j off : Nat} : gload P t H (.rptr nm es i j off) = tbLd (tagg P t) (tsize P t) es i j off (H.get nm) := by
  unfold gload tbLd; generalize tagg P t = x; generalize tsize P t = y; simp only; generalize Heap.get H nm = z
  rcases x with _ | ag <;> rcases y with _ | sz <;> rcases z with _ | b <;> try rfl
  all_goals (cases b <;> rfl)
def tbStR (size es i j off : Nat) (ps : List PV × Heap) (nm : Nm) : Option Heap := match ps.2.get nm with
  | some (.mat es' rows n) => if es' = es then
          (match rows[i]? with
          | some r =>
            (match r[j]? with
            | some e => if off + size ≤ e.length then some (ps.2.set nm (.mat es' (rows.set i (r.set j (splice e off ps.1))) n)) else none
            | none => none)
          | none => none)
        else none
  | _ => none
@[simp] theorem gstore_rptr {P : Program} {t : TypeId} {nm : Nm} {es i j off : Nat} {v : GV} : gstore P t H (.rptr nm es i j off) v = stV (tsize P t) (cellsO v) fun size cells => tbStR size es i j off (pureCells H cells) nm := by
  unfold gstore stV
  cases tsize P t with
  | none => rfl
  | some size =>
    cases cellsO v with
    | none => rfl
    | some cells => rfl
def tbSt (size es i j off : Nat) (ps : List PV) (H : Heap) (nm : Nm) (b : Option Blk) : Option Heap := match b with
  | some (.mat es' rows n) => if es' = es then
          (match rows[i]? with
          | some r =>
            (match r[j]? with
            | some e => if off + size ≤ e.length then some (H.set nm (.mat es' (rows.set i (r.set j (splice e off ps))) n)) else none
            | none => none)
          | none => none)
        else none
  | _ => none
@[congr] theorem tbSt_cg {size es i j off : Nat} {ps : List PV} {nm : Nm} {b b' : Option Blk} (h : ∀ _ : Unit, b = b') : tbSt size es i j off ps H nm b = tbSt size es i j off ps H nm b' := by rw [h ()]
@[simp] theorem tbSt_mat {size es i j off n : Nat} {ps : List PV} {nm : Nm} {rows : List (List (List PV))} : tbSt size es i j off ps H nm (some (.mat es rows n)) =
          (match rows[i]? with
          | some r =>
            (match r[j]? with
            | some e => if off + size ≤ e.length then some (H.set nm (.mat es (rows.set i (r.set j (splice e off ps))) n)) else none
            | none => none)
          | none => none) := by
  simp only [tbSt, if_true]
@[simp] theorem tbStR_def {size es i j off : Nat} {ps : List PV} {nm : Nm} : tbStR size es i j off (ps, H) nm = tbSt size es i j off ps H nm (H.get nm) := by
  unfold tbStR tbSt; rfl
@[simp] theorem leads_nil {nm : Nm} : leads nm [] = false := .trans rfl rfl
@[simp] theorem leads_hdr {nm m : Nm} {es top lo len : Nat} {r : List GV} : leads nm (.hdr m es top lo len :: r) = (decide (m = nm) || leads nm r) := .trans rfl rfl
@[simp] theorem leads_pure {nm : Nm} {p : PV} {r : List GV} : leads nm (.pure p :: r) = leads nm r := .trans rfl rfl
@[simp] theorem leads_nils {nm : Nm} {r : List GV} : leads nm (.nils :: r) = leads nm r := .trans rfl rfl
def tbRow (H : Heap) (bn : Nm) (key es : Nat) (r : List (List PV)) (b : Option Blk) : Option (Nat × Heap) := match b with
  | none => some (0, H.set (bn.1, key) (.mat es [r] 0))
  | some (.mat es' rows n) =>
    (match H.get bn with
    | some (.box cs) => if es' = es ∧ leads (bn.1, key) cs = true then some (rows.length, H.set (bn.1, key) (.mat es (rows ++ [r]) n)) else none
    | _ => none)
  | _ => none
@[congr] theorem tbRow_cg {bn : Nm} {key es : Nat} {r : List (List PV)} {b b' : Option Blk} (h : ∀ _ : Unit, b = b') : tbRow H bn key es r b = tbRow H bn key es r b' := by rw [h ()]
@[simp] theorem tbRow_none {bn : Nm} {key es : Nat} {r : List (List PV)} : tbRow H bn key es r none = some (0, H.set (bn.1, key) (.mat es [r] 0)) := .trans rfl rfl
def tbRowC (H : Heap) (bn : Nm) (key es es' : Nat) (r : List (List PV)) (rows : List (List (List PV))) (n : Nat) (b : Option Blk) : Option (Nat × Heap) := match b with
    | some (.box cs) => if es' = es ∧ leads (bn.1, key) cs = true then some (rows.length, H.set (bn.1, key) (.mat es (rows ++ [r]) n)) else none
    | _ => none
@[congr] theorem tbRowC_cg {bn : Nm} {key es es' n : Nat} {r : List (List PV)} {rows : List (List (List PV))} {b b' : Option Blk} (h : ∀ _ : Unit, b = b') : tbRowC H bn key es es' r rows n b = tbRowC H bn key es es' r rows n b' := by rw [h ()]
@[simp] theorem tbRowC_box {bn : Nm} {key es es' n : Nat} {r : List (List PV)} {rows : List (List (List PV))} {cs : List GV} : tbRowC H bn key es es' r rows n (some (.box cs)) =
    if es' = es ∧ leads (bn.1, key) cs = true then some (rows.length, H.set (bn.1, key) (.mat es (rows ++ [r]) n)) else none := .trans rfl rfl
@[simp] theorem tbRow_mat {bn : Nm} {key es es' n : Nat} {r : List (List PV)} {rows : List (List (List PV))} : tbRow H bn key es r (some (.mat es' rows n)) = tbRowC H bn key es es' r rows n (H.get bn) := by
  unfold tbRow tbRowC; rfl
@[simp] theorem addRow_def {bn : Nm} {key es : Nat} {r : List (List PV)} : addRow H bn key es r = if H.length ≤ bn.1 then none else tbRow H bn key es r (H.get (bn.1, key)) := by
  unfold addRow tbRow; rfl
def tbTell (H : Heap) (bytes : Nat) (s : GV) (nm : Nm) (es i len : Nat) (b : Option Blk) : Option (GV × Heap) := match b with
  | some (.mat es' rows n) =>
    if es' = es ∧ i = n ∧ n < rows.length ∧ (rows.getD n []).length = len ∧ (n + 1) * bytes ≤ 1099511627776 then
      match s with
      | .nils => if n = 0 then some (.hdr nm 1 1 0 1, H.set nm (.mat es rows 1)) else none
      | .hdr nm' es1 top lo ln => if nm' = nm ∧ es1 = 1 ∧ top = n ∧ lo = 0 ∧ ln = n then some (.hdr nm 1 (n + 1) 0 (n + 1), H.set nm (.mat es rows (n + 1))) else none
      | _ => none
    else none
  | _ => none
@[congr] theorem tbTell_cg {bytes : Nat} {s : GV} {nm : Nm} {es i len : Nat} {b b' : Option Blk} (h : ∀ _ : Unit, b = b') : tbTell H bytes s nm es i len b = tbTell H bytes s nm es i len b' := by rw [h ()]
@[simp] theorem tbTell_nils {bytes : Nat} {nm : Nm} {es es' i len n : Nat} {rows : List (List (List PV))} : tbTell H bytes .nils nm es i len (some (.mat es' rows n)) =
    if es' = es ∧ i = n ∧ n < rows.length ∧ (rows.getD n []).length = len ∧ (n + 1) * bytes ≤ 1099511627776 then (if n = 0 then some (.hdr nm 1 1 0 1, H.set nm (.mat es rows 1)) else none) else none := .trans rfl rfl
@[simp] theorem tbTell_hdr {bytes : Nat} {nm nm' : Nm} {es es' i len n es1 top lo ln : Nat} {rows : List (List (List PV))} : tbTell H bytes (.hdr nm' es1 top lo ln) nm es i len (some (.mat es' rows n)) =
    if es' = es ∧ i = n ∧ n < rows.length ∧ (rows.getD n []).length = len ∧ (n + 1) * bytes ≤ 1099511627776 then (if nm' = nm ∧ es1 = 1 ∧ top = n ∧ lo = 0 ∧ ln = n then some (.hdr nm 1 (n + 1) 0 (n + 1), H.set nm (.mat es rows (n + 1))) else none) else none := .trans rfl rfl
@[simp] theorem tellRow_def {bytes : Nat} {s : GV} {nm : Nm} {es i len : Nat} : tellRow H bytes s nm es i len = tbTell H bytes s nm es i len (H.get nm) := by
  unfold tellRow tbTell; rfl
def tbGap (ta : Option (Option Nat × Option Nat × Option Nat)) (k : Nat → Nat → Option (GV × Heap)) : Option (GV × Heap) :=
  match ta with
  | some (some size, some bytes, zs) => if zs = some size ∧ 0 < size ∧ 0 < bytes ∧ bytes ≤ 1048576 then k size bytes else none
  | _ => none
@[congr] theorem tbGap_cg {ta ta' : Option (Option Nat × Option Nat × Option Nat)} {k : Nat → Nat → Option (GV × Heap)} (h : ∀ _ : Unit, ta = ta') : tbGap ta k = tbGap ta' k := by rw [h ()]
@[simp] theorem tbGap_some {size bytes : Nat} {zs : Option Nat} {k : Nat → Nat → Option (GV × Heap)} : tbGap (some (some size, some bytes, zs)) k = if zs = some size ∧ 0 < size ∧ 0 < bytes ∧ bytes ≤ 1048576 then k size bytes else none := .trans rfl rfl
def tbLay (bn : Nm) (key size bytes : Nat) (x : Option (List (List PV) × Heap)) : Option (GV × Heap) := match x with
  | some (xs, H) => if xs.all (fun r => r.length == size) && !xs.isEmpty && decide (xs.length * bytes ≤ 1099511627776) then
      (match addRow H bn key size xs with | some (i, H) => some (.rhdr (bn.1, key) size i xs.length, H) | none => none) else none
  | none => none
@[congr] theorem tbLay_cg {bn : Nm} {key size bytes : Nat} {x x' : Option (List (List PV) × Heap)} (h : ∀ _ : Unit, x = x') : tbLay bn key size bytes x = tbLay bn key size bytes x' := by rw [h ()]
@[simp] theorem tbLay_some {bn : Nm} {key size bytes : Nat} {xs : List (List PV)} : tbLay bn key size bytes (some (xs, H)) = if xs.all (fun r => r.length == size) && !xs.isEmpty && decide (xs.length * bytes ≤ 1099511627776) then
      (match addRow H bn key size xs with | some (i, H) => some (.rhdr (bn.1, key) size i xs.length, H) | none => none) else none := .trans rfl rfl
@[simp] theorem layRow_nils {bn : Nm} {key size bytes : Nat} {x : GV} : layRow H bn key size bytes .nils x = tbLay bn key size bytes (gelems H x) := by
  unfold layRow tbLay
  cases gelems H x <;> rfl
theorem gappendR_def {bn : Nm} {key : Nat} {t : TypeId} {s x : GV} : gappendR K H bn key t s x = tbGap (tapp K.P t) fun size bytes => match rowLit x with | some (nm, es, i, len) => if size = 1 then tellRow H bytes s nm es i len else none | none => layRow H bn key size bytes s x := by
  unfold gappendR tbGap tapp
  cases telem K.P t with
  | none => rfl
  | some e =>
    simp only [Option.map_some]
    cases tsize K.P e with
    | none => rfl
    | some size =>
      cases tbytes K.P e with
      | none => rfl
      | some bytes =>
        simp only [Bool.and_eq_true, decide_eq_true_eq, and_assoc]
        rfl
@[simp] theorem gappendR_lits {bn : Nm} {key : Nat} {t : TypeId} {s : GV} {nm : Nm} {es i len : Nat} : gappendR K H bn key t s (.lits [[.rhdr nm es i len]]) = tbGap (tapp K.P t) fun size bytes => if size = 1 then tellRow H bytes s nm es i len else none := by
  rw [gappendR_def]; rfl
@[simp] theorem gappendR_pure {bn : Nm} {key : Nat} {t : TypeId} {s : GV} {p : PV} : gappendR K H bn key t s (.pure p) = tbGap (tapp K.P t) fun size bytes => layRow H bn key size bytes s (.pure p) := by
  rw [gappendR_def]; rfl
@[simp] theorem gappendR_hdr {bn : Nm} {key : Nat} {t : TypeId} {s : GV} {nm : Nm} {es top lo len : Nat} : gappendR K H bn key t s (.hdr nm es top lo len) = tbGap (tapp K.P t) fun size bytes => layRow H bn key size bytes s (.hdr nm es top lo len) := by
  rw [gappendR_def]; rfl
end
end Go.Gh

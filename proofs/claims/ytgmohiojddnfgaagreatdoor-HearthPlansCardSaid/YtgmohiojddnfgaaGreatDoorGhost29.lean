/- The interpreter without fuel: its limit. -/
import Derived.Test.YtgmohiojddnfgaaGreatDoorGhost28
namespace Go.Gh
set_option linter.unusedSimpArgs false
set_option linter.unusedVariables false

section
variable (K : Ctx) {rec : Rec} {F : Nat → Rec}

/-- What is told is told from some fuel on. -/
def Evtl {α : Type} (F : Nat → Rec) (X : Rec → Option α) (r : α) : Prop := ∃ N, ∀ n, N ≤ n → X (F n) = some r

theorem Evtl.const {α : Type} {x : Option α} {r : α} (h : x = some r) : Evtl F (fun _ => x) r := ⟨0, fun _ _ => h⟩

def Lim (rec : Rec) (F : Nat → Rec) : Prop := ∀ fn c st r, rec fn c st = some r → Evtl F (fun rec => rec fn c st) r

variable (hF : Lim rec F)
include hF

theorem gcall0_lim {f : FuncId} {args : List GV} {c : Nat} {H : Heap} {r : GV × Heap} (h : gcall0 K rec f args c H = some r) : Evtl F (fun rec => gcall0 K rec f args c H) r := by
  unfold gcall0 at h
  split at h
  · cases h
  · rename_i fn hfn
    split at h
    · cases h
    · rename_i code hcode
      split at h
      · cases h
      · rename_i hc
        cases hr : rec f code ⟨slotsOf 0 (args.map canon), [] :: H, fn.ntmps⟩ with
        | none => rw [hr] at h; cases h
        | some x =>
          rw [hr] at h
          obtain ⟨N, hN⟩ := hF _ _ _ _ hr
          refine ⟨N, fun n hn => ?_⟩
          have := hN n hn
          simp only at this
          simp only [gcall0, hfn, hcode, hc, if_false, this]
          exact h

theorem gborrow_lim {f : FuncId} {args : List GV} {c : Nat} {H : Heap} {r : GV × Heap} (h : gborrow K rec f args c H = some r) : Evtl F (fun rec => gborrow K rec f args c H) r := by
  unfold gborrow at h
  split at h
  · cases h
  · rename_i hn
    split at h
    · rename_i v H0 hg
      obtain ⟨N, hN⟩ := gcall0_lim K hF hg
      refine ⟨N, fun n hn' => ?_⟩
      have := hN n hn'
      simp only at this
      simp only [gborrow, hn, this]
      exact h
    · cases h
  · rename_i nm hn
    split at h
    · rename_i cs hbx
      split at h
      · cases h
      · rename_i hcs
        split at h
        · rename_i v H0 hg
          obtain ⟨N, hN⟩ := gcall0_lim K hF hg
          refine ⟨N, fun n hn' => ?_⟩
          have := hN n hn'
          simp only at this
          simp only [gborrow, hn, hbx, hcs, if_false, this]
          exact h
        · cases h
    · cases h

theorem gcallN_lim {f : FuncId} {args : List GV} {c : Nat} {H : Heap} {r : GV × Heap} (h : gcallN K rec f args c H = some r) : Evtl F (fun rec => gcallN K rec f args c H) r := by
  unfold gcallN at h ⊢
  split at h
  · rename_i hc
    simp only [hc, if_true]
    exact .const h
  · rename_i hc
    simp only [hc, if_false]
    split at h
    · rename_i hb
      simp only [hb, if_true]
      exact gborrow_lim K hF h
    · rename_i hb
      simp only [hb, if_false]
      split at h
      · rename_i hf
        simp only [hf, if_true]
        exact gcall0_lim K hF h
      · rename_i hf
        simp only [hf, if_false]
        exact gcall0_lim K hF h

theorem gcall_lim {f : FuncId} {args : List GV} {c : Nat} {H : Heap} {r : GV × Heap} (h : gcall K rec f args c H = some r) : Evtl F (fun rec => gcall K rec f args c H) r := by
  unfold gcall at h ⊢
  by_cases hc : K.cln f = true
  · rw [if_pos hc] at h
    simp only [hc, if_true]
    cases he : K.ext f with
    | some e => rw [he] at h; exact .const h
    | none => rw [he] at h; exact gcallN_lim K hF h
  · rw [if_neg hc] at h
    simp only [hc, if_false]
    exact gcallN_lim K hF h

theorem ground_lim {nm : Nm} {args : List GV} {H : Heap} {r : GV × Heap} (h : ground rec nm args H = some r) : Evtl F (fun rec => ground rec nm args H) r := by
  unfold ground at h
  split at h
  · rename_i l hl
    split at h
    · rename_i hs
      split at h
      · rename_i s hp
        split at h
        · rename_i st ha
          obtain ⟨N1, h1⟩ := hF _ _ _ _ ha
          split at h
          · rename_i fr H1 hst
            split at h
            · rename_i l1 hl1
              split at h
              · cases h
              · rename_i hl1s
                cases hb : rec l.fn l.body ⟨st.s, fr :: Heap.set H1 nm (.loop { l1 with state := .busy }), l.nt⟩ with
                | none => rw [hb] at h; cases h
                | some x =>
                  rw [hb] at h
                  obtain ⟨N2, h2⟩ := hF _ _ _ _ hb
                  refine ⟨max N1 N2, fun n hn => ?_⟩
                  have e1 := h1 n (by omega)
                  have e2 := h2 n (by omega)
                  simp only at e1 e2
                  simp only [ground, hl, hs, hp, e1, hst, hl1, hl1s, if_true, if_false, e2]
                  exact h
            · cases h
          · cases h
        · cases h
      · cases h
    · cases h
  · cases h

theorem gcallF_lim {f : GV} {args : List GV} {c : Nat} {H : Heap} {r : GV × Heap} (h : gcallF K rec f args c H = some r) : Evtl F (fun rec => gcallF K rec f args c H) r := by
  unfold gcallF at h
  split at h
  · exact gcall_lim K hF h
  · exact gcall_lim K hF h
  · cases h

theorem gcallee_lim {f : GV} {args : List GV} {c : Nat} {H : Heap} {r : GV × Heap} (h : gcallee K rec f args c H = some r) : Evtl F (fun rec => gcallee K rec f args c H) r := by
  unfold gcallee at h ⊢
  split at h
  · exact ground_lim hF h
  · exact gcallF_lim K hF h

theorem gstep_lim {fn : FuncId} {o : Oper} {s : Slots} {H : Heap} {r : GV × Heap} (h : gstep K rec fn o s H = some r) : Evtl F (fun rec => gstep K rec fn o s H) r := by
  unfold gstep at h ⊢
  split at h
  · rename_i f args hg
    cases hl : K.lift fn (o.dst.getD 0) with
    | none =>
      rw [hl] at h
      simp only at h ⊢
      exact gcallee_lim K hF h
    | some t =>
      rw [hl] at h
      simp only at h ⊢
      split at h
      · rename_i x hx
        obtain ⟨N, hN⟩ := gcallee_lim K hF hx
        refine ⟨N, fun n hn => ?_⟩
        have := hN n hn
        simp only at this
        simp only [this]
        exact h
      · cases h
  · exact .const h

theorem gops_lim {fn : FuncId} {all : List Oper} : ∀ {ops : List Oper} {st st' : GSt}, gops K rec fn all ops st = some st' → Evtl F (fun rec => gops K rec fn all ops st) st'
  | [], st, st', h => .const h
  | o :: r, st, st', h => by
    simp only [gops] at h
    split at h
    · rename_i hw
      split at h
      · rename_i st1 hp
        obtain ⟨N, hN⟩ := gops_lim h
        refine ⟨N, fun n hn => ?_⟩
        simp only [gops, hw, hp]
        exact hN n hn
      · cases h
    · rename_i hw
      split at h
      · rename_i v H hs
        obtain ⟨N1, h1⟩ := gstep_lim K hF hs
        split at h
        · rename_i st1 hp
          obtain ⟨N, hN⟩ := gops_lim h
          refine ⟨max N1 N, fun n hn => ?_⟩
          have e1 := h1 n (by omega)
          simp only at e1
          simp only [gops, hw, e1, hp]
          exact hN n (by omega)
        · cases h
      · cases h
    · cases h

theorem gdraw_lim {fn : FuncId} {all : List Oper} {pre : Array Nat} : ∀ {ops : List Oper} {i : Nat} {wl : List (Nat × Heap)} {rl : List RLog} {hb : Heap} {st st' : GSt}, gdraw K rec fn all pre i ops wl rl hb st = some st' →
    Evtl F (fun rec => gdraw K rec fn all pre i ops wl rl hb st) st'
  | [], i, wl, rl, hb, st, st', h => .const h
  | o :: r, i, wl, rl, hb, st, st', h => by
    simp only [gdraw] at h
    split at h
    · rename_i hw
      split at h
      · rename_i st1 hp
        obtain ⟨N, hN⟩ := gdraw_lim h
        refine ⟨N, fun n hn => ?_⟩
        simp only [gdraw, hw, hp]
        exact hN n hn
      · cases h
    · rename_i hw
      split at h
      · rename_i hpure
        split at h
        · rename_i v Hx hop
          split at h
          · rename_i st1 hput
            split at h
            · rename_i hR
              split at h
              · rename_i hall
                obtain ⟨N, hN⟩ := gdraw_lim h
                refine ⟨N, fun n hn => ?_⟩
                simp only [gdraw, hw, hpure, hop, hput, hR, hall, if_true]
                exact hN n hn
              · cases h
            · rename_i hR
              obtain ⟨N, hN⟩ := gdraw_lim h
              refine ⟨N, fun n hn => ?_⟩
              simp only [gdraw, hw, hpure, hop, hput, hR, if_true, if_false, Bool.false_eq_true]
              exact hN n hn
          · cases h
        · cases h
      · rename_i hpure
        split at h
        · rename_i v H hs
          obtain ⟨N1, h1⟩ := gstep_lim K hF hs
          split at h
          · rename_i st1 hput
            split at h
            · rename_i ha
              obtain ⟨N, hN⟩ := gdraw_lim h
              refine ⟨max N1 N, fun n hn => ?_⟩
              have e1 := h1 n (by omega)
              simp only at e1
              simp only [gdraw, hw, hpure, e1, hput, ha, if_true, if_false, Bool.false_eq_true]
              exact hN n (by omega)
            · rename_i ha
              split at h
              · rename_i hall
                obtain ⟨N, hN⟩ := gdraw_lim h
                refine ⟨max N1 N, fun n hn => ?_⟩
                have e1 := h1 n (by omega)
                simp only at e1
                simp only [gdraw, hw, hpure, e1, hput, ha, hall, if_true, if_false, Bool.false_eq_true]
                exact hN n (by omega)
              · cases h
          · cases h
        · cases h
    · cases h

theorem gbody_lim {fn : FuncId} {c : Code} {st : GSt} {r : GX × GSt} (h : gbody K rec fn c st = some r) : Evtl F (fun rec => gbody K rec fn c st) r := by
  unfold gbody at h
  split at h
  · exact .const h
  · exact .const h
  · rename_i id ops
    cases hg : gops K rec fn ops.toList ops.toList st with
    | none => rw [hg] at h; cases h
    | some st1 =>
      rw [hg] at h
      obtain ⟨N, hN⟩ := gops_lim K hF hg
      refine ⟨N, fun n hn => ?_⟩
      have := hN n hn
      simp only at this
      simp only [gbody, this]
      exact h
  · rename_i id ops
    split at h
    · rename_i hd
      cases hg : gdraw K rec fn ops.toList (Region.before ops) 0 ops.toList [] [] st.h st with
      | none => rw [hg] at h; cases h
      | some st1 =>
        rw [hg] at h
        obtain ⟨N, hN⟩ := gdraw_lim K hF hg
        refine ⟨N, fun n hn => ?_⟩
        have := hN n hn
        simp only at this
        simp only [gbody, hd, this, if_true]
        exact h
    · cases h
  · rename_i a b
    cases ha : rec fn a st with
    | none => rw [ha] at h; cases h
    | some x =>
      obtain ⟨e, st1⟩ := x
      obtain ⟨N1, h1⟩ := hF _ _ _ _ ha
      rw [ha] at h
      cases e with
      | normal =>
        simp only at h
        obtain ⟨N2, h2⟩ := hF _ _ _ _ h
        refine ⟨max N1 N2, fun n hn => ?_⟩
        have e1 := h1 n (by omega)
        have e2 := h2 n (by omega)
        simp only at e1 e2
        simp only [gbody, e1, e2]
      | exit id => exact ⟨N1, fun n hn => by have e1 := h1 n hn; simp only at e1; simp only [gbody, e1]; exact h⟩
      | ret => exact ⟨N1, fun n hn => by have e1 := h1 n hn; simp only at e1; simp only [gbody, e1]; exact h⟩
  · rename_i c x y
    split at h
    · rename_i b hb
      cases b with
      | true =>
        obtain ⟨N, hN⟩ := hF _ _ _ _ (by simpa using h)
        exact ⟨N, fun n hn => by have := hN n hn; simp only at this; simp only [gbody, hb, if_true, this]⟩
      | false =>
        obtain ⟨N, hN⟩ := hF _ _ _ _ (by simpa using h)
        exact ⟨N, fun n hn => by have := hN n hn; simp only at this; simp only [gbody, hb, Bool.false_eq_true, if_false, this]⟩
    · cases h
  · rename_i id c
    cases hc : rec fn c st with
    | none => rw [hc] at h; cases h
    | some x =>
      obtain ⟨N, hN⟩ := hF _ _ _ _ hc
      rw [hc] at h
      exact ⟨N, fun n hn => by have := hN n hn; simp only at this; simp only [gbody, this]; exact h⟩
  · rename_i c
    simp only at h
    cases hc : rec fn c { st with s := keepO ((K.ann fn (firstRegion c)).map (·.1)) st.s, h := [] :: st.h } with
    | none => rw [hc] at h; cases h
    | some x =>
      obtain ⟨e, st1⟩ := x
      obtain ⟨N1, h1⟩ := hF _ _ _ _ hc
      rw [hc] at h
      cases e with
      | normal =>
        simp only at h
        cases hs : gnext K fn c st1 with
        | none => rw [hs] at h; cases h
        | some st2 =>
          rw [hs] at h
          simp only at h
          obtain ⟨N2, h2⟩ := hF _ _ _ _ h
          refine ⟨max N1 N2, fun n hn => ?_⟩
          have e1 := h1 n (by omega)
          have e2 := h2 n (by omega)
          simp only at e1 e2
          simp only [gbody, e1, hs, e2]
      | exit id => exact ⟨N1, fun n hn => by have e1 := h1 n hn; simp only at e1; simp only [gbody, e1]; exact h⟩
      | ret => exact ⟨N1, fun n hn => by have e1 := h1 n hn; simp only at e1; simp only [gbody, e1]; exact h⟩
  · obtain ⟨N, hN⟩ := hF _ _ _ _ h
    exact ⟨N, fun n hn => by have := hN n hn; simp only at this; simp only [gbody, this]⟩
  · exact .const h
  · exact .const h
  · rename_i f ps assign body
    simp only at h
    split at h
    · rename_i nm H hn
      cases hg : gcallF K rec (ev st.s f) [.yield nm] 0 H with
      | none => rw [hg] at h; cases h
      | some x =>
        obtain ⟨N, hN⟩ := gcallF_lim K hF hg
        rw [hg] at h
        refine ⟨N, fun n hnn => ?_⟩
        have := hN n hnn
        simp only at this
        simp only [gbody, hn, this]
        exact h
    · cases h
  · cases h
end

section
variable (K : Ctx)

theorem gexec_stable : ∀ m, Lim (gexec K m) (gexec K)
  | 0 => fun fn c st r h => by simp [gexec] at h
  | m + 1 => fun fn c st r h => by
    obtain ⟨N, hN⟩ := gbody_lim K (gexec_stable m) h
    refine ⟨N + 1, fun n hn => ?_⟩
    obtain ⟨k, rfl⟩ : ∃ k, n = k + 1 := ⟨n - 1, by omega⟩
    exact hN k (by omega)

open Classical in
noncomputable def geval : Rec := fun fn c st => if h : ∃ r, Evtl (gexec K) (fun rec => rec fn c st) r then some (Classical.choose h) else none

theorem geval_iff {fn : FuncId} {c : Code} {st : GSt} {r : GX × GSt} : geval K fn c st = some r ↔ Evtl (gexec K) (fun rec => rec fn c st) r := by
  unfold geval
  constructor
  · intro h
    split at h
    · rename_i hx
      cases h
      exact Classical.choose_spec hx
    · cases h
  · intro h
    have hx : ∃ r, Evtl (gexec K) (fun rec => rec fn c st) r := ⟨r, h⟩
    rw [dif_pos hx]
    obtain ⟨N1, h1⟩ := h
    obtain ⟨N2, h2⟩ := Classical.choose_spec hx
    have e1 := h1 (max N1 N2) (by omega)
    have e2 := h2 (max N1 N2) (by omega)
    rw [← e2, ← e1]

/-- It is a fixed point. -/
theorem geval_eq (fn : FuncId) (c : Code) (st : GSt) : geval K fn c st = gbody K (geval K) fn c st := by
  refine Option.ext fun r => ?_
  constructor
  · intro h
    obtain ⟨N, hN⟩ := (geval_iff K).1 h
    have h1 : gbody K (gexec K N) fn c st = some r := hN (N + 1) (by omega)
    have hL : Lim (gexec K N) (fun _ => geval K) := fun fn c st r h => ⟨0, fun _ _ => (geval_iff K).2 (gexec_stable K N fn c st r h)⟩
    obtain ⟨M, h2⟩ := gbody_lim K hL h1
    exact h2 M (Nat.le_refl _)
  · intro h
    obtain ⟨N, hN⟩ := gbody_lim K (F := gexec K) (fun fn c st r h => (geval_iff K).1 h) h
    refine (geval_iff K).2 ⟨N + 1, fun n hn => ?_⟩
    obtain ⟨k, rfl⟩ : ∃ k, n = k + 1 := ⟨n - 1, by omega⟩
    exact hN k (by omega)

theorem geval_sound (hK : CtxOk K) : RecOk K.P (geval K) := fun fn c st e st' h => by
  obtain ⟨N, hN⟩ := (geval_iff K).1 h
  exact gexec_sound K hK N fn c st e st' (hN N (Nat.le_refl _))
end
end Go.Gh

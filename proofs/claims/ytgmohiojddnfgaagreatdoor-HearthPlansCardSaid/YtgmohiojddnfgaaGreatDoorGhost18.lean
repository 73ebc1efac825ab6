/- States, scopes, marks. -/
import Derived.Test.YtgmohiojddnfgaaGreatDoorGhost17
import Derived.RangeFuncRecord
import Derived.RangeFuncNested
import Derived.OrdersIn
namespace Go.Gh
set_option linter.unusedSimpArgs false
set_option linter.unusedVariables false


theorem CallsIn.fw {r r' : Option Nat} {n : Nat} {P : Program} {f : FuncId} {args : Array Value} {w : World} {R : Ending → World → Prop} (h : CallsIn (Fw r) n P f args w R) : CallsIn (Fw r') n P f args w R := h

def exitOf : GX → Exit
  | .normal => .normal
  | .exit id => .exit id
  | .ret => .ret

/-- The marks of an activation. -/
structure DefOk (base : Nat) (w : World) (S : Nat → Prop) (μ : Mu) (ds : List Deferred) : Prop where
  each : ∀ d ∈ ds, ∃ q, d.target = .collected q ∧ base ≤ q ∧ w.heap[q]? = some (.deferred (some [])) ∧ ¬ S q ∧ ∀ nm t, μ nm t ≠ some q
  apart : ds.Pairwise fun d d' => d.target ≠ d'.target

structure StOk (base : Nat) (r : Option Nat) (w : World) (S : Nat → Prop) (μ : Mu) (st : GSt) (a : Act) : Prop where
  heap : HRel w S μ st.h
  slots : ∀ t, VRel w S μ (st.h.length - 1) (a.tmps.getD t undef) (look st.s t)
  nt : a.tmps.size = st.nt
  pos : 0 < st.h.length
  low : base ≤ w.heap.size
  defs : DefOk base w S μ a.defers
  round : ∀ l, r = some l → ∃ q : Loop, w.heap[l]? = some (.loop q)

def Post (base : Nat) (r : Option Nat) (st : GSt) (w : World) (S : Nat → Prop) (μ : Mu) (e : GX) (st' : GSt) : Exit → Act → World → Prop := fun e' a' w' =>
  e' = exitOf e ∧ st'.h.length = st.h.length ∧ st'.nt = st.nt ∧ ∃ S' μ', StOk base r w' S' μ' st' a' ∧ Ev (st.h.length - 2) w S μ w' S' μ'

def RecOk (P : Program) (rec : Rec) : Prop := ∀ fn c st e st', rec fn c st = some (e, st') → ∀ base r w S μ a, StOk base r w S μ st a → c.wpIn (Fw r) 0 P (Post base r st w S μ e st') a w

section
variable {w w' : World} {S S' : Nat → Prop} {μ μ' : Mu} {H : Heap} {P : Program} {ℓ base : Nat} {r : Option Nat}

theorem DefOk.ev {ds : List Deferred} (h : DefOk base w S μ ds) (e : Ev ℓ w S μ w' S' μ') : DefOk base w' S' μ' ds where
  each := fun d hd => by
    obtain ⟨q, h1, h2, h3, h4, h5⟩ := h.each d hd
    have hlt : q < w.heap.size := (Array.getElem?_eq_some_iff.1 h3).1
    refine ⟨q, h1, h2, ?_, fun hs => ?_, fun nm t hm => ?_⟩
    · rw [e.same q hlt (.inr h5)]; exact h3
    · rcases e.snew q hs hlt with h | ⟨nm, t, h⟩
      · exact h4 h
      · exact h5 _ _ h
    · obtain ⟨nm', t', h'⟩ := e.own nm t q hm hlt
      exact h5 _ _ h'
  apart := h.apart

theorem round_ev (h : ∀ l, r = some l → ∃ q : Loop, w.heap[l]? = some (.loop q)) (e : Ev ℓ w S μ w' S' μ') : ∀ l, r = some l → ∃ q : Loop, w'.heap[l]? = some (.loop q) := fun l hl => by
  obtain ⟨q, hq⟩ := h l hl
  exact e.lp l q hq

theorem slots_ev {a : Act} {s : Slots} {k k' : Nat} (h : ∀ t, VRel w S μ k (a.tmps.getD t undef) (look s t)) (hH : HRel w S μ H) (e : Ev ℓ w S μ w' S' μ') (hk : k ≤ ℓ) (hk' : k ≤ k') :
    ∀ t, VRel w' S' μ' k' (a.tmps.getD t undef) (look s t) := fun t => (e.val hH.slt hk (h t)).up hk'

theorem look_cons (d : Nat) (v : GV) (s : Slots) (t : Nat) : look ((d, v) :: s) t = if t = d then v else look s t := rfl

theorem put_getD (a : Act) (d : Nat) (u : Value) (t : Nat) (hd : d < a.tmps.size) : (a.put (some d) u).tmps.getD t undef = if t = d then u else a.tmps.getD t undef := by
  simp only [Act.put, Array.getD_eq_getD_getElem?]
  by_cases h : t = d
  · subst h; simp [hd]
  · rw [if_neg h, Array.getElem?_setIfInBounds_ne (Ne.symm h)]

theorem put_slots {a : Act} {s : Slots} {k nt : Nat} {dst : Option Tmp} {u : Value} {v : GV} (h : ∀ t, VRel w S μ k (a.tmps.getD t undef) (look s t)) (hn : a.tmps.size = nt)
    (hv : VRel w S μ k u v) {st st' : GSt} (hst : st.s = s) (hnt : st.nt = nt) (hp : st.put dst v = some st') :
    (∀ t, VRel w S μ k ((a.put dst u).tmps.getD t undef) (look st'.s t)) ∧ (a.put dst u).tmps.size = nt ∧ st'.nt = nt ∧ st'.h = st.h ∧ (a.put dst u).defers = a.defers := by
  cases dst with
  | none =>
    simp only [GSt.put, Option.some.injEq] at hp; subst hp; subst hst
    exact ⟨h, hn, hnt, rfl, rfl⟩
  | some d =>
    simp only [GSt.put] at hp
    split at hp
    · rename_i hd
      simp only [Option.some.injEq] at hp; subst hp; subst hst; subst hnt
      refine ⟨fun t => ?_, by simpa [Act.put] using hn, rfl, rfl, rfl⟩
      rw [put_getD a d u t (by rw [hn]; exact hd), look_cons]
      split
      · exact hv
      · exact h t
    · cases hp

theorem undef_rel {k : Nat} : VRel w S μ k undef gundef := .pure _ _ (.tuple #[] [] rfl (by simp))

theorem wanted_ok {all : List Oper} {s : Slots} {o : Oper} {b : Bool} {a : Act} {k : Nat} (h : ∀ t, VRel w S μ k (a.tmps.getD t undef) (look s t)) (hw : wantedG all s o = some b) :
    Region.wanted o (yielded all.toArray a.tmps) = b := by
  unfold wantedG at hw
  unfold Region.wanted
  cases hg : o.guard with
  | none => simpa [hg] using hw
  | some x =>
    obtain ⟨j, want⟩ := x
    simp only [hg] at hw ⊢
    split at hw
    · rename_i oj hj
      split at hw
      · rename_i d hd
        have hv := h d
        split at hw
        · rename_i c hc
          rw [hc] at hv
          have e := hv.bool_inv
          have hin : a.tmps[d]? = some (.bool c) := by
            rw [Array.getD_eq_getD_getElem?] at e
            cases ht : a.tmps[d]? with
            | none => rw [ht] at e; simp [undef] at e
            | some v => rw [ht] at e; simpa using e
          simp only [Option.some.injEq] at hw; subst hw
          have : yielded all.toArray a.tmps j = some c := by simp [yielded, hj, hd, hin]
          rw [this]; rfl
        · rename_i hc
          rw [hc] at hv
          obtain ⟨vs, e, _, _⟩ := tuple_pure_inv hv
          simp only [Option.some.injEq] at hw; subst hw
          have : yielded all.toArray a.tmps j = none := by
            simp only [yielded, List.getElem?_toArray, hj, Option.bind_some, hd]
            cases ht : a.tmps[d]? with
            | none => rfl
            | some v =>
              rw [Array.getD_eq_getD_getElem?, ht] at e
              simp only [Option.getD_some] at e; subst e; rfl
          rw [this]; rfl
        · cases hw
      · cases hw
    · cases hw

/-! ### a scope's end -/
def dropS (S : Nat → Prop) (μ : Mu) (L : Nat) : Nat → Prop := fun b => S b ∨ ∃ nm t, L ≤ nm.1 ∧ μ nm t = some b
def dropM (μ : Mu) (L : Nat) : Mu := fun nm t => if nm.1 < L then μ nm t else none

theorem dropM_some {L : Nat} {nm : Nm} {t b : Nat} (h : dropM μ L nm t = some b) : nm.1 < L ∧ μ nm t = some b := by
  unfold dropM at h
  split at h
  · exact ⟨by assumption, h⟩
  · cases h

theorem drop_ev {L : Nat} (hH : HRel w S μ H) (hl : ℓ < L) : Ev ℓ w S μ w (dropS S μ L) (dropM μ L) where
  os := rfl
  tape := rfl
  out := rfl
  size := Nat.le_refl _
  sub := fun b h => .inl h
  same := fun _ _ _ => rfl
  shp := fun _ _ h => h
  lp := fun b r h => ⟨r, h⟩
  mu := fun nm t b h1 h2 => by simp only [dropM]; rw [if_pos (by omega)]; exact h2
  own := fun nm t b h _ => ⟨nm, t, (dropM_some h).2⟩
  snew := fun b h _ => by
    rcases h with h | ⟨nm, t, _, h⟩
    · exact .inl h
    · exact .inr ⟨nm, t, h⟩

theorem drop_heap {fr : Fr} (hH : HRel w S μ (fr :: H)) : HRel w (dropS S μ H.length) (dropM μ H.length) H where
  blk := fun nm x hx t b hb => by
    obtain ⟨hlt, hb⟩ := dropM_some hb
    have hg : Heap.get (fr :: H) nm = some x := by
      show (if nm.1 = H.length then _ else _) = _
      rw [if_neg (by omega)]; exact hx
    refine (hH.blk nm x hg t b hb).mono (fun b h => .inl h) (fun _ _ => rfl) (fun _ _ h => h) (fun n t b hn hm => ?_) (fun t => ?_) (fun _ _ _ => rfl) (fun t' b' hm hs => ?_)
    · simp only [dropM]; rw [if_pos (by omega)]; exact hm
    · simp only [dropM]; rw [if_pos hlt]
    · rcases hs with hs | ⟨n, t2, hn, h2⟩
      · exact hs
      · have := hH.disj _ _ _ _ _ hm h2
        subst this; omega
  bnd := fun nm t b hb => by
    obtain ⟨hlt, hb⟩ := dropM_some hb
    obtain ⟨x, hx⟩ := hH.bnd nm t b hb
    have hg : Heap.get (fr :: H) nm = Heap.get H nm := by
      show (if nm.1 = H.length then _ else _) = _
      rw [if_neg (by omega)]
    exact ⟨x, by rw [← hg]; exact hx⟩
  disj := fun nm nm' t t' b h h' => hH.disj _ _ _ _ _ (dropM_some h).2 (dropM_some h').2
  lt := fun nm t b h => hH.lt _ _ _ (dropM_some h).2
  slt := fun b h => by
    rcases h with h | ⟨nm, t, _, h⟩
    · exact hH.slt b h
    · exact hH.lt _ _ _ h
  glb := hH.glb.mono (fun b h => .inl h) (fun _ _ => rfl)

theorem drop_val {k : Nat} {v : Value} {g : GV} (hH : HRel w S μ H) {l0 : Nat} (hv : VRel w S μ k v g) : VRel w (dropS S μ (l0 + 1)) (dropM μ (l0 + 1)) l0 v (clean H l0 g) := by
  have := clean_rel (S' := dropS S μ (l0 + 1)) (l0 := l0) hH hv (fun b h => .inl h) (fun nm t b h1 h2 => .inr ⟨nm, t, h1, h2⟩)
  exact this.mono (fun _ h => h) (fun _ _ => rfl) (fun _ _ h => h) (fun nm t b h1 h2 => by simp only [dropM]; rw [if_pos (by omega)]; exact h2) (Nat.le_refl _)

theorem look_clean (l0 : Nat) (t : Nat) : ∀ s : Slots, look (cleanSlots H l0 s) t = clean H l0 (look s t) ∨ look (cleanSlots H l0 s) t = gdead
  | [] => .inr rfl
  | (d, v) :: s => by
    simp only [cleanSlots, look_cons]
    split
    · exact .inl rfl
    · exact look_clean l0 t s

theorem look_keep (s : Slots) (t : Nat) : ∀ l : List Nat, look (keepSlots s l) t = look s t ∨ look (keepSlots s l) t = gdead
  | [] => .inr rfl
  | d :: l => by
    simp only [keepSlots, look_cons]
    split
    · rename_i h; subst h; exact .inl rfl
    · exact look_keep s t l

theorem keep_slots {a : Act} {s : Slots} {k : Nat} (h : ∀ t, VRel w S μ k (a.tmps.getD t undef) (look s t)) (l : List Nat) : ∀ t, VRel w S μ k (a.tmps.getD t undef) (look (keepSlots s l) t) := fun t => by
  rcases look_keep s t l with e | e
  · rw [e]; exact h t
  · rw [e]; exact vdead _

theorem gscope_ok {ks : Option (List Nat)} {st st' : GSt} {a : Act} (h : StOk base r w S μ st a) (hs : gscope ks st = some st') :
    st'.h.length + 1 = st.h.length ∧ st'.nt = st.nt ∧ ∃ S' μ', StOk base r w S' μ' st' a ∧ Ev (st'.h.length - 1) w S μ w S' μ' := by
  unfold gscope at hs
  split at hs
  · rename_i fr H hh
    split at hs
    · cases hs
    · rename_i h0
      simp only [Option.some.injEq] at hs; subst hs
      have hH : HRel w S μ (fr :: H) := hh ▸ h.heap
      have e1 : H.length - 1 + 1 = H.length := by omega
      have hev : Ev (H.length - 1) w S μ w (dropS S μ H.length) (dropM μ H.length) := drop_ev hH (by omega)
      refine ⟨by simp [hh], rfl, _, _, ⟨drop_heap hH, fun t => ?_, h.nt, by simp; omega, h.low, h.defs.ev hev, h.round⟩, hev⟩
      have hb : ∀ t, VRel w S μ (st.h.length - 1) (a.tmps.getD t undef) (look (keepO ks st.s) t) := by
        intro t
        cases ks with
        | none => exact h.slots t
        | some l => exact keep_slots h.slots l t
      show VRel _ _ _ (H.length - 1) _ (look (cleanSlots (fr :: H) (H.length - 1) (keepO ks st.s)) t)
      rcases look_clean (H := fr :: H) (H.length - 1) t (keepO ks st.s) with e | e
      · rw [e]
        have := drop_val hH (l0 := H.length - 1) (hb t)
        rw [e1] at this; exact this
      · rw [e]; exact vdead _
  · cases hs

/-! ### blocks that belong to no name -/
theorem HRel.skip (ℓ : Nat) (hH : HRel w S μ H) (o : Obj) : HRel (w.alloc o) S μ H ∧ Ev ℓ w S μ (w.alloc o) S μ := by
  have hw : ∀ b, S b → (w.alloc o).heap[b]? = w.heap[b]? := fun b hb => alloc_heap w o b (hH.slt b hb)
  constructor
  · refine ⟨fun n b hb t0 b0 hb0 => ?_, hH.bnd, hH.disj, fun n t b h => ?_, fun b h => ?_, hH.glb.mono (fun _ h => h) hw⟩
    · exact (hH.blk n b hb t0 b0 hb0).mono (fun b h => h) hw (alloc_shp w o) (fun _ _ _ _ h => h) (fun _ => rfl) (fun t b' h' => alloc_heap w o b' (hH.lt _ _ _ h')) (fun t b' h' hs => hs)
    · have := hH.lt n t b h; rw [alloc_size]; omega
    · have := hH.slt b h; rw [alloc_size]; omega
  · exact ⟨rfl, rfl, rfl, by rw [alloc_size]; omega, fun _ h => h, fun b hb _ => alloc_heap w o b hb, alloc_shp w o, alloc_lp w o, fun _ _ _ _ h => h, fun nm t b h _ => ⟨nm, t, h⟩, fun b h _ => .inl h⟩

theorem poke_shp {q : Nat} {x : Option (List Deferred)} {o : Obj} (hq : w.heap[q]? = some (.deferred x)) (b : Nat) (y : TypeId × Nat) (h : w.shape? b = some y) : (w.putObj q o).shape? b = some y := by
  unfold World.shape? at h ⊢
  by_cases e : b = q
  · subst e; rw [hq] at h; simp at h
  · rw [World.putObj_heap_other e]; exact h

theorem HRel.poke {q : Nat} {x : Option (List Deferred)} {o : Obj} (hH : HRel w S μ H) (hq : w.heap[q]? = some (.deferred x)) (hS : ¬ S q) (hm : ∀ nm t, μ nm t ≠ some q) :
    HRel (w.putObj q o) S μ H := by
  have hw : ∀ b, S b → (w.putObj q o).heap[b]? = w.heap[b]? := fun b hb => World.putObj_heap_other fun e => hS (e ▸ hb)
  refine ⟨fun n b hb t0 b0 hb0 => ?_, hH.bnd, hH.disj, fun n t b h => ?_, fun b h => ?_, hH.glb.mono (fun _ h => h) hw⟩
  · exact (hH.blk n b hb t0 b0 hb0).mono (fun b h => h) hw (poke_shp hq) (fun _ _ _ _ h => h) (fun _ => rfl) (fun t b' h' => World.putObj_heap_other fun e => hm _ _ (e ▸ h')) (fun t b' h' hs => hs)
  · rw [World.putObj_size]; exact hH.lt n t b h
  · rw [World.putObj_size]; exact hH.slt b h

theorem Ev.poke {w0 : World} {S0 : Nat → Prop} {μ0 : Mu} {q : Nat} {x : Option (List Deferred)} {o : Obj} (h : Ev ℓ w0 S0 μ0 w S μ) (hq : w.heap[q]? = some (.deferred x)) (hb : w0.heap.size ≤ q) :
    Ev ℓ w0 S0 μ0 (w.putObj q o) S μ where
  os := h.os
  tape := h.tape
  out := h.out
  size := by rw [World.putObj_size]; exact h.size
  sub := h.sub
  same := fun b hb' ho => by rw [World.putObj_heap_other (by omega)]; exact h.same b hb' ho
  shp := fun b y hy => poke_shp hq b y (h.shp b y hy)
  lp := fun b r hr => by
    obtain ⟨r', hr'⟩ := h.lp b r hr
    refine ⟨r', ?_⟩
    rw [World.putObj_heap_other (fun e => by subst e; rw [hq] at hr'; cases hr')]; exact hr'
  mu := h.mu
  own := h.own
  snew := h.snew

end
end Go.Gh

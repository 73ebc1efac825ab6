/- How ghost values and heaps stand to the model's values and worlds. -/
import Derived.Test.YtgmohiojddnfgaaGreatDoorGhost2
namespace Go.Gh

abbrev Mu := Nm → Nat → Option Nat

/-- Under which number a table's row has its block. -/
def rix (i : Nat) : Nat := 2199023255552 + i

section
variable (w : World) (S : Nat → Prop)

inductive PRep : Value → PV → Prop
  | int (k : IntKind) (n : Int) : PRep (.int k n) (.int k n)
  | bool (b : Bool) : PRep (.bool b) (.bool b)
  | str (s : ByteArray) : PRep (.string s) (.str s.data.toList)
  | slice0 (a : Option Addr) (cap : Nat) : PRep (.slice a 0 cap) (.slice [])
  | slice (b o cap es : Nat) (l : List (List PV)) (f : Nat → Nat → Value) (hS : S b) (he : 0 < es) (hes : ∀ r ∈ l, r.length = es)
      (hf : ∀ i j, i < l.length → j < es → w.cell? ⟨b, o + (i * es + j), none⟩ = some (f i j)) (h1 : ∀ i j, i < l.length → j < es → (f i j).oneCell' = true)
      (hr : ∀ i j, i < l.length → j < es → PRep (f i j) ((l.getD i []).getD j .dead)) (hc : l.length ≤ cap) : PRep (.slice (some ⟨b, o, none⟩) l.length cap) (.slice l)
  | agg (vs : Array Value) (l : List PV) (h : vs.size = l.length) (h1 : ∀ j, j < l.length → (vs.getD j undef).oneCell' = true) (hr : ∀ j, j < l.length → PRep (vs.getD j undef) (l.getD j .dead)) : PRep (.agg vs) (.agg l)
  | tuple (vs : Array Value) (l : List PV) (h : vs.size = l.length) (hr : ∀ j, j < l.length → PRep (vs.getD j undef) (l.getD j .dead)) : PRep (.tuple vs) (.tuple l)
  | fn (f : FuncId) : PRep (.func (.func f) #[] #[]) (.fn f)
  | nilp : PRep (.pointer none) .nilp
  | nilf : PRep .nilFunc .nilf
  | nilm : PRep (.map none) .nilm
  | nili : PRep .nilIface .nili
  | iface (t : TypeId) (v : Value) (p : PV) (h : PRep v p) : PRep (.iface t v) (.iface t p)
  | dead (v : Value) : PRep v .dead

inductive VRel (μ : Mu) (ℓ : Nat) : Value → GV → Prop
  | pure (v : Value) (p : PV) (h : PRep w S v p) : VRel μ ℓ v (.pure p)
  | pptr (b o : Nat) (cs : List PV) (f : Nat → Value) (hS : cs ≠ [] → S b) (hf : ∀ j, j < cs.length → w.cell? ⟨b, o + j, none⟩ = some (f j)) (h1 : ∀ j, j < cs.length → (f j).oneCell' = true)
      (hr : ∀ j, j < cs.length → PRep w S (f j) (cs.getD j .dead)) : VRel μ ℓ (.pointer (some ⟨b, o, none⟩)) (.pptr cs)
  | lptr (b o : Nat) (cs : List GV) (f : Nat → Value) (hS : cs ≠ [] → S b) (hf : ∀ j, j < cs.length → w.cell? ⟨b, o + j, none⟩ = some (f j)) (h1 : ∀ j, j < cs.length → (f j).oneCell' = true)
      (hr : ∀ j, j < cs.length → VRel μ ℓ (f j) (cs.getD j gdead)) : VRel μ ℓ (.pointer (some ⟨b, o, none⟩)) (.lptr cs)
  | nils (a : Option Addr) : VRel μ ℓ (.slice a 0 0) .nils
  | lits (b o cap es : Nat) (l : List (List GV)) (f : Nat → Nat → Value) (hS : S b) (he : 0 < es) (hes : ∀ r ∈ l, r.length = es)
      (hf : ∀ i j, i < l.length → j < es → w.cell? ⟨b, o + (i * es + j), none⟩ = some (f i j)) (h1 : ∀ i j, i < l.length → j < es → (f i j).oneCell' = true)
      (hr : ∀ i j, i < l.length → j < es → VRel μ ℓ (f i j) ((l.getD i []).getD j gdead)) (hcap : cap = l.length) : VRel μ ℓ (.slice (some ⟨b, o, none⟩) l.length cap) (.lits l)
  | bptr (nm : Nm) (off b : Nat) (hl : nm.1 ≤ ℓ) (hm : μ nm 0 = some b) : VRel μ ℓ (.pointer (some ⟨b, off, none⟩)) (.bptr nm off)
  | eptr (nm : Nm) (es top i off b : Nat) (hl : nm.1 ≤ ℓ) (hm : μ nm top = some b) : VRel μ ℓ (.pointer (some ⟨b, i * es + off, none⟩)) (.eptr nm es top i off)
  | hdr (nm : Nm) (es top lo len cap b n : Nat) (e : TypeId) (hl : nm.1 ≤ ℓ) (hm : μ nm top = some b) (hc : top ≤ lo + cap) (ht : lo + len ≤ top)
      (hsh : w.shape? b = some (e, n)) (hn : (lo + cap) * es ≤ n) : VRel μ ℓ (.slice (some ⟨b, lo * es, none⟩) len cap) (.hdr nm es top lo len)
  | agg (vs : Array Value) (l : List GV) (h : vs.size = l.length) (h1 : ∀ j, j < l.length → (vs.getD j undef).oneCell' = true) (hr : ∀ j, j < l.length → VRel μ ℓ (vs.getD j undef) (l.getD j gdead)) : VRel μ ℓ (.agg vs) (.agg l)
  | tuple (vs : Array Value) (l : List GV) (h : vs.size = l.length) (hr : ∀ j, j < l.length → VRel μ ℓ (vs.getD j undef) (l.getD j gdead)) : VRel μ ℓ (.tuple vs) (.tuple l)
  | func (f : FuncId) (a c : Array Value) (la lc : List GV) (h1 : a.size = la.length) (h2 : c.size = lc.length)
      (hr1 : ∀ j, j < la.length → VRel μ ℓ (a.getD j undef) (la.getD j gdead)) (hr2 : ∀ j, j < lc.length → VRel μ ℓ (c.getD j undef) (lc.getD j gdead)) :
      VRel μ ℓ (.func (.func f) a c) (.func f la lc)
  | yield (nm : Nm) (b : Nat) (hl : nm.1 ≤ ℓ) (hm : μ nm 0 = some b) : VRel μ ℓ (.func (.yield b) #[] #[]) (.yield nm)
  | map (nm : Nm) (b : Nat) (hl : nm.1 ≤ ℓ) (hm : μ nm 0 = some b) : VRel μ ℓ (.map (some b)) (.map nm)
  | rhdr (nm : Nm) (es i len cap b : Nat) (hl : nm.1 ≤ ℓ) (hm : μ nm (rix i) = some b) (hc : len ≤ cap) : VRel μ ℓ (.slice (some ⟨b, 0, none⟩) len cap) (.rhdr nm es i len)
  | rptr (nm : Nm) (es i j off b : Nat) (hl : nm.1 ≤ ℓ) (hm : μ nm (rix i) = some b) : VRel μ ℓ (.pointer (some ⟨b, j * es + off, none⟩)) (.rptr nm es i j off)

/-- Rows of cells that stand to one another. -/
inductive CRel (μ : Mu) (ℓ : Nat) : List Value → List GV → Prop
  | nil : CRel μ ℓ [] []
  | cons {v : Value} {g : GV} {vs : List Value} {gs : List GV} (h1 : v.oneCell' = true) (h : VRel w S μ ℓ v g) (t : CRel μ ℓ vs gs) : CRel μ ℓ (v :: vs) (g :: gs)

def jumpOf : GX → Code
  | .exit id => .exit id
  | _ => .ret

/-- A row of one's own in memory. -/
def RowRel (b es : Nat) (l : List (List PV)) : Prop :=
  (∃ c e, w.heap[b]? = some (.cells c e (0, 0))) ∧ ¬ S b ∧ ∀ i j, i < l.length → j < es → ∃ u, w.cell? ⟨b, i * es + j, none⟩ = some u ∧ u.oneCell' = true ∧ PRep w S u ((l.getD i []).getD j .dead)

/-- A table in memory. -/
structure MatRel (μ : Mu) (nm : Nm) (es : Nat) (rows : List (List (List PV))) (n : Nat) : Prop where
  pos : 0 < es
  le : n ≤ rows.length
  lim : n < rix 0
  wid : ∀ r ∈ rows, ∀ x ∈ r, x.length = es
  row : ∀ i, i < rows.length → ∃ b, μ nm (rix i) = some b ∧ RowRel w S b es (rows.getD i [])
  inj : ∀ i j b, μ nm (rix i) = some b → μ nm (rix j) = some b → i = j
  bnd : ∀ i b, μ nm (rix i) = some b → i < rows.length
  top : ∀ t b, t < rix 0 → μ nm t = some b → t ≤ n ∧ (∃ c e, w.heap[b]? = some (.cells c e (0, 0))) ∧ ¬ S b ∧ (∀ i, μ nm (rix i) ≠ some b) ∧
    ∀ i, i < t → ∃ bi cap, w.cell? ⟨b, i, none⟩ = some (.slice (some ⟨bi, 0, none⟩) (rows.getD i []).length cap) ∧ μ nm (rix i) = some bi ∧ (rows.getD i []).length ≤ cap

def BlkRel (μ : Mu) (nm : Nm) : Blk → Prop
  | .box cs => ∃ b c e, μ nm 0 = some b ∧ ¬ S b ∧ w.heap[b]? = some (.cells c (tyE nm e) (0, 0)) ∧ CRel w S μ nm.1 c.toList cs
  | .arr es elems vf ro => 0 < es ∧ (∀ r ∈ elems, r.length = es) ∧ vf ≤ elems.length ∧ (∃ b, μ nm elems.length = some b) ∧
      (∀ top b, μ nm top = some b → top ≤ elems.length ∧ (∃ c e, w.heap[b]? = some (.cells c (tyE nm e) (0, 0))) ∧ (ro = false → ¬ S b) ∧
        (vf ≤ top → (ro = true → S b) ∧ ∀ i j, i < top → j < es → ∃ u, w.cell? ⟨b, i * es + j, none⟩ = some u ∧ u.oneCell' = true ∧ PRep w S u ((elems.getD i []).getD j .dead)))
  | .map es => ∃ b ms clock, μ nm 0 = some b ∧ ¬ S b ∧ w.heap[b]? = some (.map ms clock) ∧ ms.size = es.length ∧
      ∀ j, (h : j < es.length) → ∃ m, ms[j]? = some m ∧ PRep w S m.key es[j].1 ∧ VRel w S μ nm.1 m.val es[j].2
  | .loop l => ∃ b r, μ nm 0 = some b ∧ ¬ S b ∧ w.heap[b]? = some (.loop r) ∧ r.state = l.state ∧ r.pending = l.pending.map jumpOf ∧ l.pending ≠ some .normal ∧
      r.params = l.params.toArray ∧ r.assign = l.assign ∧ r.body = l.body ∧ r.tmps.size = l.nt ∧ ∀ t, VRel w S μ nm.1 (r.tmps.getD t undef) (look l.slots t)
  | .mat es rows n => MatRel w S μ nm es rows n
  | .gone => True

/-- A cell holds what is known of it. -/
def GqRel : GQ → Value → Prop
  | .int k n, u => u = .int k n
  | .str s, u => ∃ b : ByteArray, u = .string b ∧ b.data.toList = s
  | .anyInt k, u => ∃ n, u = .int k n
  | .anyIface, u => u = .nilIface ∨ ∃ t v, u = .iface t v

/-- Package variables that are known hold what is known of them. -/
def GlbRel : Prop := ∀ g cs, globQ g = some cs → S g ∧ ∃ c ty fr, w.heap[g]? = some (.cells c ty fr) ∧ c.size = cs.length ∧ ∀ j, (h : j < cs.length) → ∃ u, c[j]? = some u ∧ GqRel cs[j] u

structure HRel (μ : Mu) (H : Heap) : Prop where
  /-- of a name of which no block is born yet nothing is said -/
  blk : ∀ nm x, H.get nm = some x → ∀ t b, μ nm t = some b → BlkRel w S μ nm x
  bnd : ∀ nm t b, μ nm t = some b → ∃ x, H.get nm = some x
  disj : ∀ nm nm' t t' b, μ nm t = some b → μ nm' t' = some b → nm = nm'
  lt : ∀ nm t b, μ nm t = some b → b < w.heap.size
  slt : ∀ b, S b → b < w.heap.size
  glb : GlbRel w S
end

theorem GqRel.one {q : GQ} {u : Value} (h : GqRel q u) : u.oneCell' = true := by
  cases q with
  | int k n => cases h; rfl
  | str s => obtain ⟨b, rfl, _⟩ := h; rfl
  | anyInt k => obtain ⟨n, rfl⟩ := h; rfl
  | anyIface => rcases h with rfl | ⟨t, v, rfl⟩ <;> rfl

theorem GqRel.pv {w : World} {S : Nat → Prop} {q : GQ} {u : Value} (h : GqRel q u) : PRep w S u q.pv := by
  cases q with
  | int k n => cases h; exact .int k n
  | str s => obtain ⟨b, rfl, rfl⟩ := h; exact .str b
  | anyInt k => exact .dead _
  | anyIface => exact .dead _

/-- What a step, or many, leave of the old state; ℓ: the names of the levels up to it stay. -/
structure Ev (ℓ : Nat) (w : World) (S : Nat → Prop) (μ : Mu) (w' : World) (S' : Nat → Prop) (μ' : Mu) : Prop where
  os : w'.os = w.os
  tape : w'.tape = w.tape
  out : w'.output = w.output
  size : w.heap.size ≤ w'.heap.size
  sub : ∀ b, S b → S' b
  same : ∀ b, b < w.heap.size → (S b ∨ ∀ nm t, μ nm t ≠ some b) → w'.heap[b]? = w.heap[b]?
  shp : ∀ b x, w.shape? b = some x → w'.shape? b = some x
  lp : ∀ (b : Nat) (r : Loop), w.heap[b]? = some (Obj.loop r) → ∃ r' : Loop, w'.heap[b]? = some (Obj.loop r')
  mu : ∀ nm t b, nm.1 ≤ ℓ → μ nm t = some b → μ' nm t = some b
  own : ∀ nm t b, μ' nm t = some b → b < w.heap.size → ∃ nm' t', μ nm' t' = some b
  snew : ∀ b, S' b → b < w.heap.size → S b ∨ ∃ nm t, μ nm t = some b

/-- The frame in which calls run. -/
def Fw (r : Option Nat) : Fence := { Fence.wide with round := r }

/-- How a call ends. -/
def Done (ℓ n : Nat) (w : World) (S : Nat → Prop) (μ : Mu) (v : GV) (H' : Heap) : Ending → World → Prop := fun e w' =>
  ∃ u S' μ', e = .returned u ∧ VRel w' S' μ' (H'.length - 1) u v ∧ HRel w' S' μ' H' ∧ Ev ℓ w S μ w' S' μ' ∧ H'.length = n

/-- A contract tells what a call does. -/
def ExtOk (P : Program) (f : FuncId) (e : List GV → Heap → Option (GV × Heap)) : Prop :=
  ∀ (w : World) (S : Nat → Prop) (μ : Mu) (H H' : Heap) (args : List GV) (v : GV) (vs : Array Value), e args H = some (v, H') → 0 < H.length → HRel w S μ H → vs.size = args.length →
    (∀ j, j < args.length → VRel w S μ (H.length - 1) (vs.getD j undef) (args.getD j gdead)) →
    (callFunc f vs).run P w = .ok (.enter f vs) w ∧ CallsIn (Fw none) 0 P f vs w (Done (H.length - 1) H.length w S μ v H')

theorem Ev.refl (ℓ : Nat) (w : World) (S : Nat → Prop) (μ : Mu) : Ev ℓ w S μ w S μ :=
  ⟨rfl, rfl, rfl, Nat.le_refl _, fun _ h => h, fun _ _ _ => rfl, fun _ _ h => h, fun _ r h => ⟨r, h⟩, fun _ _ _ _ h => h, fun nm t _ h _ => ⟨nm, t, h⟩, fun _ h _ => .inl h⟩

theorem Ev.trans {ℓ : Nat} {w1 w2 w3 : World} {S1 S2 S3 : Nat → Prop} {μ1 μ2 μ3 : Mu} (h : Ev ℓ w1 S1 μ1 w2 S2 μ2) (k : Ev ℓ w2 S2 μ2 w3 S3 μ3) :
    Ev ℓ w1 S1 μ1 w3 S3 μ3 where
  os := k.os.trans h.os
  tape := k.tape.trans h.tape
  out := k.out.trans h.out
  size := Nat.le_trans h.size k.size
  sub := fun b hb => k.sub b (h.sub b hb)
  same := fun b hb ho => by
    have h1 := h.same b hb ho
    rw [← h1]
    refine k.same b (Nat.lt_of_lt_of_le hb h.size) ?_
    rcases ho with ho | ho
    · exact .inl (h.sub b ho)
    · refine .inr fun nm t hm => ?_
      obtain ⟨nm', t', hm'⟩ := h.own nm t b hm hb
      exact ho nm' t' hm'
  shp := fun b x hx => k.shp b x (h.shp b x hx)
  lp := fun b r hr => let ⟨r', h'⟩ := h.lp b r hr; k.lp b r' h'
  mu := fun nm t b hl hm => k.mu nm t b hl (h.mu nm t b hl hm)
  own := fun nm t b hm hb => by
    obtain ⟨nm', t', hm'⟩ := k.own nm t b hm (Nat.lt_of_lt_of_le hb h.size)
    exact h.own nm' t' b hm' hb
  snew := fun b hb hl => by
    rcases k.snew b hb (Nat.lt_of_lt_of_le hl h.size) with h' | ⟨nm, t, h'⟩
    · exact h.snew b h' hl
    · exact .inr (h.own nm t b h' hl)

theorem Ev.level {ℓ ℓ' : Nat} {w1 w2 : World} {S1 S2 : Nat → Prop} {μ1 μ2 : Mu} (h : Ev ℓ w1 S1 μ1 w2 S2 μ2) (hl : ℓ' ≤ ℓ) : Ev ℓ' w1 S1 μ1 w2 S2 μ2 :=
  { h with mu := fun nm t b hb hm => h.mu nm t b (Nat.le_trans hb hl) hm }

theorem cell_of_heap {w w' : World} {b : Nat} (h : w'.heap[b]? = w.heap[b]?) (o : Nat) : w'.cell? ⟨b, o, none⟩ = w.cell? ⟨b, o, none⟩ := by
  unfold World.cell?; simp only [h]

theorem PRep.mono {w w' : World} {S S' : Nat → Prop} (hS : ∀ b, S b → S' b) (hw : ∀ b, S b → w'.heap[b]? = w.heap[b]?) {v : Value} {p : PV} (h : PRep w S v p) :
    PRep w' S' v p := by
  induction h with
  | int k n => exact .int k n
  | bool b => exact .bool b
  | str s => exact .str s
  | slice0 a cap => exact .slice0 a cap
  | slice b o cap es l f hb he hes hf h1 _ hc ih => exact .slice b o cap es l f (hS b hb) he hes (fun i j hi hj => by rw [cell_of_heap (hw b hb)]; exact hf i j hi hj) h1 ih hc
  | agg vs l h h1 _ ih => exact .agg vs l h h1 ih
  | tuple vs l h _ ih => exact .tuple vs l h ih
  | fn f => exact .fn f
  | nilp => exact .nilp
  | nilf => exact .nilf
  | nilm => exact .nilm
  | nili => exact .nili
  | iface t v p _ ih => exact .iface t v p ih
  | dead v => exact .dead v

theorem VRel.mono {w w' : World} {S S' : Nat → Prop} {μ μ' : Mu} {ℓ ℓ' : Nat} (hS : ∀ b, S b → S' b) (hw : ∀ b, S b → w'.heap[b]? = w.heap[b]?)
    (hsh : ∀ b x, w.shape? b = some x → w'.shape? b = some x) (hm : ∀ nm t b, nm.1 ≤ ℓ → μ nm t = some b → μ' nm t = some b) (hl : ℓ ≤ ℓ')
    {v : Value} {g : GV} (h : VRel w S μ ℓ v g) : VRel w' S' μ' ℓ' v g := by
  induction h with
  | pure v p h => exact .pure v p (h.mono hS hw)
  | pptr b o cs f hb hf h1 hr =>
    refine .pptr b o cs f (fun h => hS b (hb h)) (fun j hj => ?_) h1 (fun j hj => (hr j hj).mono hS hw)
    rw [cell_of_heap (hw b (hb (by intro h; subst h; simp at hj)))]; exact hf j hj
  | lptr b o cs f hb hf h1 _ ih =>
    refine .lptr b o cs f (fun h => hS b (hb h)) (fun j hj => ?_) h1 ih
    rw [cell_of_heap (hw b (hb (by intro h; subst h; simp at hj)))]; exact hf j hj
  | nils a => exact .nils a
  | lits b o cap es l f hb he hes hf h1 _ hcap ih => exact .lits b o cap es l f (hS b hb) he hes (fun i j hi hj => by rw [cell_of_heap (hw b hb)]; exact hf i j hi hj) h1 ih hcap
  | bptr nm off b h1 h2 => exact .bptr nm off b (Nat.le_trans h1 hl) (hm _ _ _ h1 h2)
  | eptr nm es top i off b h1 h2 => exact .eptr nm es top i off b (Nat.le_trans h1 hl) (hm _ _ _ h1 h2)
  | hdr nm es top lo len cap b n e h1 h2 hc ht hs hn => exact .hdr nm es top lo len cap b n e (Nat.le_trans h1 hl) (hm _ _ _ h1 h2) hc ht (hsh _ _ hs) hn
  | agg vs l h h1 _ ih => exact .agg vs l h h1 ih
  | tuple vs l h _ ih => exact .tuple vs l h ih
  | func f a c la lc h1 h2 _ _ ih1 ih2 => exact .func f a c la lc h1 h2 ih1 ih2
  | yield nm b h1 h2 => exact .yield nm b (Nat.le_trans h1 hl) (hm _ _ _ h1 h2)
  | map nm b h1 h2 => exact .map nm b (Nat.le_trans h1 hl) (hm _ _ _ h1 h2)
  | rhdr nm es i len cap b h1 h2 hc => exact .rhdr nm es i len cap b (Nat.le_trans h1 hl) (hm _ _ _ h1 h2) hc
  | rptr nm es i j off b h1 h2 => exact .rptr nm es i j off b (Nat.le_trans h1 hl) (hm _ _ _ h1 h2)

section
variable {ℓ : Nat} {w w' : World} {S S' : Nat → Prop} {μ μ' : Mu}

theorem Ev.pv (h : Ev ℓ w S μ w' S' μ') (hlt : ∀ b, S b → b < w.heap.size) {v : Value} {p : PV} (hv : PRep w S v p) : PRep w' S' v p :=
  hv.mono h.sub fun b hb => h.same b (hlt b hb) (.inl hb)

theorem Ev.val (h : Ev ℓ w S μ w' S' μ') (hlt : ∀ b, S b → b < w.heap.size) {k : Nat} (hk : k ≤ ℓ) {v : Value} {g : GV} (hv : VRel w S μ k v g) : VRel w' S' μ' k v g :=
  hv.mono h.sub (fun b hb => h.same b (hlt b hb) (.inl hb)) h.shp (fun nm t b hn hm => h.mu nm t b (Nat.le_trans hn hk) hm) (Nat.le_refl _)
end

theorem VRel.up {w : World} {S : Nat → Prop} {μ : Mu} {ℓ ℓ' : Nat} (hl : ℓ ≤ ℓ') {v : Value} {g : GV} (h : VRel w S μ ℓ v g) : VRel w S μ ℓ' v g :=
  h.mono (fun _ h => h) (fun _ _ => rfl) (fun _ _ h => h) (fun _ _ _ _ h => h) hl

theorem CRel.mono {w w' : World} {S S' : Nat → Prop} {μ μ' : Mu} {ℓ ℓ' : Nat} (hS : ∀ b, S b → S' b) (hw : ∀ b, S b → w'.heap[b]? = w.heap[b]?)
    (hsh : ∀ b x, w.shape? b = some x → w'.shape? b = some x) (hm : ∀ nm t b, nm.1 ≤ ℓ → μ nm t = some b → μ' nm t = some b) (hl : ℓ ≤ ℓ')
    {vs : List Value} {gs : List GV} (h : CRel w S μ ℓ vs gs) : CRel w' S' μ' ℓ' vs gs := by
  induction h with
  | nil => exact .nil
  | cons h1 h _ ih => exact .cons h1 (h.mono hS hw hsh hm hl) ih

theorem RowRel.mono {w w' : World} {S S' : Nat → Prop} {b es : Nat} {l : List (List PV)} (hS : ∀ b, S b → S' b) (hw : ∀ b, S b → w'.heap[b]? = w.heap[b]?)
    (hb : w'.heap[b]? = w.heap[b]?) (hs : S' b → S b) (h : RowRel w S b es l) : RowRel w' S' b es l := by
  obtain ⟨⟨c, e, h1⟩, h2, h3⟩ := h
  refine ⟨⟨c, e, by rw [hb]; exact h1⟩, fun h => h2 (hs h), fun i j hi hj => ?_⟩
  obtain ⟨u, u1, u2, u3⟩ := h3 i j hi hj
  exact ⟨u, by rw [cell_of_heap hb]; exact u1, u2, u3.mono hS hw⟩

theorem MatRel.mono {w w' : World} {S S' : Nat → Prop} {μ μ' : Mu} {nm nm' : Nm} {es n : Nat} {rows : List (List (List PV))} (hS : ∀ b, S b → S' b) (hw : ∀ b, S b → w'.heap[b]? = w.heap[b]?)
    (ho : ∀ t, μ' nm' t = μ nm t) (hb : ∀ t b, μ nm t = some b → w'.heap[b]? = w.heap[b]?) (hs : ∀ t b, μ nm t = some b → S' b → S b) (h : MatRel w S μ nm es rows n) : MatRel w' S' μ' nm' es rows n where
  pos := h.pos
  le := h.le
  lim := h.lim
  wid := h.wid
  row := fun i hi => by
    obtain ⟨b, h1, h2⟩ := h.row i hi
    exact ⟨b, by rw [ho]; exact h1, h2.mono hS hw (hb _ _ h1) (hs _ _ h1)⟩
  inj := fun i j b h1 h2 => by rw [ho] at h1 h2; exact h.inj i j b h1 h2
  bnd := fun i b h1 => by rw [ho] at h1; exact h.bnd i b h1
  top := fun t b ht h1 => by
    rw [ho] at h1
    obtain ⟨g1, ⟨c, e, g2⟩, g3, g4, g5⟩ := h.top t b ht h1
    refine ⟨g1, ⟨c, e, by rw [hb _ _ h1]; exact g2⟩, fun h => g3 (hs _ _ h1 h), fun i => by rw [ho]; exact g4 i, fun i hi => ?_⟩
    obtain ⟨bi, cap, k1, k2, k3⟩ := g5 i hi
    exact ⟨bi, cap, by rw [cell_of_heap (hb _ _ h1)]; exact k1, by rw [ho]; exact k2, k3⟩

/-- A block that a step leaves alone stands as it stood. -/
theorem BlkRel.mono {w w' : World} {S S' : Nat → Prop} {μ μ' : Mu} {nm : Nm} (hS : ∀ b, S b → S' b) (hw : ∀ b, S b → w'.heap[b]? = w.heap[b]?)
    (hsh : ∀ b x, w.shape? b = some x → w'.shape? b = some x) (hm : ∀ n t b, n.1 ≤ nm.1 → μ n t = some b → μ' n t = some b) (ho : ∀ t, μ' nm t = μ nm t)
    (hb : ∀ t b, μ nm t = some b → w'.heap[b]? = w.heap[b]?) (hs : ∀ t b, μ nm t = some b → S' b → S b) {x : Blk} (h : BlkRel w S μ nm x) : BlkRel w' S' μ' nm x := by
  cases x with
  | box cs =>
    obtain ⟨b, c, e, h1, h2, h3, h4⟩ := h
    exact ⟨b, c, e, by rw [ho]; exact h1, fun h => h2 (hs _ _ h1 h), by rw [hb _ _ h1]; exact h3, h4.mono hS hw hsh hm (Nat.le_refl _)⟩
  | arr es elems vf ro =>
    obtain ⟨h0, h1, h2, ⟨b0, h3⟩, h4⟩ := h
    refine ⟨h0, h1, h2, ⟨b0, by rw [ho]; exact h3⟩, fun top b hb' => ?_⟩
    rw [ho] at hb'
    obtain ⟨g1, ⟨c, e, g2⟩, g3, g4⟩ := h4 top b hb'
    refine ⟨g1, ⟨c, e, by rw [hb _ _ hb']; exact g2⟩, fun hr h => g3 hr (hs _ _ hb' h), fun hv => ?_⟩
    obtain ⟨k1, k2⟩ := g4 hv
    refine ⟨fun hr => hS _ (k1 hr), fun i j hi hj => ?_⟩
    obtain ⟨u, u1, u2, u3⟩ := k2 i j hi hj
    exact ⟨u, by rw [cell_of_heap (hb _ _ hb')]; exact u1, u2, u3.mono hS hw⟩
  | map es =>
    obtain ⟨b, ms, clock, h1, h2, h3, h4, h5⟩ := h
    refine ⟨b, ms, clock, by rw [ho]; exact h1, fun h => h2 (hs _ _ h1 h), by rw [hb _ _ h1]; exact h3, h4, fun j hj => ?_⟩
    obtain ⟨m, m1, m2, m3⟩ := h5 j hj
    exact ⟨m, m1, m2.mono hS hw, m3.mono hS hw hsh hm (Nat.le_refl _)⟩
  | loop l =>
    obtain ⟨b, r, h1, h2, h3, q1, q2, q3, q5, q6, q7, q8, q9⟩ := h
    exact ⟨b, r, by rw [ho]; exact h1, fun h => h2 (hs _ _ h1 h), by rw [hb _ _ h1]; exact h3, q1, q2, q3, q5, q6, q7, q8, fun t => (q9 t).mono hS hw hsh hm (Nat.le_refl _)⟩
  | mat es rows n => exact MatRel.mono hS hw ho hb hs h
  | gone => trivial

/-! ### heaps -/
theorem Fr.get_ins (q : Nat) (x : Blk) : ∀ f : Fr, (f.ins q x).get q = some x
  | [] => by simp [Fr.ins, Fr.get]
  | (k, b) :: r => by
    unfold Fr.ins
    split
    · simp [Fr.get]
    · split
      · simp [Fr.get]
      · rename_i h _; simp [Fr.get, h, Fr.get_ins q x r]

theorem Fr.get_ins_other {q p : Nat} (x : Blk) (h : p ≠ q) : ∀ f : Fr, (f.ins q x).get p = f.get p
  | [] => by simp [Fr.ins, Fr.get, h]
  | (k, b) :: r => by
    unfold Fr.ins
    split
    · rename_i hk; subst hk; simp [Fr.get, h]
    · split
      · simp [Fr.get, h]
      · simp only [Fr.get]; rw [Fr.get_ins_other x h r]

theorem Heap.get_lt : ∀ {H : Heap} {nm : Nm} {b : Blk}, H.get nm = some b → nm.1 < H.length
  | [], nm, b, h => by simp [Heap.get] at h
  | f :: H, nm, b, h => by
    unfold Heap.get at h
    split at h
    · rename_i e; simp [e]
    · have := Heap.get_lt h; simp; omega

theorem Heap.length_set : ∀ (H : Heap) (nm : Nm) (b : Blk), (H.set nm b).length = H.length
  | [], _, _ => rfl
  | f :: H, nm, b => by
    unfold Heap.set
    split
    · rfl
    · simp [Heap.length_set H nm b]

theorem Heap.get_set : ∀ {H : Heap} {nm : Nm} (b : Blk), nm.1 < H.length → (H.set nm b).get nm = some b
  | [], nm, b, h => by simp at h
  | f :: H, nm, b, h => by
    unfold Heap.set
    split
    · rename_i e; simp [Heap.get, e, Fr.get_ins]
    · rename_i e
      simp only [Heap.get, Heap.length_set, e, if_false]
      exact Heap.get_set b (by simp at h; omega)

theorem Heap.get_set_other : ∀ {H : Heap} {nm nm' : Nm} (b : Blk), nm' ≠ nm → (H.set nm b).get nm' = H.get nm'
  | [], _, _, _, _ => rfl
  | f :: H, nm, nm', b, h => by
    unfold Heap.set
    split
    · rename_i e
      simp only [Heap.get]
      split
      · rename_i e'
        refine Fr.get_ins_other b ?_ f
        intro h2; exact h (Prod.ext (by omega) h2)
      · rfl
    · simp only [Heap.get, Heap.length_set]
      split
      · rfl
      · exact Heap.get_set_other b h

theorem Heap.get_push {H : Heap} (nm : Nm) : Heap.get ([] :: H) nm = H.get nm := by
  show (if nm.1 = H.length then Fr.get [] nm.2 else H.get nm) = H.get nm
  split
  · rename_i e
    simp only [Fr.get]
    cases h : Heap.get H nm with
    | none => rfl
    | some b => have := Heap.get_lt h; omega
  · rfl

end Go.Gh

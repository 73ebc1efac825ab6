/- Appends, slices, maps, functions as equations for simp. -/
import Derived.Test.YtgmohiojddnfgaaGreatDoorWp3
namespace Go.Gh
set_option linter.unusedSimpArgs false
set_option linter.unusedVariables false

section
variable {K : Ctx} {fn : FuncId} {rec : Rec} {dst : Option Tmp} {ty : TypeId} {pos : String} {af : Array Edge} {gu : Option (Nat × Bool)} {s : Slots} {H : Heap}

/-- A slice's type: size and bytes of an element, how many cells its zero value has. -/
def tapp (P : Program) (t : TypeId) : Option (Option Nat × Option Nat × Option Nat) := (telem P t).map fun e => (tsize P e, tbytes P e, zsize P e)

def apV (lv : Option Nat) (k : Nat → Option (GV × Heap)) : Option (GV × Heap) := match lv with | some l => k l | none => none
@[congr] theorem apV_cg {lv lv' : Option Nat} {k : Nat → Option (GV × Heap)} (h : ∀ _ : Unit, lv = lv') : apV lv k = apV lv' k := by rw [h ()]
@[simp] theorem apV_some {l : Nat} {k : Nat → Option (GV × Heap)} : apV (some l) k = k l := .trans rfl rfl
def gapE (ta : Option (Option Nat × Option Nat × Option Nat)) (xs : Option (List (List PV) × Heap)) (k : Nat → Nat → List (List PV) → Heap → Option (GV × Heap)) : Option (GV × Heap) :=
  match ta, xs with
  | some (some size, some bytes, zs), some (xs, H) =>
    if zs = some size ∧ (xs.all fun r => r.length == size) = true ∧ 0 < size ∧ 0 < bytes ∧ bytes ≤ 1048576 then k size bytes xs H else none
  | _, _ => none
@[congr] theorem gapE_cg {ta ta' : Option (Option Nat × Option Nat × Option Nat)} {xs xs' : Option (List (List PV) × Heap)} {k : Nat → Nat → List (List PV) → Heap → Option (GV × Heap)} (h : ∀ _ : Unit, ta = ta') (h' : ∀ _ : Unit, xs = xs') : gapE ta xs k = gapE ta' xs' k := by rw [h (), h' ()]
@[simp] theorem gapE_some {size bytes : Nat} {zs : Option Nat} {xs : List (List PV)} {k : Nat → Nat → List (List PV) → Heap → Option (GV × Heap)} : gapE (some (some size, some bytes, zs)) (some (xs, H)) k =
    if zs = some size ∧ (xs.all fun r => r.length == size) = true ∧ 0 < size ∧ 0 < bytes ∧ bytes ≤ 1048576 then k size bytes xs H else none := .trans rfl rfl
def apK (l key : Nat) (s : GV) (size bytes : Nat) (xs : List (List PV)) (H : Heap) : Option (GV × Heap) :=
  match s with
  | .nils =>
    if xs.length * bytes ≤ 1099511627776 then (if xs.isEmpty then some (.nils, H) else rn (gnewU H l key (.arr size xs 0 false)) fun nm => .hdr nm size xs.length 0 xs.length) else none
  | .lits old =>
    (match pureRowsO old with
    | some ps => if ps.isEmpty = false ∧ xs.isEmpty = false ∧ (ps.all fun r => r.length == size) = true ∧ (ps.length + xs.length) * bytes ≤ 1099511627776 then rn (gnewU H l key (.arr size (ps ++ xs) 0 false)) (fun nm => .hdr nm size (ps.length + xs.length) 0 (ps.length + xs.length)) else none
    | none => none)
  | .hdr nm es top lo len =>
    (match H.get nm with
    | some (.arr es' elems vf ro) =>
      if es' = size ∧ es = size ∧ top = elems.length ∧ lo = 0 ∧ len = top ∧ vf ≤ top ∧ ro = false ∧ (len + xs.length) * bytes ≤ 1099511627776 ∧ nm.2 < tyBase then
        (if xs.isEmpty then some (.hdr nm es top lo len, H) else some (.hdr nm es (top + xs.length) 0 (top + xs.length), H.set nm (.arr es' (elems ++ xs) vf false)))
      else if es' = size ∧ es = size ∧ top = elems.length ∧ vf ≤ top ∧ ro = false ∧ lo + len + xs.length ≤ top then
        (if xs.isEmpty then some (.hdr nm es top lo len, H) else some (.hdr nm es top lo (len + xs.length), H.set nm (.arr es' (splice elems (lo + len) xs) top false)))
      else none
    | _ => none)
  | _ => none
@[simp] theorem apK_nils {l key size bytes : Nat} {xs : List (List PV)} : apK l key .nils size bytes xs H =
    if xs.length * bytes ≤ 1099511627776 then (if xs.isEmpty then some (.nils, H) else rn (gnewU H l key (.arr size xs 0 false)) fun nm => .hdr nm size xs.length 0 xs.length) else none := .trans rfl rfl
def apH (H : Heap) (nm : Nm) (es top lo len size bytes : Nat) (xs : List (List PV)) (b : Option Blk) : Option (GV × Heap) := match b with
    | some (.arr es' elems vf ro) =>
      if es' = size ∧ es = size ∧ top = elems.length ∧ lo = 0 ∧ len = top ∧ vf ≤ top ∧ ro = false ∧ (len + xs.length) * bytes ≤ 1099511627776 ∧ nm.2 < tyBase then
        (if xs.isEmpty then some (.hdr nm es top lo len, H) else some (.hdr nm es (top + xs.length) 0 (top + xs.length), H.set nm (.arr es' (elems ++ xs) vf false)))
      else if es' = size ∧ es = size ∧ top = elems.length ∧ vf ≤ top ∧ ro = false ∧ lo + len + xs.length ≤ top then
        (if xs.isEmpty then some (.hdr nm es top lo len, H) else some (.hdr nm es top lo (len + xs.length), H.set nm (.arr es' (splice elems (lo + len) xs) top false)))
      else none
    | _ => none
@[congr] theorem apH_cg {nm : Nm} {es top lo len size bytes : Nat} {xs : List (List PV)} {b b' : Option Blk} (h : ∀ _ : Unit, b = b') : apH H nm es top lo len size bytes xs b = apH H nm es top lo len size bytes xs b' := by rw [h ()]
@[simp] theorem apH_arr {nm : Nm} {es top lo len size bytes : Nat} {xs : List (List PV)} {es' vf : Nat} {elems : List (List PV)} {ro : Bool} : apH H nm es top lo len size bytes xs (some (.arr es' elems vf ro)) =
      if es' = size ∧ es = size ∧ top = elems.length ∧ lo = 0 ∧ len = top ∧ vf ≤ top ∧ ro = false ∧ (len + xs.length) * bytes ≤ 1099511627776 ∧ nm.2 < tyBase then
        (if xs.isEmpty then some (.hdr nm es top lo len, H) else some (.hdr nm es (top + xs.length) 0 (top + xs.length), H.set nm (.arr es' (elems ++ xs) vf false)))
      else if es' = size ∧ es = size ∧ top = elems.length ∧ vf ≤ top ∧ ro = false ∧ lo + len + xs.length ≤ top then
        (if xs.isEmpty then some (.hdr nm es top lo len, H) else some (.hdr nm es top lo (len + xs.length), H.set nm (.arr es' (splice elems (lo + len) xs) top false)))
      else none := .trans rfl rfl
@[simp] theorem apK_hdr {l key size bytes : Nat} {xs : List (List PV)} {nm : Nm} {es top lo len : Nat} : apK l key (.hdr nm es top lo len) size bytes xs H = apH H nm es top lo len size bytes xs (H.get nm) := by
  unfold apK apH
  rfl
/-- Are blocks of a slice type's elements named by their type? -/
def typE (K : Ctx) (t : TypeId) : Bool := match telem K.P t with | some e => K.typ e | none => false
theorem gappend_def {l key : Nat} {t : TypeId} {a x : GV} (hE : typE K t = false) (hk : key < tyBase) : gappend K H l key t a x = gapE (tapp K.P t) (gelems H x) (apK l key a) := by
  unfold gappend tapp
  unfold typE at hE
  cases he : telem K.P t with
  | none => rfl
  | some e =>
    rw [he] at hE
    simp only at hE
    simp only [Option.map_some]
    cases tsize K.P e with
    | none => rfl
    | some size =>
      cases tbytes K.P e with
      | none => rfl
      | some bytes =>
        cases gelems H x with
        | none => rfl
        | some y =>
          obtain ⟨xs, H1⟩ := y
          simp only [gapE]
          by_cases hc : zsize K.P e = some size ∧ (xs.all fun r => r.length == size) = true ∧ 0 < size ∧ 0 < bytes ∧ bytes ≤ 1048576
          · obtain ⟨h1, h2, h3, h4, h5⟩ := hc
            simp only [h1, h2, h3, h4, h5, decide_true, Bool.and_self, and_self, if_true]
            unfold apK
            cases a with
            | nils =>
              simp only [gnewE, hE, Bool.false_eq_true, if_false, gnewAt_U hk]
              split
              · split
                · rfl
                · cases gnewU H1 l key (.arr size xs 0 false) <;> rfl
              · rfl
            | lits old =>
              simp only [gnewE, hE, Bool.false_eq_true, if_false, gnewAt_U hk]
              cases pureRowsO old with
              | none => rfl
              | some ps =>
                simp only
                split
                · cases gnewU H1 l key (.arr size (ps ++ xs) 0 false) <;> rfl
                · rfl
            | hdr nm es top lo len =>
              simp only [nmOk, hE, Bool.false_eq_true, if_false, decide_eq_true_eq]
              rfl
            | _ => rfl
          · rw [if_neg hc, if_neg]
            intro h
            simp only [Bool.and_eq_true, decide_eq_true_eq] at h
            exact hc ⟨h.1.1.1.1, h.1.1.1.2, h.1.1.2, h.1.2, h.2⟩
def apR (r : Option Nat) (x : Option (GV × Heap)) (y : Nat → Option (GV × Heap)) : Option (GV × Heap) := match r with | none => x | some key => y key
@[congr] theorem apR_cg {r r' : Option Nat} {x : Option (GV × Heap)} {y : Nat → Option (GV × Heap)} (h : ∀ _ : Unit, r = r') : apR r x y = apR r' x y := by rw [h ()]
@[simp] theorem apR_none {x : Option (GV × Heap)} {y : Nat → Option (GV × Heap)} : apR none x y = x := .trans rfl rfl
@[simp] theorem apR_some {key : Nat} {x : Option (GV × Heap)} {y : Nat → Option (GV × Heap)} : apR (some key) x y = y key := .trans rfl rfl
def upX (bn : Option Nm) (k : Nm → Option (GV × Heap)) : Option (GV × Heap) := match bn with | some l => k l | none => none
@[congr] theorem upX_cg {lv lv' : Option Nm} {k : Nm → Option (GV × Heap)} (h : ∀ _ : Unit, lv = lv') : upX lv k = upX lv' k := by rw [h ()]
@[simp] theorem upX_some {l : Nm} {k : Nm → Option (GV × Heap)} : upX (some l) k = k l := .trans rfl rfl
def upN : GV → Option Nm | .bptr nm _ => some nm | _ => none
@[simp] theorem upN_bptr {nm : Nm} {o : Nat} : upN (.bptr nm o) = some nm := .trans rfl rfl
@[simp] theorem upBox_box {t : Nat} : upBox s (.box t) = upN (look s t) := by
  unfold upBox upN; rfl
@[simp] theorem gop_append {d : Nat} {x y : Operand} {t t2 : TypeId} (hE : typE K t = false) (hd : d < tyBase) : gop K fn ⟨some d, .call ⟨.builtin .append, #[x, y], #[t, t2]⟩, ty, pos, af, gu⟩ s H =
    if spreads K.P (some t2) = true then apR (K.row fn d) (apV (upLevel H s (K.up fn d)) fun l => gapE (tapp K.P t) (gelems H (ev s y)) (apK l d (ev s x))) fun key => upX (upBox s (K.up fn d)) fun bn => gappendR K H bn key t (ev s x) (ev s y) else none := by
  show (if spreads K.P (some t2) = true then (match K.row fn d with | none => (match upLevel H s (K.up fn d) with | some l => gappend K H l d t (ev s x) (ev s y) | none => none) | some key => (match upBox s (K.up fn d) with | some bn => gappendR K H bn key t (ev s x) (ev s y) | none => none)) else none) = _
  split
  · cases K.row fn d with
    | none =>
      simp only [apR]
      cases upLevel H s (K.up fn d) with
      | none => rfl
      | some l => exact gappend_def hE hd
    | some key => rfl
  · rfl
@[simp] theorem upLevel_scopes {n : Nat} : upLevel H s (.scopes n) = if H.length ≤ n then none else some (H.length - 1 - n) := .trans rfl rfl
def upB : GV → Option Nat | .bptr nm _ => some nm.1 | _ => none
@[simp] theorem upB_bptr {nm : Nm} {o : Nat} : upB (.bptr nm o) = some nm.1 := .trans rfl rfl
@[simp] theorem upLevel_box {t : Nat} : upLevel H s (.box t) = upB (look s t) := by
  unfold upLevel upB; rfl
@[simp] theorem gnewU_def {l key : Nat} {b : Blk} : gnewU H l key b = if H.length ≤ l then none else if (H.get (l, key)).isSome then none else some ((l, key), H.set (l, key) b) := by
  unfold gnewU
  split
  · rfl
  · cases H.get (l, key) <;> simp
@[simp] theorem gelems_nils : gelems H .nils = some ([], H) := .trans rfl rfl
@[simp] theorem gelems_pure {l : List (List PV)} : gelems H (.pure (.slice l)) = some (l, H) := .trans rfl rfl
@[simp] theorem gelems_str {l : List UInt8} : gelems H (.pure (.str l)) = some (l.map fun b => [.int .u8 b.toNat], H) := .trans rfl rfl
@[simp] theorem gelems_lits {l : List (List GV)} : gelems H (.lits l) = some (pureRows H l) := .trans rfl rfl
def elH (H : Heap) (x : PV) : Option (List (List PV) × Heap) := match x with | .slice l => some (l, H) | _ => none
@[simp] theorem elH_slice {l : List (List PV)} : elH H (.slice l) = some (l, H) := .trans rfl rfl
@[simp] theorem gelems_hdr {nm : Nm} {es top lo len : Nat} : gelems H (.hdr nm es top lo len) = elH H (slD es top lo len (H.get nm)) := by
  rw [← sliceOf_def]
  unfold gelems elH
  simp only
  generalize sliceOf H nm es top lo len = q
  cases q <;> rfl
@[simp] theorem pureRows_nil : pureRows H [] = ([], H) := .trans rfl rfl
def prC (r : List (List GV)) (x : List PV × Heap) : List (List PV) × Heap := (x.1 :: (pureRows x.2 r).1, (pureRows x.2 r).2)
@[congr] theorem prC_cg {r : List (List GV)} {x y : List PV × Heap} (h : ∀ _ : Unit, x = y) : prC r x = prC r y := by rw [h ()]
@[simp] theorem prC_pair {r : List (List GV)} {g : List PV} : prC r (g, H) = (g :: (pureRows H r).1, (pureRows H r).2) := .trans rfl rfl
@[simp] theorem pureRows_cons {g : List GV} {r : List (List GV)} : pureRows H (g :: r) = prC r (pureCells H g) := .trans rfl rfl

/-! slices of slices -/
@[simp] theorem gop_slice {t : TypeId} {x : Operand} {lo hi mx : Option Operand} : gop K fn ⟨dst, .slice t x lo hi mx, ty, pos, af, gu⟩ s H = rv H (gslice K t (ev s x) (lo.map (ev s)) (hi.map (ev s)) (mx.map (ev s))) := by
  simp only [gop, rv]; rfl
def slP (es : Option (Option Nat)) (a b : Option Nat) (l : List (List PV)) : Option GV :=
  match es, a, b with
  | some (some es), some a, some b => if a ≤ b ∧ b ≤ l.length ∧ (l.all fun r => r.length == es) = true then some (.pure (.slice ((l.take b).drop a))) else none
  | _, _, _ => none
@[simp] theorem slP_some {es a b : Nat} {l : List (List PV)} : slP (some (some es)) (some a) (some b) l = if a ≤ b ∧ b ≤ l.length ∧ (l.all fun r => r.length == es) = true then some (.pure (.slice ((l.take b).drop a))) else none := .trans rfl rfl
@[simp] theorem gslice_pure {t : TypeId} {l : List (List PV)} {lo hi : Option GV} : gslice K t (.pure (.slice l)) lo hi none = slP (telemS K.P t) (gbound lo 0) (gbound hi l.length) l := by
  unfold gslice slP telemS
  simp only [Option.isSome_none, Bool.false_eq_true, if_false]
  generalize gbound lo 0 = a
  generalize gbound hi l.length = b
  rcases a with _ | a <;> rcases b with _ | b
  · cases telem K.P t with
    | none => rfl
    | some e => simp only [Option.map_some]; cases tsize K.P e <;> rfl
  · cases telem K.P t with
    | none => rfl
    | some e => simp only [Option.map_some]; cases tsize K.P e <;> rfl
  · cases telem K.P t with
    | none => rfl
    | some e => simp only [Option.map_some]; cases tsize K.P e <;> rfl
  · cases telem K.P t with
    | none => rfl
    | some e =>
      simp only [Option.map_some]
      cases tsize K.P e with
      | none => simp
      | some es =>
        simp only
        by_cases h : a ≤ b ∧ b ≤ l.length
        · rw [if_pos h]
          simp only [h.1, h.2, true_and]
        · rw [if_neg h, if_neg (fun h' => h ⟨h'.1, h'.2.1⟩)]
def slH (es : Option (Option Nat)) (a b : Option Nat) (nm : Nm) (es' top l0 len : Nat) : Option GV :=
  match es, a, b with
  | some es, some a, some b => if a ≤ b ∧ (b ≤ len ∨ l0 + b ≤ top) ∧ es = some es' then (if a = b ∧ 0 < a then some (.pure (.slice [])) else some (.hdr nm es' top (l0 + a) (b - a))) else none
  | _, _, _ => none
@[simp] theorem slH_some {es : Option Nat} {a b : Nat} {nm : Nm} {es' top l0 len : Nat} : slH (some es) (some a) (some b) nm es' top l0 len = if a ≤ b ∧ (b ≤ len ∨ l0 + b ≤ top) ∧ es = some es' then (if a = b ∧ 0 < a then some (.pure (.slice [])) else some (.hdr nm es' top (l0 + a) (b - a))) else none := .trans rfl rfl
@[simp] theorem gslice_hdr {t : TypeId} {nm : Nm} {es top l0 len : Nat} {lo hi : Option GV} : gslice K t (.hdr nm es top l0 len) lo hi none = slH (telemS K.P t) (gbound lo 0) (gbound hi len) nm es top l0 len := by
  unfold gslice slH telemS
  simp only [Option.isSome_none, Bool.false_eq_true, if_false]
  generalize gbound lo 0 = a
  generalize gbound hi len = b
  cases telem K.P t with
  | none => cases a <;> cases b <;> rfl
  | some e => cases a <;> cases b <;> rfl
/-- A slice expression with three bounds. -/
def slX (es : Option (Option Nat)) (a : Option Nat) (b m : Int) (x : GV) : Option GV :=
  match es, a with
  | some (some es'), some a =>
    (match x with
    | .nils => if a = 0 ∧ b = 0 ∧ m = 0 then some .nils else none
    | .pure (.slice _) => if a = 0 ∧ b = 0 ∧ m = 0 then some .nils else none
    | .hdr nm es top l0 len =>
      if a = 0 ∧ b = 0 ∧ m = 0 then some .nils
      else if (a : Int) < b ∧ b ≤ m ∧ m = len ∧ l0 + len = top ∧ es' = es then some (.hdr nm es top (l0 + a) (b.toNat - a)) else none
    | _ => none)
  | _, _ => none
@[simp] theorem slX_nils {es' a : Nat} {b m : Int} : slX (some (some es')) (some a) b m .nils = if a = 0 ∧ b = 0 ∧ m = 0 then some .nils else none := .trans rfl rfl
@[simp] theorem slX_pure {es' a : Nat} {b m : Int} {l : List (List PV)} : slX (some (some es')) (some a) b m (.pure (.slice l)) = if a = 0 ∧ b = 0 ∧ m = 0 then some .nils else none := .trans rfl rfl
@[simp] theorem slX_hdr {es' a : Nat} {b m : Int} {nm : Nm} {es top l0 len : Nat} : slX (some (some es')) (some a) b m (.hdr nm es top l0 len) =
    if a = 0 ∧ b = 0 ∧ m = 0 then some .nils
    else if (a : Int) < b ∧ b ≤ m ∧ m = len ∧ l0 + len = top ∧ es' = es then some (.hdr nm es top (l0 + a) (b.toNat - a)) else none := .trans rfl rfl
@[simp] theorem gslice_max {t : TypeId} {x : GV} {lo : Option GV} {k k' : IntKind} {b m : Int} : gslice K t x lo (some (.pure (.int k b))) (some (.pure (.int k' m))) = slX (telemS K.P t) (gbound lo 0) b m x := by
  unfold gslice slX telemS
  simp only [Option.isSome_some, if_true]
  generalize gbound lo 0 = a
  cases telem K.P t with
  | none => cases a <;> rfl
  | some e =>
    simp only [Option.map_some]
    cases a with
    | none => cases tsize K.P e <;> rfl
    | some a =>
      simp only
      cases tsize K.P e with
      | none => rfl
      | some es =>
        cases x with
        | pure p => cases p <;> rfl
        | _ => rfl
def clrV (e : Option Nat) (z : Option (List PV)) (H : Heap) (x : GV) : Option Heap :=
  match e, z, x with
  | some size, some ps, .hdr nm es top lo len =>
    (match H.get nm with
    | some (.arr es' elems vf ro) => if es' = size ∧ es = size ∧ ps.length = size ∧ top = elems.length ∧ vf ≤ top ∧ ro = false ∧ lo + len ≤ top ∧ 0 < len then some (H.set nm (.arr es' (splice elems lo (List.replicate len ps)) top false)) else none
    | _ => none)
  | _, _, _ => none
/-- A slice's type: the size of an element, its zero cells, pure. -/
def tclr (P : Program) (t : TypeId) : Option (Option Nat × Option (List PV)) := (telem P t).map fun e => (tsize P e, match tzero P e with | some z => (match cellsO z with | some zs => allPure (zs.map canon1) | none => none) | none => none)
def clrT (r : Option (Option Nat × Option (List PV))) (H : Heap) (x : GV) : Option Heap := match r with | some (e, z) => clrV e z H x | none => none
@[simp] theorem clrT_some {e : Option Nat} {z : Option (List PV)} {x : GV} : clrT (some (e, z)) H x = clrV e z H x := .trans rfl rfl
def clrB (H : Heap) (size : Nat) (ps : List PV) (nm : Nm) (es top lo len : Nat) (b : Option Blk) : Option Heap := match b with
    | some (.arr es' elems vf ro) => if es' = size ∧ es = size ∧ ps.length = size ∧ top = elems.length ∧ vf ≤ top ∧ ro = false ∧ lo + len ≤ top ∧ 0 < len then some (H.set nm (.arr es' (splice elems lo (List.replicate len ps)) top false)) else none
    | _ => none
@[congr] theorem clrB_cg {size : Nat} {ps : List PV} {nm : Nm} {es top lo len : Nat} {b b' : Option Blk} (h : ∀ _ : Unit, b = b') : clrB H size ps nm es top lo len b = clrB H size ps nm es top lo len b' := by rw [h ()]
@[simp] theorem clrB_arr {size : Nat} {ps : List PV} {nm : Nm} {es top lo len : Nat} {es' vf : Nat} {elems : List (List PV)} {ro : Bool} : clrB H size ps nm es top lo len (some (.arr es' elems vf ro)) =
    if es' = size ∧ es = size ∧ ps.length = size ∧ top = elems.length ∧ vf ≤ top ∧ ro = false ∧ lo + len ≤ top ∧ 0 < len then some (H.set nm (.arr es' (splice elems lo (List.replicate len ps)) top false)) else none := .trans rfl rfl
@[simp] theorem clrV_hdr {size : Nat} {ps : List PV} {nm : Nm} {es top lo len : Nat} : clrV (some size) (some ps) H (.hdr nm es top lo len) = clrB H size ps nm es top lo len (H.get nm) := .trans rfl rfl
theorem gclear_def {t : TypeId} {x : GV} : gclear K t H x = clrT (tclr K.P t) H x := by
  unfold gclear tclr
  cases telem K.P t with
  | none => rfl
  | some e =>
    simp only [Option.map_some, clrT]
    cases tsize K.P e with
    | none => rfl
    | some size =>
      cases tzero K.P e with
      | none => cases x <;> rfl
      | some z =>
        cases x with
        | hdr nm es top lo len =>
          simp only
          cases cellsO z with
          | none => rfl
          | some zs =>
            simp only
            cases hg : H.get nm with
            | none => cases allPure (zs.map canon1) <;> simp only [clrV, hg]
            | some b =>
              cases b with
              | arr es' elems vf ro => simp only; cases allPure (zs.map canon1) <;> simp only [clrV, hg]
              | _ => cases allPure (zs.map canon1) <;> simp only [clrV, hg]
        | _ =>
          simp only
          generalize (match cellsO z with | some zs => allPure (zs.map canon1) | none => none) = ps
          cases ps <;> rfl
@[simp] theorem gop_clear {x : Operand} {t : TypeId} : gop K fn ⟨dst, .call ⟨.builtin .clear, #[x], #[t]⟩, ty, pos, af, gu⟩ s H = (clrT (tclr K.P t) H (ev s x)).map fun H => (GV.pure (.tuple []), H) := by
  show (match gclear K t H (ev s x) with | some H => some (GV.pure (.tuple []), H) | none => none) = _
  rw [gclear_def]
  cases clrT (tclr K.P t) H (ev s x) <;> rfl
def slS (un : Option TypeDesc) (a b : Option Nat) (l : List UInt8) : Option GV := match a, b, un with
    | some a, some b, some .string => if a ≤ b ∧ b ≤ l.length then some (.pure (.str ((l.take b).drop a))) else none
    | _, _, _ => none
@[simp] theorem slS_some {a b : Nat} {l : List UInt8} : slS (some .string) (some a) (some b) l = if a ≤ b ∧ b ≤ l.length then some (.pure (.str ((l.take b).drop a))) else none := .trans rfl rfl
@[simp] theorem gslice_str {t : TypeId} {l : List UInt8} {lo hi : Option GV} : gslice K t (.pure (.str l)) lo hi none = slS (K.P.underlying t) (gbound lo 0) (gbound hi l.length) l := by
  unfold gslice slS
  simp only [Option.isSome_none, Bool.false_eq_true, if_false]
  rfl
@[simp] theorem gbound_none {d : Nat} : gbound none d = some d := .trans rfl rfl
@[simp] theorem gbound_some {k : IntKind} {i : Int} {d : Nat} : gbound (some (.pure (.int k i))) d = if i < 0 then none else some i.toNat := .trans rfl rfl

/-! literals, new slices -/
/-- A slice's type: the size of an element, its zero cells. -/
def tlit (P : Program) (t : TypeId) : Option (Option Nat × Option (List GV)) := (telem P t).map fun e => (tsize P e, cellsO' (tzero P e))
def blR (own : Bool) (d : Nat) (H : Heap) (size len : Nat) (cs : List GV) (ps : Option (List PV)) : Option (GV × Heap) :=
  match ps with
  | some ps => if own then rn (gnewV H d (.arr size (chunks size len ps) 0 false)) (fun nm => .hdr nm size len 0 len) else some (.pure (.slice (chunks size len ps)), H)
  | none => if own then rn (gnewV (pureCells H cs).2 d (.arr size (chunks size len (pureCells H cs).1) 0 false)) (fun nm => .hdr nm size len 0 len) else some (.lits (chunks size len cs), H)
def blL (own : Bool) (d : Nat) (H : Heap) (size len : Nat) (x : Option (List GV)) : Option (GV × Heap) := match x with
  | some cs => if len = 0 then some (.nils, H) else blR own d H size len cs (allPure (cs.map canon1))
  | none => none
def blV (own : Bool) (d : Nat) (H : Heap) (len : Nat) (ps : List (Nat × GV)) (tl : Option (Option Nat × Option (List GV))) : Option (GV × Heap) := match tl with
  | some (some size, some zs) => if zs.length = size ∧ 0 < size ∧ len * size ≤ 16777216 then blL own d H size len (gfill (fun i => some (i * size, size)) (List.replicate len zs).flatten ps) else none
  | _ => none
@[simp] theorem blR_own {d size len : Nat} {cs : List GV} {ps : List PV} : blR true d H size len cs (some ps) = rn (gnewV H d (.arr size (chunks size len ps) 0 false)) (fun nm => .hdr nm size len 0 len) := .trans rfl rfl
@[simp] theorem blR_pure {d size len : Nat} {cs : List GV} {ps : List PV} : blR false d H size len cs (some ps) = some (.pure (.slice (chunks size len ps)), H) := .trans rfl rfl
@[simp] theorem blR_lits {d size len : Nat} {cs : List GV} : blR false d H size len cs none = some (.lits (chunks size len cs), H) := .trans rfl rfl
@[simp] theorem blR_litsOwn {d size len : Nat} {cs : List GV} : blR true d H size len cs none = rn (gnewV (pureCells H cs).2 d (.arr size (chunks size len (pureCells H cs).1) 0 false)) (fun nm => .hdr nm size len 0 len) := .trans rfl rfl
@[simp] theorem blL_some {own : Bool} {d size len : Nat} {cs : List GV} : blL own d H size len (some cs) = if len = 0 then some (.nils, H) else blR own d H size len cs (allPure (cs.map canon1)) := .trans rfl rfl
@[simp] theorem blV_some {own : Bool} {d size len : Nat} {zs : List GV} {ps : List (Nat × GV)} : blV own d H len ps (some (some size, some zs)) =
    if zs.length = size ∧ 0 < size ∧ len * size ≤ 16777216 then blL own d H size len (gfill (fun i => some (i * size, size)) (List.replicate len zs).flatten ps) else none := .trans rfl rfl
@[simp] theorem gop_buildSlice {d : Nat} {t : TypeId} {n : Nat} {ps : Array (Nat × Operand)} (hd : d < tyBase) (hlit : K.lit fn d = false) : gop K fn ⟨some d, .buildSlice t n ps, ty, pos, af, gu⟩ s H = blV (K.own fn d) d H n (ps.toList.map (evp s)) (tlit K.P t) := by
  simp only [gop, tlit, gnew_V hd, hlit]
  cases telem K.P t with
  | none => rfl
  | some e =>
    simp only [Option.map_some]
    cases tsize K.P e with
    | none => rfl
    | some size =>
      cases tzero K.P e with
      | none => rfl
      | some z =>
        simp only [cellsO'_some]
        cases cellsO z with
        | none => rfl
        | some zs =>
          simp only [blV_some]
          split
          · cases gfill (fun i => some (i * size, size)) (List.replicate n zs).flatten (ps.toList.map (evp s)) with
            | none => rfl
            | some cs =>
              simp only [blL_some]
              split
              · rfl
              · cases allPure (cs.map canon1) with
                | none =>
                  simp only
                  cases K.own fn d with
                  | true =>
                    simp only [if_true, blR_litsOwn]
                    cases gnewV (pureCells H cs).2 d (.arr size (chunks size n (pureCells H cs).1) 0 false) <;> rfl
                  | false => rfl
                | some qs =>
                  simp only
                  cases K.own fn d with
                  | true =>
                    simp only [if_true, blR_own]
                    cases gnewV H d (.arr size (chunks size n qs) 0 false) <;> rfl
                  | false => rfl
          · rfl
@[simp] theorem chunks_zero {α : Type} {es : Nat} {l : List α} : chunks es 0 l = [] := .trans rfl rfl
@[simp] theorem chunks_succ {α : Type} {es n : Nat} {l : List α} : chunks es (n + 1) l = l.take es :: chunks es n (l.drop es) := .trans rfl rfl
def tmk (P : Program) (t : TypeId) : Option (Option Nat × Option Nat × Option (List PV)) := (telem P t).map fun e => (tsize P e, tbytes P e, match cellsO' (tzero P e) with | some zs => allPure (zs.map canon1) | none => none)
def mkS (d : Nat) (H : Heap) (a b : GV) (tm : Option (Option Nat × Option Nat × Option (List PV))) : Option (GV × Heap) := match tm, a, b with
  | some (some size, some bytes, some ps), .pure (.int _ l), .pure (.int _ c) => if ps.length = size ∧ 0 < size ∧ 0 < bytes ∧ 0 ≤ l ∧ l ≤ c ∧ c * bytes ≤ 1099511627776 then
      rn (gnewV H d (.arr size (List.replicate l.toNat ps) 0 false)) (fun nm => .hdr nm size l.toNat 0 l.toNat) else none
  | _, _, _ => none
@[simp] theorem mkS_some {d size bytes : Nat} {ps : List PV} {k k' : IntKind} {l c : Int} : mkS d H (.pure (.int k l)) (.pure (.int k' c)) (some (some size, some bytes, some ps)) =
    if ps.length = size ∧ 0 < size ∧ 0 < bytes ∧ 0 ≤ l ∧ l ≤ c ∧ c * bytes ≤ 1099511627776 then
      rn (gnewV H d (.arr size (List.replicate l.toNat ps) 0 false)) (fun nm => .hdr nm size l.toNat 0 l.toNat) else none := .trans rfl rfl
@[simp] theorem gop_makeSlice {d : Nat} {t : TypeId} {l c : Operand} (hd : d < tyBase) : gop K fn ⟨some d, .makeSlice t l c, ty, pos, af, gu⟩ s H = mkS d H (ev s l) (ev s c) (tmk K.P t) := by
  simp only [gop, tmk]
  generalize ev s l = a
  generalize ev s c = b
  cases telem K.P t with
  | none => rfl
  | some e =>
    simp only [Option.map_some]
    cases tsize K.P e with
    | none => rfl
    | some size =>
      cases tbytes K.P e with
      | none => rfl
      | some bytes =>
        cases tzero K.P e with
        | none => rfl
        | some z =>
          simp only [cellsO'_some]
          cases a with
          | pure p =>
            cases p with
            | int k l =>
              cases b with
              | pure q =>
                cases q with
                | int k' c =>
                  simp only
                  cases cellsO z with
                  | none => rfl
                  | some zs =>
                    simp only
                    cases allPure (zs.map canon1) with
                    | none => rfl
                    | some ps =>
                      simp only [mkS_some]
                      split
                      · rw [gnew_V hd]
                        cases gnewV H d (.arr size (List.replicate l.toNat ps) 0 false) <;> rfl
                      · rfl
                | _ => cases cellsO z <;> try rfl
                       all_goals (rename_i zs; simp only; cases allPure (zs.map canon1) <;> rfl)
              | _ => cases cellsO z <;> try rfl
                     all_goals (rename_i zs; simp only; cases allPure (zs.map canon1) <;> rfl)
            | _ => cases cellsO z <;> try rfl
                   all_goals (rename_i zs; simp only; cases allPure (zs.map canon1) <;> rfl)
          | _ => cases cellsO z <;> try rfl
                 all_goals (rename_i zs; simp only; cases allPure (zs.map canon1) <;> rfl)

/-! maps -/
def rk (x : Option Heap) : Option (GV × Heap) := rh x
@[simp] theorem gop_makeMap {d : Nat} {t : TypeId} : gop K fn ⟨some d, .makeMap t none, ty, pos, af, gu⟩ s H = rn (gnewV H d (.map [])) .map := by
  simp only [gop, gnew_map]; cases gnewV H d (.map []) <;> rfl
def luV (ok : Bool) (z : Option GV) (x : Option (Option (Nat × GV))) : Option GV := match x with
  | some (some (_, v)) => some (if ok then mkTuple [v, .pure (.bool true)] else v)
  | some none => (match z with | some z => some (if ok then mkTuple [z, .pure (.bool false)] else z) | none => none)
  | none => none
@[simp] theorem luV_hit {ok : Bool} {z : Option GV} {i : Nat} {v : GV} : luV ok z (some (some (i, v))) = some (if ok then mkTuple [v, .pure (.bool true)] else v) := .trans rfl rfl
@[simp] theorem luV_miss {ok : Bool} {z : GV} : luV ok (some z) (some none) = some (if ok then mkTuple [z, .pure (.bool false)] else z) := .trans rfl rfl
def tmz (P : Program) (t : TypeId) : Option (TypeId × Option GV) := (tmap P t).map fun x => (x.1, tzero P x.2)
def luK (K : Ctx) (ok : Bool) (tm : Option (TypeId × Option GV)) (k : GV) (es : Option (List (PV × GV))) : Option GV := match tm, k, es with
  | some (kt, z), .pure k, some es => if keyFitsK K kt k = false then none else luV ok z (findEntry k es 0)
  | _, _, _ => none
@[simp] theorem luK_some {K : Ctx} {ok : Bool} {kt : TypeId} {z : Option GV} {k : PV} {es : List (PV × GV)} : luK K ok (some (kt, z)) (.pure k) (some es) = if keyFitsK K kt k = false then none else luV ok z (findEntry k es 0) := .trans rfl rfl
@[simp] theorem gop_lookup {t : TypeId} {x k : Operand} {ok : Bool} : gop K fn ⟨dst, .lookup t x k ok, ty, pos, af, gu⟩ s H = rv H (luK K ok (tmz K.P t) (ev s k) (mapOf H (ev s x))) := by
  have h : glookup K t H (ev s x) (ev s k) ok = luK K ok (tmz K.P t) (ev s k) (mapOf H (ev s x)) := by
    unfold glookup luK tmz
    generalize ev s k = g
    generalize mapOf H (ev s x) = m
    cases tmap K.P t with
    | none => rfl
    | some p =>
      obtain ⟨kt, e⟩ := p
      cases g with
      | pure q =>
        cases m with
        | none => rfl
        | some es =>
          simp only [Option.map_some]
          split
          · rfl
          · unfold luV
            cases findEntry q es 0 with
            | none => rfl
            | some y => cases y <;> rfl
      | _ => cases m <;> rfl
  simp only [gop, h]
  rfl
def mapB (b : Option Blk) : Option (List (PV × GV)) := match b with | some (.map es) => some es | _ => none
@[simp] theorem mapB_map {es : List (PV × GV)} : mapB (some (.map es)) = some es := .trans rfl rfl
@[simp] theorem mapOf_map {nm : Nm} : mapOf H (.map nm) = mapB (H.get nm) := by
  unfold mapOf mapB
  simp only
  generalize Heap.get H nm = q
  rcases q with _ | b
  · rfl
  · cases b <;> rfl
@[simp] theorem mapOf_nilm : mapOf H (.pure .nilm) = some [] := .trans rfl rfl
def muE (nm : Nm) (H : Heap) (k : PV) (v : GV) (es : List (PV × GV)) (x : Option (Option (Nat × GV))) : Option Heap := match x with
  | some (some (i, _)) => some (H.set nm (.map (es.set i (k, v))))
  | some none => some (H.set nm (.map (es ++ [(k, v)])))
  | none => none
@[simp] theorem muE_hit {nm : Nm} {k : PV} {v v' : GV} {es : List (PV × GV)} {i : Nat} : muE nm H k v es (some (some (i, v'))) = some (H.set nm (.map (es.set i (k, v)))) := .trans rfl rfl
@[simp] theorem muE_miss {nm : Nm} {k : PV} {v : GV} {es : List (PV × GV)} : muE nm H k v es (some none) = some (H.set nm (.map (es ++ [(k, v)]))) := .trans rfl rfl
def muK (K : Ctx) (kt : TypeId) (nm : Nm) (k : PV) (x : Option (GV × Heap)) : Option Heap := match x with
  | some (v', H1) => (match mapB (H1.get nm) with | some es => if keyFitsK K kt k = false then none else muE nm H1 k v' es (findEntry k es 0) | none => none)
  | none => none
@[simp] theorem muK_some {K : Ctx} {kt : TypeId} {nm : Nm} {k : PV} {v : GV} : muK K kt nm k (some (v, H)) = (match mapB (H.get nm) with | some es => if keyFitsK K kt k = false then none else muE nm H k v es (findEntry k es 0) | none => none) := .trans rfl rfl
def muV (K : Ctx) (tm : Option (TypeId × TypeId)) (H : Heap) (m k v : GV) : Option Heap := match tm, m, k with
  | some (kt, _), .map nm, .pure k => muK K kt nm k (lowerVal H nm.1 v)
  | _, _, _ => none
@[simp] theorem muV_some {K : Ctx} {kt e : TypeId} {nm : Nm} {k : PV} {v : GV} : muV K (some (kt, e)) H (.map nm) (.pure k) v = muK K kt nm k (lowerVal H nm.1 v) := .trans rfl rfl
@[simp] theorem lowerVal_pure {l0 : Nat} {p : PV} : lowerVal H l0 (.pure p) = some (.pure p, H) := .trans rfl rfl
@[simp] theorem gop_mapUpdate {t : TypeId} {m k v : Operand} : gop K fn ⟨dst, .mapUpdate t m k v, ty, pos, af, gu⟩ s H = rh (muV K (tmap K.P t) H (ev s m) (ev s k) (ev s v)) := by
  have h : gmapUpdate K t H (ev s m) (ev s k) (ev s v) = muV K (tmap K.P t) H (ev s m) (ev s k) (ev s v) := by
    unfold gmapUpdate muV
    generalize ev s m = gm
    generalize ev s k = gk
    cases tmap K.P t with
    | none => rfl
    | some p =>
      obtain ⟨kt, e⟩ := p
      cases gm with
      | map nm =>
        cases gk with
        | pure q =>
          simp only
          cases lowerVal H nm.1 (ev s v) with
          | none => rfl
          | some y =>
            obtain ⟨v', H1⟩ := y
            simp only [muK, mapB]
            cases H1.get nm with
            | none => rfl
            | some b =>
              cases b with
              | map es =>
                simp only
                split
                · rfl
                · unfold muE
                  cases findEntry q es 0 with
                  | none => rfl
                  | some y => cases y <;> rfl
              | _ => rfl
        | _ => rfl
      | _ => rfl
  simp only [gop, h]
  rfl

/-! functions, minimum, maximum -/
@[simp] theorem gop_makeFunc {f : Nat} {a c : Array Operand} : gop K fn ⟨dst, .makeFunc (.func f) a c, ty, pos, af, gu⟩ s H = rv H (some (mkFunc f (a.toList.map (ev s)) (c.toList.map (ev s)))) := .trans rfl rfl
@[simp] theorem mkFunc_cap {f : Nat} {a : List GV} {g : GV} {c : List GV} : mkFunc f a (g :: c) = .func f a (g :: c) := by unfold mkFunc; simp
@[simp] theorem mkFunc_first {f : Nat} {g : GV} {a c : List GV} : mkFunc f (g :: a) c = .func f (g :: a) c := by unfold mkFunc; simp
@[simp] theorem mkFunc_none {f : Nat} : mkFunc f [] [] = .pure (.fn f) := .trans rfl rfl
@[simp] theorem gop_min {args : Array Operand} {ats : Array TypeId} : gop K fn ⟨dst, .call ⟨.builtin .min, args, ats⟩, ty, pos, af, gu⟩ s H = rv H (gminmax false (args.toList.map (ev s))) := by
  simp only [gop, rv]; rfl
@[simp] theorem gop_max {args : Array Operand} {ats : Array TypeId} : gop K fn ⟨dst, .call ⟨.builtin .max, args, ats⟩, ty, pos, af, gu⟩ s H = rv H (gminmax true (args.toList.map (ev s))) := by
  simp only [gop, rv]; rfl
@[simp] theorem gminmax_one {mx : Bool} {k : IntKind} {a : Int} : gminmax mx [.pure (.int k a)] = some (.pure (.int k a)) := by
  rw [gminmax]
@[simp] theorem gminmax_two {mx : Bool} {k : IntKind} {a b : Int} {r : List GV} : gminmax mx (.pure (.int k a) :: .pure (.int k b) :: r) = gminmax mx (.pure (.int k (if mx = true then (if a < b then b else a) else (if b < a then b else a))) :: r) := by
  rw [gminmax]; simp

/-! results -/
def consO (x : Option GV) (r : Option (List GV)) : Option (List GV) := match x, r with | some v, some l => some (v :: l) | _, _ => none
@[simp] theorem consO_some {v : GV} {l : List GV} : consO (some v) (some l) = some (v :: l) := .trans rfl rfl
def resL (K : Ctx) (st : GSt) : List ResultVar → Option (List GV)
  | [] => some []
  | .tmp t :: r => consO (some (look st.s t)) (resL K st r)
  | .cell a t :: r => consO (gload K.P t st.h (look st.s a)) (resL K st r)
@[simp] theorem resL_nil {st : GSt} : resL K st [] = some [] := .trans rfl rfl
@[simp] theorem resL_tmp {st : GSt} {t : Nat} {r : List ResultVar} : resL K st (.tmp t :: r) = consO (some (look st.s t)) (resL K st r) := .trans rfl rfl
@[simp] theorem resL_cell {st : GSt} {a : Nat} {t : TypeId} {r : List ResultVar} : resL K st (.cell a t :: r) = consO (gload K.P t st.h (look st.s a)) (resL K st r) := .trans rfl rfl
@[simp] theorem gresults_def {g : Func} {st : GSt} : gresults K g st = resL K st g.results.toList := by
  unfold gresults
  generalize g.results.toList = l
  induction l with
  | nil => rfl
  | cons x r ih =>
    cases x with
    | tmp t =>
      simp only [List.mapM_cons, resL_tmp, ← ih]
      generalize List.mapM (m := Option) _ r = q
      cases q <;> rfl
    | cell a t =>
      simp only [List.mapM_cons, resL_cell, ← ih]
      cases gload K.P t st.h (look st.s a) with
      | none => rfl
      | some v =>
        generalize List.mapM (m := Option) _ r = q
        cases q <;> rfl

/-! the first region of a loop's body -/
@[simp] theorem firstRegion_region {id : Nat} {ops : Array Oper} {b : Bool} : firstRegion (.region id ops b) = id + 1 := .trans rfl rfl
@[simp] theorem firstRegion_seq {a b : Code} : firstRegion (.seq a b) = if firstRegion a = 0 then firstRegion b else firstRegion a := .trans rfl rfl
@[simp] theorem firstRegion_cond {c : Operand} {a b : Code} : firstRegion (.cond c a b) = if firstRegion a = 0 then firstRegion b else firstRegion a := .trans rfl rfl
@[simp] theorem firstRegion_block {id : Nat} {a : Code} : firstRegion (.block id a) = firstRegion a := .trans rfl rfl
@[simp] theorem firstRegion_loop {a : Code} : firstRegion (.loop a) = firstRegion a + 100000 := .trans rfl rfl
@[simp] theorem firstRegion_skip : firstRegion .skip = 0 := .trans rfl rfl
@[simp] theorem firstRegion_exit {id : Nat} : firstRegion (.exit id) = 0 := .trans rfl rfl
@[simp] theorem firstRegion_ret : firstRegion .ret = 0 := .trans rfl rfl

theorem WPv_eq {α : Type} {x : Option α} {a : α} (h : WPv x (fun r => r = a)) : x = some a := by
  obtain ⟨r, h1, h2⟩ := h; rw [h1, h2]
end
end Go.Gh

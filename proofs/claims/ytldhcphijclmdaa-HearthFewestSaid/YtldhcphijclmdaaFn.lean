/- The search for a lay: the program's closure. -/
import Derived.Test.YtldhcphijclmdaaFm
import Derived.Test.YtldhcphijclmdaaFj
namespace Go.Gh
open Go.Proofs
set_option linter.unusedSimpArgs false
set_option linter.unusedVariables false
set_option maxRecDepth 100000
set_option maxHeartbeats 4000000

variable {keep : Nat → Bool} (hk : ∀ f, kept f = false → keep f = false) {c : Nat} {H : Heap}

/-! ### plain -/
def findLoop (f : List Int → Nat → Option (List Int)) (ch : List Int) : Nat → Nat → Option (List Int)
  | 0, _ => none
  | j + 1, i => match f (ch ++ [(i : Int)]) (i + 1) with | some x => some x | none => findLoop f ch j (i + 1)
def findS (P : List Int → Bool) (n : Nat) : Nat → List Int → Nat → Option (List Int)
  | 0, ch, _ => if P ch = true then some ch else none
  | left + 1, ch, fr => findLoop (findS P n left) ch (n - fr) fr
def sizeLoop (P : List Int → Bool) (n : Nat) : Nat → Nat → Option (List Int)
  | 0, _ => none
  | j + 1, s => match findS P n s [] 0 with | some x => some x | none => sizeLoop P n j (s + 1)
/-- Is this choice warm enough? -/
noncomputable def layP : Kettle → Fire → List Pour → Nat → Nat → List Int → Bool := hid fun k f l fro last ch =>
  enoughL k fro 0 (runL k (fun m => heatL (onlyF f.coals f.touches ch).coals (beginsL (onlyF f.coals f.touches ch).coals (onlyF f.coals f.touches ch).touches) m) (last + 1) 0 ⟨k.water, k.warm.lo, k.warm.hi⟩ l)
theorem layP_def (k : Kettle) (f : Fire) (l : List Pour) (fro last : Nat) (ch : List Int) : layP k f l fro last ch = enoughL k fro 0 (runL k (fun m => heatL (onlyF f.coals f.touches ch).coals (beginsL (onlyF f.coals f.touches ch).coals (onlyF f.coals f.touches ch).touches) m) (last + 1) 0 ⟨k.water, k.warm.lo, k.warm.hi⟩ l) := by rw [layP, hid_eq]
theorem posI_lt (ch : List Int) : ∀ (i : Nat) (v p : Int), mget (posI ch i) v = some p → 0 ≤ p ∧ p < i
  | 0, v, p, h => by simp [posI, mget, mfind] at h
  | i + 1, v, p, h => by
    simp only [posI, mget_mset] at h
    split at h
    · simp only [Option.some.injEq] at h; omega
    · have := posI_lt ch i v p h; omega
theorem only_fireOk {cs : List Coal} {ts : List Touch} (hf : FireOk cs ts) {ch : List Int} (hch : ∀ x ∈ ch, 0 ≤ x ∧ x < cs.length) (hn : ch.length ≤ 12) : FireOk (onlyF cs ts ch).coals (onlyF cs ts ch).touches := by
  rw [onlyF_def]
  refine ⟨by simpa using hn, ?_, fun x hx => ?_, fun x hx => ?_⟩
  · have := touchesO_len (posI ch ch.length) ts
    have := hf.m
    simp only; omega
  · obtain ⟨a, ha, rfl⟩ := List.mem_map.1 hx
    have := hch a ha
    have hl : a.toNat < cs.length := by omega
    have e : coalAt cs a = cs[a.toNat] := by simp [coalAt, List.getD_eq_getElem?_getD, hl]
    rw [e]
    exact hf.coal _ (List.getElem_mem hl)
  · simp only [touchesO, List.mem_flatMap] at hx
    obtain ⟨t, ht, hx⟩ := hx
    unfold touchO at hx
    split at hx
    · rename_i a b e1 e2
      simp only [List.mem_singleton] at hx
      subst hx
      have h1 := posI_lt _ _ _ _ e1
      have h2 := posI_lt _ _ _ _ e2
      simp only [List.length_map]
      omega
    · simp at hx

/-! ### the closure -/
def caps (p13 p5 p6 p7 p8 p9 p14 : Nm) : List GV := [.bptr p13 0, .bptr p5 0, .bptr p6 0, .bptr p7 0, .bptr p8 0, .bptr p9 0, .bptr p14 0]
structure LayH (k : Kettle) (cs : List Coal) (ts : List Touch) (l : List Pour) (fro last : Nat) (p13 p5 p6 p7 p8 p9 p14 : Nm) (n0 : Nat) (C : GV → Heap) : Prop where
  pos : 0 < n0
  l13 : p13.1 < n0
  l5 : p5.1 < n0
  l6 : p6.1 < n0
  l7 : p7.1 < n0
  l8 : p8.1 < n0
  l9 : p9.1 < n0
  l14 : p14.1 < n0
  len : ∀ g, (C g).length = n0
  g5 : ∀ g, (C g).get p5 = some (.box (k.row.map .pure))
  g6 : ∀ g, (C g).get p6 = some (.box [.pure (.slice (cs.map Coal.row)), .pure (.slice (ts.map Touch.row))])
  g7 : ∀ g, (C g).get p7 = some (.box [.pure (.slice (l.map Pour.row))])
  g8 : ∀ g, (C g).get p8 = some (.box [.pure (.int .i64 fro)])
  g9 : ∀ g, (C g).get p9 = some (.box [.pure (.int .i64 last)])
  g14 : ∀ g, (C g).get p14 = some (.box [.func 86 [] (caps p13 p5 p6 p7 p8 p9 p14)])
  g13 : ∀ g, (C g).get p13 = some (.box [g])
  s13 : ∀ g g', (C g).set p13 (.box [g']) = C g'
theorem LayH.up {k : Kettle} {cs : List Coal} {ts : List Touch} {l : List Pour} {fro last : Nat} {p13 p5 p6 p7 p8 p9 p14 : Nm} {n0 : Nat} {C : GV → Heap} (h : LayH k cs ts l fro last p13 p5 p6 p7 p8 p9 p14 n0 C) (fr : Fr) : LayH k cs ts l fro last p13 p5 p6 p7 p8 p9 p14 (n0 + 1) (fun g => fr :: C g) := by
  have hl := h.len
  have h13 := h.l13
  have h5 := h.l5
  have h6 := h.l6
  have h7 := h.l7
  have h8 := h.l8
  have h9 := h.l9
  have h14 := h.l14
  have e13 : ¬ p13.1 = n0 := by omega
  have e5 : ¬ p5.1 = n0 := by omega
  have e6 : ¬ p6.1 = n0 := by omega
  have e7 : ¬ p7.1 = n0 := by omega
  have e8 : ¬ p8.1 = n0 := by omega
  have e9 : ¬ p9.1 = n0 := by omega
  have e14 : ¬ p14.1 = n0 := by omega
  exact ⟨by omega, by omega, by omega, by omega, by omega, by omega, by omega, by omega, fun g => by simp [hl],
    fun g => by simp [hl, e5, h.g5], fun g => by simp [hl, e6, h.g6], fun g => by simp [hl, e7, h.g7], fun g => by simp [hl, e8, h.g8], fun g => by simp [hl, e9, h.g9], fun g => by simp [hl, e14, h.g14], fun g => by simp [hl, e13, h.g13],
    fun g g' => by simp [hl, e13, h.s13]⟩
end Go.Gh


/- The search for a lay: the closure's walk. -/
namespace Go.Gh
open Go.Proofs
set_option linter.unusedSimpArgs false
set_option linter.unusedVariables false
set_option maxRecDepth 100000
set_option maxHeartbeats 4000000

variable {keep : Nat → Bool} (hk : ∀ f, kept f = false → keep f = false) {c : Nat} {H : Heap}

section
variable {k : Kettle} {cs : List Coal} {ts : List Touch} {l : List Pour} {fro last : Nat} {p13 p5 p6 p7 p8 p9 p14 : Nm}
include hk in
theorem lay_leaf {n0 : Nat} {C : GV → Heap} (M : LayH k cs ts l fro last p13 p5 p6 p7 p8 p9 p14 n0 C) (h79 : keep 79 = true) (h90 : keep 90 = true) (hko : KOk k) (hf : FireOk cs ts) (hp : PsOk k.water l) (hlast : last ≤ 300)
    {ch : List Int} (hch : ∀ x ∈ ch, 0 ≤ x ∧ x < cs.length) (hn : ch.length ≤ 12) (fr : Int) (g : GV) (c : Nat) :
    gcall (KC keep) (geval (KC keep)) 86 (.pure (.slice (ch.map irow)) :: .pure (.int .i64 fr) :: .pure (.int .i64 0) :: caps p13 p5 p6 p7 p8 p9 p14) c (C g) = some (.pure (.bool (layP k ⟨cs, ts⟩ l fro last ch)), C (.pure (.slice (ch.map irow)))) := by
  have hlen := M.len
  have h0 := M.pos
  have h13 := M.l13
  have h5 := M.l5
  have h6 := M.l6
  have h7 := M.l7
  have h8 := M.l8
  have h9 := M.l9
  have e13 : ¬ p13.1 = n0 := by omega
  have e5 : ¬ p5.1 = n0 := by omega
  have e6 : ¬ p6.1 = n0 := by omega
  have e7 : ¬ p7.1 = n0 := by omega
  have e8 : ¬ p8.1 = n0 := by omega
  have e9 : ¬ p9.1 = n0 := by omega
  have e14 : ¬ p14.1 = n0 := by have := M.l14; omega
  have hcs : cs.length ≤ 1000 := by have := hf.n; omega
  have hts : ts.length ≤ 1000 := by have := hf.m; omega
  have O := fun (H : Heap) (c : Nat) hH => only_ok (keep := keep) (H := H) (c := c) hk cs ts ch hch (by omega) hts hH
  have hof := only_fireOk hf hch hn
  have E := fun (H : Heap) (c : Nat) hH => enough_ok (keep := keep) (H := H) (c := c) hk h79 h90 hko hof hp fro hlast hH
  rw [layP_def]
  simp only
  generalize onlyF cs ts ch = o at *
  generalize enoughL k fro 0 (runL k (fun m => heatL o.coals (beginsL o.coals o.touches) m) (last + 1) 0 ⟨k.water, k.warm.lo, k.warm.hi⟩ l) = res at *
  have g5 := M.g5
  simp only [Kettle.row, List.map_cons, List.map_nil] at g5
  simp only [Kettle.row] at E
  refine WPv_eq (call_enter (KC keep) needT Try.func86 rfl rfl good86 rfl (by simp [caps]) (by rw [hlen]; exact h0) ?_)
  simp [caps, hlen, h0, h13, h5, h6, h7, h8, h9, e13, e5, e6, e7, e8, e9, e14, M.s13, M.g13, g5, M.g6, M.g7, M.g8, M.g9, O, E, Fire.row, Kettle.row, gleave_free, hk, kept]
theorem frz_caps (H : Heap) (a b : PV) : frzVals H (.pure a :: .pure b :: caps p13 p5 p6 p7 p8 p9 p14) = (.pure a :: .pure b :: caps p13 p5 p6 p7 p8 p9 p14, H) := by
  simp [caps, frzVals, frzVal, frzCell]
theorem call_hdr86 {rec : Rec} {H H' : Heap} {g0 c1 : GV} {rows : List (List PV)} {a b : PV} {c : Nat} (hz : frzVal H g0 = (c1, H')) (hc : canon c1 = canon (.pure (.slice rows))) :
    gcall (KC keep) rec 86 (g0 :: .pure a :: .pure b :: caps p13 p5 p6 p7 p8 p9 p14) c H = gcall (KC keep) rec 86 (.pure (.slice rows) :: .pure a :: .pure b :: caps p13 p5 p6 p7 p8 p9 p14) c H' := by
  have e0 : frzVals H (g0 :: .pure a :: .pure b :: caps p13 p5 p6 p7 p8 p9 p14) = (c1 :: .pure a :: .pure b :: caps p13 p5 p6 p7 p8 p9 p14, H') := by
    have e := frz_caps (p13 := p13) (p5 := p5) (p6 := p6) (p7 := p7) (p8 := p8) (p9 := p9) (p14 := p14) H' a b
    generalize (GV.pure a :: .pure b :: caps p13 p5 p6 p7 p8 p9 p14) = z at *
    unfold frzVals
    rw [hz]
    simp only [e]
  have e1 : frzVals H' (.pure (.slice rows) :: .pure a :: .pure b :: caps p13 p5 p6 p7 p8 p9 p14) = (.pure (.slice rows) :: .pure a :: .pure b :: caps p13 p5 p6 p7 p8 p9 p14, H') := by
    have e := frz_caps (p13 := p13) (p5 := p5) (p6 := p6) (p7 := p7) (p8 := p8) (p9 := p9) (p14 := p14) H' a b
    generalize (GV.pure a :: .pure b :: caps p13 p5 p6 p7 p8 p9 p14) = z at *
    unfold frzVals
    rw [frzVal_pure]
    simp only [e]
  refine gcall_canon (H' := H') rfl ?_ ?_ e1
  · rw [e0]; simp only [List.map_cons, hc]
  · rw [e0]

/-- What a call of the closure does. -/
def LayC (keep : Nat → Bool) (k : Kettle) (cs : List Coal) (ts : List Touch) (l : List Pour) (fro last : Nat) (p13 p5 p6 p7 p8 p9 p14 : Nm) (left : Nat) : Prop :=
  ∀ (n0 : Nat) (C : GV → Heap) (_ : LayH k cs ts l fro last p13 p5 p6 p7 p8 p9 p14 n0 C) (ch : List Int) (fr : Nat) (g : GV) (c : Nat), (∀ x ∈ ch, 0 ≤ x ∧ x < cs.length) → ch.length + left ≤ 12 → fr ≤ cs.length →
    ∃ g', gcall (KC keep) (geval (KC keep)) 86 (.pure (.slice (ch.map irow)) :: .pure (.int .i64 fr) :: .pure (.int .i64 left) :: caps p13 p5 p6 p7 p8 p9 p14) c (C g) = some (.pure (.bool (findS (layP k ⟨cs, ts⟩ l fro last) cs.length left ch fr).isSome), C g') ∧
      ∀ x, findS (layP k ⟨cs, ts⟩ l fro last) cs.length left ch fr = some x → g' = .pure (.slice (x.map irow))

theorem lay_loop {n0 : Nat} {C : GV → Heap} (M : LayH k cs ts l fro last p13 p5 p6 p7 p8 p9 p14 n0 C) (hcs : cs.length ≤ 12) {left : Nat} (ih : LayC keep k cs ts l fro last p13 p5 p6 p7 p8 p9 p14 left)
    {ch : List Int} (hch : ∀ x ∈ ch, 0 ≤ x ∧ x < cs.length) (hn : ch.length + (left + 1) ≤ 12) (Q : GX → GSt → Prop) : ∀ (j i : Nat) (g : GV), i + j = cs.length →
    (∀ g', findLoop (findS (layP k ⟨cs, ts⟩ l fro last) cs.length left) ch j i = none → Q (.exit 0) ⟨[(13, gdead)], [] :: C g', 46⟩) →
    (∀ g' x, findLoop (findS (layP k ⟨cs, ts⟩ l fro last) cs.length left) ch j i = some x → g' = .pure (.slice (x.map irow)) → Q .ret ⟨[(13, .pure (.bool true))], [] :: C g', 46⟩) →
    WPL (KC keep) needT 86 (lp Try.f86 0) [0, 2, 5, 9, 14] [13] Q [(0, .pure (.slice (ch.map irow))), (2, .pure (.int .i64 ((left : Int) + 1))), (5, .bptr p6 0), (9, .bptr p14 0), (14, .pure (.int .i64 i))] ([] :: C g) 46 := by
  have hlen := M.len
  have h0 := M.pos
  have h6 := M.l6
  have h14 := M.l14
  have f6 : ¬ p6.1 = n0 := by omega
  have f61 : ¬ p6.1 = n0 + 1 := by omega
  have f14 : ¬ p14.1 = n0 := by omega
  have f141 : ¬ p14.1 = n0 + 1 := by omega
  have le6 : p6.1 ≤ n0 := by omega
  have le14 : p14.1 ≤ n0 := by omega
  have g14 := M.g14
  simp only [caps] at g14
  intro j
  induction j with
  | zero =>
    intro i g hi h1 h2
    have hia : ¬ i < cs.length := by omega
    have h1' := h1 g rfl
    apply WPL_step
    conv => arg 4; whnf
    simp [hlen, f6, f61, M.g6, hia]
    exact h1'
  | succ j jh =>
    intro i g hi h1 h2
    have hia : i < cs.length := by omega
    have hw := w64 (x := (i : Int) + 1) (by omega) (by omega)
    have hw2 := w64 (x := (left : Int) + 1 - 1) (by omega) (by omega)
    have e1 : (left : Int) + 1 - 1 = left := by omega
    rw [e1] at hw2
    have hch' : ∀ x ∈ ch ++ [(i : Int)], 0 ≤ x ∧ x < cs.length := by
      intro x hx
      simp only [List.mem_append, List.mem_singleton] at hx
      rcases hx with hx | rfl
      · exact hch x hx
      · omega
    have hb : (ch.length + 1) * 8 ≤ 1099511627776 := by omega
    have hb1 : ch.length * 8 ≤ 1099511627776 := by omega
    have hll : ¬ n0 + 1 ≤ n0 := by omega
    simp only [findLoop] at h1 h2
    by_cases hz : ch = []
    · subst hz
      obtain ⟨g', T, hg'⟩ := ih (n0 + 1 + 1) _ ((M.up []).up [(40, .arr 1 [irow (i : Int)] 0 true)]) [(i : Int)] (i + 1) g 45 (by simpa using hch') (by simp; omega) (by omega)
      have fz := frzVal_apS' (H := [(40, .arr 1 [irow (i : Int)] 0 false)] :: [] :: C g) (nm := (n0 + 1, 40)) (es := 1) (vf := 0) (ro := false) (rows := [irow (i : Int)]) (fun _ => by simp [hlen]) (by simp)
      have hfz : frzH ([(40, .arr 1 [irow (i : Int)] 0 false)] :: [] :: C g) (n0 + 1, 40) 1 0 [irow (i : Int)] = [(40, .arr 1 [irow (i : Int)] 0 true)] :: [] :: C g := by simp [frzH, hlen]
      rw [hfz] at fz
      have T' := (call_hdr86 (keep := keep) (rec := geval (KC keep)) (a := .int .i64 ((i + 1 : Nat) : Int)) (b := .int .i64 left) (c := 45) (p13 := p13) (p5 := p5) (p6 := p6) (p7 := p7) (p8 := p8) (p9 := p9) (p14 := p14) fz (canon_frzS _)).trans T
      simp [apS, caps, irow] at T'
      simp only [List.nil_append] at h1 h2
      cases hfs : findS (layP k ⟨cs, ts⟩ l fro last) cs.length left [(i : Int)] (i + 1) with
      | none =>
        rw [hfs] at T' h1 h2
        have jh' := jh (i + 1) g' (by omega) h1 h2
        simp at T'
        apply WPL_step
        conv => arg 4; whnf
        simp [hlen, f6, f61, f14, f141, le6, le14, M.g6, g14, hia, hw, hw2, e1, T', irow, hll]
        simpa using jh'
      | some x =>
        rw [hfs] at T' h2
        have h2' := h2 g' x rfl (hg' x hfs)
        simp at T'
        apply WPL_step
        conv => arg 4; whnf
        simp [hlen, f6, f61, f14, f141, le6, le14, M.g6, g14, hia, hw, hw2, e1, T', irow, hll]
        exact h2'
    · have hr : ch.map irow ≠ [] := by simpa using hz
      obtain ⟨g', T, hg'⟩ := ih (n0 + 1 + 1) _ ((M.up []).up [(37, .arr 1 ((ch ++ [(i : Int)]).map irow) 0 true)]) (ch ++ [(i : Int)]) (i + 1) g 45 hch' (by simp; omega) (by omega)
      have fz := frzVal_apS' (H := [(37, .arr 1 ((ch ++ [(i : Int)]).map irow) 0 false)] :: [] :: C g) (nm := (n0 + 1, 37)) (es := 1) (vf := 0) (ro := false) (rows := (ch ++ [(i : Int)]).map irow) (fun _ => by simp [hlen]) (by simp)
      have hfz : frzH ([(37, .arr 1 ((ch ++ [(i : Int)]).map irow) 0 false)] :: [] :: C g) (n0 + 1, 37) 1 0 ((ch ++ [(i : Int)]).map irow) = [(37, .arr 1 ((ch ++ [(i : Int)]).map irow) 0 true)] :: [] :: C g := by simp [frzH, hlen]
      rw [hfz] at fz
      have T' := (call_hdr86 (keep := keep) (rec := geval (KC keep)) (a := .int .i64 ((i + 1 : Nat) : Int)) (b := .int .i64 left) (c := 45) (p13 := p13) (p5 := p5) (p6 := p6) (p7 := p7) (p8 := p8) (p9 := p9) (p14 := p14) fz (canon_frzS _)).trans T
      simp [apS, caps, irow] at T'
      cases hfs : findS (layP k ⟨cs, ts⟩ l fro last) cs.length left (ch ++ [(i : Int)]) (i + 1) with
      | none =>
        rw [hfs] at T' h1 h2
        have jh' := jh (i + 1) g' (by omega) h1 h2
        simp at T'
        apply WPL_step
        conv => arg 4; whnf
        simp [hlen, f6, f61, f14, f141, le6, le14, M.g6, g14, hia, hw, hw2, e1, T', irow, hz, hb, hb1, hll]
        simpa using jh'
      | some x =>
        rw [hfs] at T' h2
        have h2' := h2 g' x rfl (hg' x hfs)
        simp at T'
        apply WPL_step
        conv => arg 4; whnf
        simp [hlen, f6, f61, f14, f141, le6, le14, M.g6, g14, hia, hw, hw2, e1, T', irow, hz, hb, hb1, hll]
        exact h2'
include hk in
theorem lay_rec (h79 : keep 79 = true) (h90 : keep 90 = true) (hko : KOk k) (hf : FireOk cs ts) (hp : PsOk k.water l) (hlast : last ≤ 300) : ∀ left : Nat, LayC keep k cs ts l fro last p13 p5 p6 p7 p8 p9 p14 left
  | 0 => by
    intro n0 C M ch fr g c hch hn hfr
    refine ⟨.pure (.slice (ch.map irow)), (lay_leaf hk M h79 h90 hko hf hp hlast hch (by omega) fr g c).trans ?_, fun x hx => ?_⟩
    · simp only [findS]
      cases layP k ⟨cs, ts⟩ l fro last ch <;> rfl
    · simp only [findS] at hx
      split at hx
      · rw [Option.some.inj hx]
      · cases hx
  | left + 1 => by
    intro n0 C M ch fr g c hch hn hfr
    have ih := lay_rec h79 h90 hko hf hp hlast left
    have hlen := M.len
    have h0 := M.pos
    have h13 := M.l13
    have h5 := M.l5
    have h6 := M.l6
    have h7 := M.l7
    have h8 := M.l8
    have h9 := M.l9
    have h14 := M.l14
    have hcs : cs.length ≤ 12 := hf.n
    have hne : ¬ ((left : Int) + 1 = 0) := by omega
    have hne' : ((left : Int) + 1 == 0) = false := by simpa using hne
    have key : WPv (gcall (KC keep) (geval (KC keep)) 86 (.pure (.slice (ch.map irow)) :: .pure (.int .i64 fr) :: .pure (.int .i64 ((left + 1 : Nat) : Int)) :: caps p13 p5 p6 p7 p8 p9 p14) c (C g)) (fun r => r.1 = .pure (.bool (findS (layP k ⟨cs, ts⟩ l fro last) cs.length (left + 1) ch fr).isSome) ∧ ∃ g', r.2 = C g' ∧
        ∀ x, findS (layP k ⟨cs, ts⟩ l fro last) cs.length (left + 1) ch fr = some x → g' = .pure (.slice (x.map irow))) := by
      refine call_enter (KC keep) needT Try.func86 rfl rfl good86 rfl (by simp [caps]) (by rw [hlen]; exact h0) ?_
      have L := fun Q h1 h2 => lay_loop (keep := keep) M hcs ih hch hn Q (cs.length - fr) fr g (by omega) h1 h2
      simp only [findS]
      generalize findLoop (findS (layP k ⟨cs, ts⟩ l fro last) cs.length left) ch (cs.length - fr) fr = res at *
      simp [caps, hne, hne']
      refine L _ (fun g' e => ?_) (fun g' x e e2 => ?_)
      · subst e
        simp [gleave_free, hk, kept]
        exact ⟨g', rfl⟩
      · subst e
        simp [gleave_free, hk, kept]
        first | exact ⟨g', rfl, e2⟩ | rw [e2]
    obtain ⟨⟨r, H'⟩, e1, e2, g', e3, e4⟩ := key
    simp only at e2 e3
    exact ⟨g', by rw [e1, e2, e3], e4⟩
end
end Go.Gh


/- Lay of the program. -/
namespace Go.Gh
open Go.Proofs
set_option linter.unusedSimpArgs false
set_option linter.unusedVariables false
set_option maxRecDepth 100000
set_option maxHeartbeats 4000000

variable {keep : Nat → Bool} (hk : ∀ f, kept f = false → keep f = false) {c : Nat} {H : Heap}

noncomputable def layA : Kettle → Fire → List Pour → Int → Int → List Int × Int := hid fun k f l fro to =>
  if askedF k f l 0 ≠ 0 then ([], askedF k f l 0)
  else if ¬ (0 ≤ fro ∧ fro ≤ 300) ∨ ¬ (0 ≤ to ∧ to ≤ 300) then ([], 2)
  else if to < fro then ([], 11)
  else if 8 < f.coals.length then ([], 8)
  else match sizeLoop (layP k f l fro.toNat to.toNat) f.coals.length (f.coals.length + 1) 0 with | some x => (x, 0) | none => ([], 7)
theorem layA_def (k : Kettle) (f : Fire) (l : List Pour) (fro to : Int) : layA k f l fro to =
  if askedF k f l 0 ≠ 0 then ([], askedF k f l 0)
  else if ¬ (0 ≤ fro ∧ fro ≤ 300) ∨ ¬ (0 ≤ to ∧ to ≤ 300) then ([], 2)
  else if to < fro then ([], 11)
  else if 8 < f.coals.length then ([], 8)
  else match sizeLoop (layP k f l fro.toNat to.toNat) f.coals.length (f.coals.length + 1) 0 with | some x => (x, 0) | none => ([], 7) := by rw [layA, hid_eq]

def lyr (k : Kettle) (f : Fire) (l : List Pour) (fro last : Nat) (L : Nat) (g : GV) : Fr :=
  [(5, .box (k.row.map .pure)), (6, .box [.pure (.slice (f.coals.map Coal.row)), .pure (.slice (f.touches.map Touch.row))]), (7, .box [.pure (.slice (l.map Pour.row))]), (8, .box [.pure (.int .i64 fro)]), (9, .box [.pure (.int .i64 last)]), (13, .box [g]), (14, .box [.func 86 [] (caps (L, 13) (L, 5) (L, 6) (L, 7) (L, 8) (L, 9) (L, 14))])]
theorem layH (k : Kettle) (f : Fire) (l : List Pour) (fro last : Nat) : LayH k f.coals f.touches l fro last (H.length, 13) (H.length, 5) (H.length, 6) (H.length, 7) (H.length, 8) (H.length, 9) (H.length, 14) (H.length + 1) (fun g => lyr k f l fro last H.length g :: H) where
  pos := by omega
  l13 := by simp
  l5 := by simp
  l6 := by simp
  l7 := by simp
  l8 := by simp
  l9 := by simp
  l14 := by simp
  len := fun g => by simp
  g5 := fun g => by simp [lyr]
  g6 := fun g => by simp [lyr]
  g7 := fun g => by simp [lyr]
  g8 := fun g => by simp [lyr]
  g9 := fun g => by simp [lyr]
  g14 := fun g => by simp [lyr]
  g13 := fun g => by simp [lyr]
  s13 := fun g g' => by simp [lyr]
include hk in
theorem Lay_loop (h79 : keep 79 = true) (h90 : keep 90 = true) {k : Kettle} {f : Fire} {l : List Pour} {fro last : Nat} (hko : KOk k) (hf : FireOk f.coals f.touches) (hp : PsOk k.water l) (hlast : last ≤ 300) (h8 : f.coals.length ≤ 8) (Q : GX → GSt → Prop) : ∀ (j s : Nat) (g : GV), s + j = f.coals.length + 1 →
    (∀ g', sizeLoop (layP k f l fro last) f.coals.length j s = none → Q (.exit 1) ⟨[(10, gdead), (11, gdead)], lyr k f l fro last H.length g' :: H, 52⟩) →
    (∀ g' x, sizeLoop (layP k f l fro last) f.coals.length j s = some x → Q .ret ⟨[(10, .pure (.slice (x.map irow))), (11, .pure (.int .i64 0))], lyr k f l fro last H.length g' :: H, 52⟩) →
    WPL (KC keep) needT 58 (lp Try.f58 0) [13, 14, 43, 44] [10, 11] Q [(13, .bptr (H.length, 13) 0), (14, .bptr (H.length, 14) 0), (43, .pure (.int .i64 ((f.coals.length : Int) + 1))), (44, .pure (.int .i64 s))] (lyr k f l fro last H.length g :: H) 52 := by
  intro j
  induction j with
  | zero =>
    intro s g hi h1 h2
    have hia : ¬ (s : Int) < (f.coals.length : Int) + 1 := by omega
    have h1' := h1 g rfl
    apply WPL_step
    conv => arg 4; whnf
    simp [hia, lyr]
    simpa [lyr] using h1'
  | succ j jh =>
    intro s g hi h1 h2
    have hia : (s : Int) < (f.coals.length : Int) + 1 := by omega
    have hia' : s < f.coals.length + 1 := by omega
    have hw := w64 (x := (s : Int) + 1) (by omega) (by omega)
    obtain ⟨g', T, hg'⟩ := lay_rec hk h79 h90 hko hf hp hlast s _ _ ((layH (H := H) k f l fro last).up []) [] 0 g 49 (by simp) (by simp; omega) (by omega)
    have T' := (call_hdr86 (keep := keep) (rec := geval (KC keep)) (g0 := .nils) (c1 := .nils) (a := .int .i64 ((0 : Nat) : Int)) (b := .int .i64 s) (c := 49) (p13 := (H.length, 13)) (p5 := (H.length, 5)) (p6 := (H.length, 6)) (p7 := (H.length, 7)) (p8 := (H.length, 8)) (p9 := (H.length, 9)) (p14 := (H.length, 14)) (H := [] :: lyr k f l fro last H.length g :: H) (H' := [] :: lyr k f l fro last H.length g :: H) (rows := List.map irow []) (by simp [frzVal, frzCell]) rfl).trans T
    simp only [sizeLoop] at h1 h2
    have ef : (⟨f.coals, f.touches⟩ : Fire) = f := rfl
    rw [ef] at T' hg'
    cases hfs : findS (layP k f l fro last) f.coals.length s [] 0 with
    | none =>
      rw [hfs] at T' h1 h2
      have jh' := jh (s + 1) g' (by omega) h1 h2
      simp [caps, lyr] at T'
      apply WPL_step
      conv => arg 4; whnf
      simp [lyr, caps, hia, hia', hw, T']
      simpa [lyr, caps] using jh'
    | some x =>
      rw [hfs] at T' h2
      have h2' := h2 g' x rfl
      have hgx := hg' x hfs
      subst hgx
      simp [caps, lyr] at T'
      apply WPL_step
      conv => arg 4; whnf
      simp [lyr, caps, hia, hia', hw, T']
      simpa [lyr, caps] using h2'

include hk in
theorem Lay_ok (h79 : keep 79 = true) (h90 : keep 90 = true) (k : Kettle) (f : Fire) (l : List Pour) (fro to : Int) (hH : 0 < H.length) :
    gcall (KC keep) (geval (KC keep)) 58 [.pure (.agg k.row), .pure (.agg f.row), .pure (.slice (l.map Pour.row)), .pure (.int .i64 fro), .pure (.int .i64 to)] c H =
      some (.pure (.tuple [.slice ((layA k f l fro to).1.map irow), .int .i64 (layA k f l fro to).2]), H) := by
  refine WPv_eq (call_enter (KC keep) needT Try.func58 rfl rfl good58 rfl (by simp) hH ?_)
  rw [layA_def]
  have A := fun (H : Heap) (c : Nat) hH => asked_ok (H := H) (c := c) (w := k.water) (wl := k.warm.lo) (wh := k.warm.hi) (ro := k.room) (ga := k.gain) (lo := k.lose) (si := k.sing) (bo := k.boil) (cs := f.coals) (ts := f.touches) (l := l) (n := 0) hk hH
  have ek : (⟨k.water, ⟨k.warm.lo, k.warm.hi⟩, k.room, k.gain, k.lose, k.sing, k.boil⟩ : Kettle) = k := rfl
  have ef : (⟨f.coals, f.touches⟩ : Fire) = f := rfl
  rw [ek, ef] at A
  have W := fun (H : Heap) (c : Nat) x hH => within_ok (keep := keep) (H := H) (c := c) (x := x) (lo := 0) (hi := 300) hk hH
  by_cases h : askedF k f l 0 = 0
  · obtain ⟨a1, a2, a3, a4, a5, a6, a7⟩ := asked_zero h
    rw [if_neg (by simpa using h)]
    by_cases w1 : 0 ≤ fro ∧ fro ≤ 300
    · have i1 : inB fro 0 300 = true := by simp [inB, w1]
      by_cases w2 : 0 ≤ to ∧ to ≤ 300
      · have i2 : inB to 0 300 = true := by simp [inB, w2]
        rw [if_neg (by intro e; rcases e with e | e; exact e w1; exact e w2)]
        by_cases w3 : to < fro
        · rw [if_pos w3]
          simp [Kettle.row, Fire.row, A, h, W, i1, i2, w3, gleave_free, hk, kept]
        · rw [if_neg w3]
          have w3' : to.toNat = to := by omega
          by_cases w4 : 8 < f.coals.length
          · rw [if_pos w4]
            have w4' : (8 : Int) < f.coals.length := by omega
            simp [Kettle.row, Fire.row, A, h, W, i1, i2, w3, w4, w4', gleave_free, hk, kept]
          · rw [if_neg w4]
            have w4' : ¬ (8 : Int) < f.coals.length := by omega
            obtain ⟨fn, rfl⟩ : ∃ n : Nat, fro = n := ⟨fro.toNat, by omega⟩
            obtain ⟨tn, rfl⟩ : ∃ n : Nat, to = n := ⟨to.toNat, by omega⟩
            simp only [Int.toNat_natCast]
            have L := fun Q h1 h2 => Lay_loop (keep := keep) (H := H) (fro := fn) (last := tn) hk h79 h90 a1 a2 a4 (by omega) (by omega) Q (f.coals.length + 1) 0 .nils (by omega) h1 h2
            have hwn := w64 (x := (f.coals.length : Int) + 1) (by omega) (by omega)
            generalize sizeLoop (layP k f l fn tn) f.coals.length (f.coals.length + 1) 0 = res at *
            simp [lyr, caps, Kettle.row] at L
            simp [Kettle.row, Fire.row, A, h, W, i1, i2, w3, w4, w4', hwn]
            refine L _ (fun g' e => ?_) (fun g' x e => ?_)
            · subst e
              simp [gleave_free, hk, kept]
            · subst e
              simp [gleave_free, hk, kept]
      · have i2 : inB to 0 300 = false := by simp [inB]; omega
        rw [if_pos (.inr w2)]
        simp [Kettle.row, Fire.row, A, h, W, i1, i2, gleave_free, hk, kept]
    · have i1 : inB fro 0 300 = false := by simp [inB]; omega
      rw [if_pos (.inl w1)]
      simp [Kettle.row, Fire.row, A, h, W, i1, gleave_free, hk, kept]
  · have h' : (askedF k f l 0 != 0) = true := by simpa using h
    rw [if_pos h]
    simp [Kettle.row, Fire.row, A, h, h', gleave_free, hk, kept]
end Go.Gh


/- Lay of the reference. -/
namespace Go.Gh
open Go.Proofs
set_option linter.unusedSimpArgs false
set_option linter.unusedVariables false
set_option maxRecDepth 100000
set_option maxHeartbeats 4000000

variable {keep : Nat → Bool} (hk : ∀ f, kept f = false → keep f = false) {c : Nat} {H : Heap}

theorem call_hdr89 {rec : Rec} {H H' : Heap} {g0 c1 : GV} {rows : List (List PV)} {q1 q2 q3 q4 q5 a b : PV} {c : Nat} (hz : frzVal H g0 = (c1, H')) (hc : canon c1 = canon (.pure (.slice rows))) :
    gcall (KC keep) rec 89 [.pure q1, .pure q2, .pure q3, .pure q4, .pure q5, g0, .pure a, .pure b] c H = gcall (KC keep) rec 89 [.pure q1, .pure q2, .pure q3, .pure q4, .pure q5, .pure (.slice rows), .pure a, .pure b] c H' := by
  have step : ∀ (H H2 : Heap) (p : PV) (l l2 : List GV), frzVals H l = (l2, H2) → frzVals H (.pure p :: l) = (.pure p :: l2, H2) := by
    intro H H2 p l l2 e
    unfold frzVals
    rw [frzVal_pure]
    simp only [e]
  have e0 : frzVals H (g0 :: [.pure a, .pure b]) = (c1 :: [.pure a, .pure b], H') := by
    have e : frzVals H' [.pure a, .pure b] = ([.pure a, .pure b], H') := step _ _ _ _ _ (step _ _ _ _ _ rfl)
    generalize ([GV.pure a, GV.pure b]) = z at *
    unfold frzVals
    rw [hz]
    simp only [e]
  have e1 := step _ _ q1 _ _ (step _ _ q2 _ _ (step _ _ q3 _ _ (step _ _ q4 _ _ (step _ _ q5 _ _ e0))))
  have e2 : frzVals H' [.pure q1, .pure q2, .pure q3, .pure q4, .pure q5, .pure (.slice rows), .pure a, .pure b] = ([.pure q1, .pure q2, .pure q3, .pure q4, .pure q5, .pure (.slice rows), .pure a, .pure b], H') :=
    step _ _ _ _ _ (step _ _ _ _ _ (step _ _ _ _ _ (step _ _ _ _ _ (step _ _ _ _ _ (step _ _ _ _ _ (step _ _ _ _ _ (step _ _ _ _ _ rfl)))))))
  refine gcall_canon (H' := H') rfl ?_ ?_ e2
  · rw [e1]; simp only [List.map_cons, List.map_nil, hc]
  · rw [e1]

def LayR (keep : Nat → Bool) (k : Kettle) (f : Fire) (l : List Pour) (fro last : Nat) (left : Nat) : Prop :=
  ∀ (H : Heap) (ch : List Int) (fr : Nat) (c : Nat), 0 < H.length → (∀ x ∈ ch, 0 ≤ x ∧ x < f.coals.length) → ch.length + left ≤ 12 → fr ≤ f.coals.length →
    ∃ y : List Int, gcall (KC keep) (geval (KC keep)) 89 [.pure (.agg k.row), .pure (.agg f.row), .pure (.slice (l.map Pour.row)), .pure (.int .i64 fro), .pure (.int .i64 last), .pure (.slice (ch.map irow)), .pure (.int .i64 fr), .pure (.int .i64 left)] c H =
      some (.pure (.tuple [.slice (y.map irow), .bool (findS (layP k f l fro last) f.coals.length left ch fr).isSome]), H) ∧ ∀ x, findS (layP k f l fro last) f.coals.length left ch fr = some x → y = x
section
variable {k : Kettle} {f : Fire} {l : List Pour} {fro last : Nat}
include hk in
theorem layR_leaf (hko : KOk k) (hf : FireOk f.coals f.touches) (hp : PsOk k.water l) (hl : l.length ≤ 1000) (hlast : last ≤ 300) (hfl : fro ≤ last) : LayR keep k f l fro last 0 := by
  intro H ch fr c hH hch hn hfr
  have hcs : f.coals.length ≤ 1000 := by have := hf.n; omega
  have hts : f.touches.length ≤ 1000 := by have := hf.m; omega
  have O := fun (H : Heap) (c : Nat) hH => onlyR_ok (keep := keep) (H := H) (c := c) hk f.coals f.touches ch hch hf.touch (by omega) hts hcs hH
  have hof := only_fireOk hf hch (by omega)
  have E := fun (H : Heap) (c : Nat) hH => enoughR_ok (keep := keep) (H := H) (c := c) hk hko hof hl hp fro hlast hfl hH
  rw [← layP_def] at E
  refine ⟨ch, ?_, fun x hx => ?_⟩
  · have e : (findS (layP k f l fro last) f.coals.length 0 ch fr).isSome = layP k f l fro last ch := by
      simp only [findS]
      cases layP k f l fro last ch <;> rfl
    rw [e]
    generalize onlyF f.coals f.touches ch = o at *
    generalize layP k f l fro last ch = res at *
    simp only [Kettle.row] at E
    refine WPv_eq (call_enter (KC keep) needT Try.func89 rfl rfl good89 rfl (by simp) hH ?_)
    simp [O, E, Fire.row, Kettle.row, gleave_free, hk, kept]
  · simp only [findS] at hx
    split at hx
    · exact Option.some.inj hx
    · cases hx
def lrf (k : Kettle) (f : Fire) : Fr := [(8, .box (k.row.map .pure)), (9, .box [.pure (.slice (f.coals.map Coal.row)), .pure (.slice (f.touches.map Touch.row))])]
theorem layR_loop (hcs : f.coals.length ≤ 12) {left : Nat} (ih : LayR keep k f l fro last left) {ch : List Int} (hH : 0 < H.length)
    (hch : ∀ x ∈ ch, 0 ≤ x ∧ x < f.coals.length) (hn : ch.length + (left + 1) ≤ 12) (Q : GX → GSt → Prop) : ∀ (j i : Nat), i + j = f.coals.length →
    (findLoop (findS (layP k f l fro last) f.coals.length left) ch j i = none → Q (.exit 0) ⟨[(16, gdead), (17, gdead)], lrf k f :: H, 61⟩) →
    (∀ x, findLoop (findS (layP k f l fro last) f.coals.length left) ch j i = some x → Q .ret ⟨[(16, .pure (.slice (x.map irow))), (17, .pure (.bool true))], lrf k f :: H, 61⟩) →
    WPL (KC keep) needT 89 (lp Try.f89 0) [2, 3, 4, 5, 7, 8, 9, 18] [16, 17] Q [(2, .pure (.slice (l.map Pour.row))), (3, .pure (.int .i64 fro)), (4, .pure (.int .i64 last)), (5, .pure (.slice (ch.map irow))), (7, .pure (.int .i64 ((left : Int) + 1))), (8, .bptr (H.length, 8) 0), (9, .bptr (H.length, 9) 0), (18, .pure (.int .i64 i))] (lrf k f :: H) 61 := by
  have hll : ¬ H.length + 1 + 1 ≤ H.length + 1 := by omega
  have hll2 : ¬ H.length + 1 ≤ H.length := by omega
  intro j
  induction j with
  | zero =>
    intro i hi h1 h2
    have hia : ¬ i < f.coals.length := by omega
    have h1' := h1 rfl
    apply WPL_step
    conv => arg 4; whnf
    simp [lrf, hia]
    simpa [lrf] using h1'
  | succ j jh =>
    intro i hi h1 h2
    have hia : i < f.coals.length := by omega
    have hw := w64 (x := (i : Int) + 1) (by omega) (by omega)
    have hw2 := w64 (x := (left : Int) + 1 - 1) (by omega) (by omega)
    have e1 : (left : Int) + 1 - 1 = left := by omega
    rw [e1] at hw2
    have hch' : ∀ x ∈ ch ++ [(i : Int)], 0 ≤ x ∧ x < f.coals.length := by
      intro x hx
      simp only [List.mem_append, List.mem_singleton] at hx
      rcases hx with hx | rfl
      · exact hch x hx
      · omega
    have hb : (ch.length + 1) * 8 ≤ 1099511627776 := by omega
    have hb1 : ch.length * 8 ≤ 1099511627776 := by omega
    simp only [findLoop] at h1 h2
    obtain ⟨key, hkey⟩ : ∃ key : Nat, key = if ch = [] then 51 else 48 := ⟨_, rfl⟩
    obtain ⟨y, T, hy⟩ := ih ([(key, .arr 1 ((ch ++ [(i : Int)]).map irow) 0 true)] :: lrf k f :: H) (ch ++ [(i : Int)]) (i + 1) 56 (by simp) hch' (by simp; omega) (by omega)
    have fz := frzVal_apS' (H := [(key, .arr 1 ((ch ++ [(i : Int)]).map irow) 0 false)] :: lrf k f :: H) (nm := (H.length + 1, key)) (es := 1) (vf := 0) (ro := false) (rows := (ch ++ [(i : Int)]).map irow) (fun _ => by simp) (by simp)
    have hfz : frzH ([(key, .arr 1 ((ch ++ [(i : Int)]).map irow) 0 false)] :: lrf k f :: H) (H.length + 1, key) 1 0 ((ch ++ [(i : Int)]).map irow) = [(key, .arr 1 ((ch ++ [(i : Int)]).map irow) 0 true)] :: lrf k f :: H := by simp [frzH]
    rw [hfz] at fz
    have T' := (call_hdr89 (keep := keep) (rec := geval (KC keep)) (q1 := .agg k.row) (q2 := .agg f.row) (q3 := .slice (l.map Pour.row)) (q4 := .int .i64 fro) (q5 := .int .i64 last) (a := .int .i64 ((i + 1 : Nat) : Int)) (b := .int .i64 left) (c := 56) fz (canon_frzS _)).trans T
    cases hfs : findS (layP k f l fro last) f.coals.length left (ch ++ [(i : Int)]) (i + 1) with
    | none =>
      rw [hfs] at T' h1 h2
      have jh' := jh (i + 1) (by omega) h1 h2
      by_cases hz : ch = []
      · subst hz
        rw [if_pos rfl] at hkey
        subst hkey
        simp [apS, irow, lrf, Kettle.row, Fire.row] at T'
        apply WPL_step
        conv => arg 4; whnf
        simp [lrf, hia, hw, hw2, e1, T', irow, hll, hll2, Kettle.row, Fire.row]
        simpa [lrf, Kettle.row] using jh'
      · rw [if_neg hz] at hkey
        subst hkey
        simp [apS, irow, lrf, Kettle.row, Fire.row] at T'
        apply WPL_step
        conv => arg 4; whnf
        simp [lrf, hia, hw, hw2, e1, T', irow, hz, hb, hb1, hll, hll2, Kettle.row, Fire.row]
        simpa [lrf, Kettle.row] using jh'
    | some x =>
      rw [hfs] at T' h2
      have h2' := h2 x rfl
      have hyx := hy x hfs
      subst hyx
      by_cases hz : ch = []
      · subst hz
        rw [if_pos rfl] at hkey
        subst hkey
        simp [apS, irow, lrf, Kettle.row, Fire.row] at T'
        apply WPL_step
        conv => arg 4; whnf
        simp [lrf, hia, hw, hw2, e1, T', irow, hll, hll2, Kettle.row, Fire.row]
        simpa [lrf, Kettle.row] using h2'
      · rw [if_neg hz] at hkey
        subst hkey
        simp [apS, irow, lrf, Kettle.row, Fire.row] at T'
        apply WPL_step
        conv => arg 4; whnf
        simp [lrf, hia, hw, hw2, e1, T', irow, hz, hb, hb1, hll, hll2, Kettle.row, Fire.row]
        simpa [lrf, Kettle.row] using h2'
include hk in
theorem layR_rec (hko : KOk k) (hf : FireOk f.coals f.touches) (hp : PsOk k.water l) (hl : l.length ≤ 1000) (hlast : last ≤ 300) (hfl : fro ≤ last) : ∀ left : Nat, LayR keep k f l fro last left
  | 0 => layR_leaf hk hko hf hp hl hlast hfl
  | left + 1 => by
    intro H ch fr c hH hch hn hfr
    have ih := layR_rec hko hf hp hl hlast hfl left
    have hne : ¬ ((left : Int) + 1 = 0) := by omega
    have hne' : ((left : Int) + 1 == 0) = false := by simpa using hne
    refine ⟨match findS (layP k f l fro last) f.coals.length (left + 1) ch fr with | some x => x | none => [], ?_, fun x hx => by rw [hx]⟩
    refine WPv_eq (call_enter (KC keep) needT Try.func89 rfl rfl good89 rfl (by simp) hH ?_)
    have L := fun Q h1 h2 => layR_loop (keep := keep) (H := H) hf.n ih hH hch hn Q (f.coals.length - fr) fr (by omega) h1 h2
    simp only [findS]
    generalize findLoop (findS (layP k f l fro last) f.coals.length left) ch (f.coals.length - fr) fr = res at *
    simp [lrf, Kettle.row] at L
    simp [hne, hne', Kettle.row, Fire.row]
    refine L _ (fun e => ?_) (fun x e => ?_)
    · subst e
      simp [gleave_free, hk, kept]
    · subst e
      simp [gleave_free, hk, kept]
end

def lyf (k : Kettle) (f : Fire) : Fr := [(5, .box (k.row.map .pure)), (6, .box [.pure (.slice (f.coals.map Coal.row)), .pure (.slice (f.touches.map Touch.row))])]
include hk in
theorem LayR_loop {k : Kettle} {f : Fire} {l : List Pour} {fro last : Nat} (hko : KOk k) (hf : FireOk f.coals f.touches) (hp : PsOk k.water l) (hl : l.length ≤ 1000) (hlast : last ≤ 300) (hfl : fro ≤ last) (h8 : f.coals.length ≤ 8) (Q : GX → GSt → Prop) : ∀ (j s : Nat), s + j = f.coals.length + 1 →
    (sizeLoop (layP k f l fro last) f.coals.length j s = none → Q (.exit 0) ⟨[(10, gdead), (11, gdead)], lyf k f :: H, 57⟩) →
    (∀ x, sizeLoop (layP k f l fro last) f.coals.length j s = some x → Q .ret ⟨[(10, .pure (.slice (x.map irow))), (11, .pure (.int .i64 0))], lyf k f :: H, 57⟩) →
    WPL (KC keep) needT 59 (lp Try.f59 0) [2, 3, 4, 5, 6, 13] [10, 11] Q [(2, .pure (.slice (l.map Pour.row))), (3, .pure (.int .i64 fro)), (4, .pure (.int .i64 last)), (5, .bptr (H.length, 5) 0), (6, .bptr (H.length, 6) 0), (13, .pure (.int .i64 s))] (lyf k f :: H) 57 := by
  intro j
  induction j with
  | zero =>
    intro s hi h1 h2
    have hia : ¬ (s : Int) ≤ f.coals.length := by omega
    have hia' : ¬ s ≤ f.coals.length := by omega
    have h1' := h1 rfl
    apply WPL_step
    conv => arg 4; whnf
    simp [hia, hia', lyf, Kettle.row]
    simpa [lyf, Kettle.row] using h1'
  | succ j jh =>
    intro s hi h1 h2
    have hia : (s : Int) ≤ f.coals.length := by omega
    have hia' : s ≤ f.coals.length := by omega
    have hw := w64 (x := (s : Int) + 1) (by omega) (by omega)
    obtain ⟨y, T, hy⟩ := layR_rec hk hko hf hp hl hlast hfl s ([] :: lyf k f :: H) [] 0 52 (by simp) (by simp) (by simp; omega) (by omega)
    have T' := (call_hdr89 (keep := keep) (rec := geval (KC keep)) (g0 := .nils) (c1 := .nils) (q1 := .agg k.row) (q2 := .agg f.row) (q3 := .slice (l.map Pour.row)) (q4 := .int .i64 fro) (q5 := .int .i64 last) (a := .int .i64 ((0 : Nat) : Int)) (b := .int .i64 s) (c := 52) (H := [] :: lyf k f :: H) (H' := [] :: lyf k f :: H) (rows := List.map irow []) (by simp [frzVal, frzCell]) rfl).trans T
    simp only [sizeLoop] at h1 h2
    cases hfs : findS (layP k f l fro last) f.coals.length s [] 0 with
    | none =>
      rw [hfs] at T' h1 h2
      have jh' := jh (s + 1) (by omega) h1 h2
      simp [lyf, Kettle.row, Fire.row] at T'
      apply WPL_step
      conv => arg 4; whnf
      simp [lyf, hia, hia', hw, T', Kettle.row, Fire.row]
      simpa [lyf, Kettle.row] using jh'
    | some x =>
      rw [hfs] at T' h2
      have h2' := h2 x rfl
      have hyx := hy x hfs
      subst hyx
      simp [lyf, Kettle.row, Fire.row] at T'
      apply WPL_step
      conv => arg 4; whnf
      simp [lyf, hia, hia', hw, T', Kettle.row, Fire.row]
      simpa [lyf, Kettle.row] using h2'
include hk in
theorem LayR_ok (k : Kettle) (f : Fire) (l : List Pour) (fro to : Int) (hH : 0 < H.length) :
    gcall (KC keep) (geval (KC keep)) 59 [.pure (.agg k.row), .pure (.agg f.row), .pure (.slice (l.map Pour.row)), .pure (.int .i64 fro), .pure (.int .i64 to)] c H =
      some (.pure (.tuple [.slice ((layA k f l fro to).1.map irow), .int .i64 (layA k f l fro to).2]), H) := by
  refine WPv_eq (call_enter (KC keep) needT Try.func59 rfl rfl good59 rfl (by simp) hH ?_)
  rw [layA_def]
  have A := fun (H : Heap) (c : Nat) hH => askedR_ok (H := H) (c := c) (w := k.water) (wl := k.warm.lo) (wh := k.warm.hi) (ro := k.room) (ga := k.gain) (lo := k.lose) (si := k.sing) (bo := k.boil) (cs := f.coals) (ts := f.touches) (l := l) (n := 0) hk hH
  have ek : (⟨k.water, ⟨k.warm.lo, k.warm.hi⟩, k.room, k.gain, k.lose, k.sing, k.boil⟩ : Kettle) = k := rfl
  have ef : (⟨f.coals, f.touches⟩ : Fire) = f := rfl
  rw [ek, ef] at A
  have W := fun (H : Heap) (c : Nat) x hH => withinR_ok (keep := keep) (H := H) (c := c) (x := x) (lo := 0) (hi := 300) hk hH
  by_cases h : askedF k f l 0 = 0
  · obtain ⟨a1, a2, a3, a4, a5, a6, a7⟩ := asked_zero h
    rw [if_neg (by simpa using h)]
    by_cases w1 : 0 ≤ fro ∧ fro ≤ 300
    · have i1 : inB fro 0 300 = true := by simp [inB, w1]
      by_cases w2 : 0 ≤ to ∧ to ≤ 300
      · have i2 : inB to 0 300 = true := by simp [inB, w2]
        rw [if_neg (by intro e; rcases e with e | e; exact e w1; exact e w2)]
        by_cases w3 : to < fro
        · rw [if_pos w3]
          simp [Kettle.row, Fire.row, A, h, W, i1, i2, w3, gleave_free, hk, kept]
        · rw [if_neg w3]
          by_cases w4 : 8 < f.coals.length
          · rw [if_pos w4]
            have w4' : (8 : Int) < f.coals.length := by omega
            simp [Kettle.row, Fire.row, A, h, W, i1, i2, w3, w4, w4', gleave_free, hk, kept]
          · rw [if_neg w4]
            have w4' : ¬ (8 : Int) < f.coals.length := by omega
            obtain ⟨fn, rfl⟩ : ∃ n : Nat, fro = n := ⟨fro.toNat, by omega⟩
            obtain ⟨tn, rfl⟩ : ∃ n : Nat, to = n := ⟨to.toNat, by omega⟩
            simp only [Int.toNat_natCast]
            have L := fun Q h1 h2 => LayR_loop (keep := keep) (H := H) (fro := fn) (last := tn) hk a1 a2 a4 (by omega) (by omega) (by omega) (by omega) Q (f.coals.length + 1) 0 (by omega) h1 h2
            generalize sizeLoop (layP k f l fn tn) f.coals.length (f.coals.length + 1) 0 = res at *
            simp [lyf, Kettle.row] at L
            simp [Kettle.row, Fire.row, A, h, W, i1, i2, w3, w4, w4']
            refine L _ (fun e => ?_) (fun x e => ?_)
            · subst e
              simp [gleave_free, hk, kept]
            · subst e
              simp [gleave_free, hk, kept]
      · have i2 : inB to 0 300 = false := by simp [inB]; omega
        rw [if_pos (.inr w2)]
        simp [Kettle.row, Fire.row, A, h, W, i1, i2, gleave_free, hk, kept]
    · have i1 : inB fro 0 300 = false := by simp [inB]; omega
      rw [if_pos (.inl w1)]
      simp [Kettle.row, Fire.row, A, h, W, i1, gleave_free, hk, kept]
  · have h' : (askedF k f l 0 != 0) = true := by simpa using h
    rw [if_pos h]
    simp [Kettle.row, Fire.row, A, h, h', gleave_free, hk, kept]
end Go.Gh

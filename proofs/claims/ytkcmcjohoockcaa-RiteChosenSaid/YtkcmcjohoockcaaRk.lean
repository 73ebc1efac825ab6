/- What is chosen by season and rank. -/
import Derived.Test.YtkcmcjohoockcaaRj
namespace Go.Gh
open Go.Proofs
set_option linter.unusedSimpArgs false
set_option linter.unusedVariables false
set_option linter.unnecessarySimpa false
set_option maxRecDepth 100000
set_option maxHeartbeats 4000000
variable {c : Nat} {H : Heap}
def bare (a : RAct) : RAct := { a with seasons := 0, rank := 0 }
def zr : Blk := .box [.pure (.int .i64 0), .pure (.int .i64 0), .nils, .nils, .nils, .nils, .nils]
noncomputable def passV : Nat → Int → RAct → Bool := hid fun kk n a => (decide (a.seasons = 0) || band .i64 (a.seasons.fdiv (2 ^ (min kk 64))) 1 == 1) && decide (a.rank ≤ n)
theorem passV_def (kk : Nat) (n : Int) (a : RAct) : passV kk n a = ((decide (a.seasons = 0) || band .i64 (a.seasons.fdiv (2 ^ (min kk 64))) 1 == 1) && decide (a.rank ≤ n)) := by rw [passV, hid_eq]
noncomputable def chosenL (kk : Nat) (n : Int) (l : List RAct) : List RAct := (l.filter (passV kk n)).map bare
theorem chosen_cons (kk : Nat) (n : Int) (a : RAct) (l : List RAct) : chosenL kk n (a :: l) = if passV kk n a = true then bare a :: chosenL kk n l else chosenL kk n l := by
  unfold chosenL
  by_cases h : passV kk n a = true
  · rw [List.filter_cons_of_pos h, if_pos h]; rfl
  · rw [List.filter_cons_of_neg h, if_neg h]
theorem choose_loop (r : Rite) (kk : Nat) (n : Int) (hk : kk ≤ 3) (hn : r.acts.length ≤ 1000000) (fin : List RAct) (Q : GX → GSt → Prop) (hH : 0 < H.length)
    (h1 : Q (.exit 0) ⟨[(3, .bptr (H.length, 3) 0), (6, .bptr (H.length, 6) 0), (9, apS (H.length, 56) 9 (fin.map RAct.row))], apF 56 9 (fin.map RAct.row) [(3, rbox r), (6, zr)] :: H, 61⟩) : ∀ (k i : Nat) (done : List RAct), i + k = r.acts.length → done.length ≤ i → done ++ chosenL kk n (r.acts.drop i) = fin →
    WPL KC needT 25 (lp Try.f25 0) [1, 2, 3, 6, 9, 28, 29, 30] [3, 6, 9] Q [(1, .pure (.int .i64 kk)), (2, .pure (.int .i64 n)), (3, .bptr (H.length, 3) 0), (6, .bptr (H.length, 6) 0), (9, apS (H.length, 56) 9 (done.map RAct.row)), (28, .pure (.slice (r.acts.map RAct.row))), (29, .pure (.int .i64 r.acts.length)), (30, .pure (.int .i64 i))] (apF 56 9 (done.map RAct.row) [(3, rbox r), (6, zr)] :: H) 61 := by
  intro k
  induction k with
  | zero =>
    intro i done hi hd hf
    have hia : ¬ i < r.acts.length := by omega
    rw [List.drop_eq_nil_of_le (by omega)] at hf
    simp [chosenL] at hf
    subst hf
    apply WPL_step
    conv => arg 4; whnf
    simp [hia, hH]
    exact h1
  | succ k ih =>
    intro i done hi hd hf
    have hia : i < r.acts.length := by omega
    have hw := w64 (x := (i : Int) + 1) (by omega) (by omega)
    rw [List.drop_eq_getElem_cons hia, chosen_cons] at hf
    have hkn : ¬ (kk : Int) < 0 := by omega
    have kt : Int.toNat (kk : Int) = kk := by omega
    have A := fun f0 => apK_1 (H := H) (l := H.length) (key := 56) (es := 9) (bytes := 72) (rows := done.map RAct.row) (r := (bare r.acts[i]).row) (fr := [(3, rbox r), (6, zr)]) (f0 := f0) rfl rfl (by simp; omega)
    simp only [RAct.row, bare] at A
    apply WPL_step
    conv => arg 4; whnf
    by_cases hp : passV kk n r.acts[i] = true
    · have hf' : (done ++ [bare r.acts[i]]) ++ chosenL kk n (r.acts.drop (i + 1)) = fin := by rw [if_pos hp] at hf; rw [← hf, List.append_assoc]; rfl
      have ih' := ih (i + 1) (done ++ [bare r.acts[i]]) (by omega) (by simp; omega) hf'
      rw [passV_def] at hp
      have hr : r.acts[i].rank ≤ n := by simp at hp; exact hp.2
      by_cases hz : r.acts[i].seasons = 0
      · have hz' : (r.acts[i].seasons == 0) = true := by simpa using hz
        simp [hia, hH, RAct.row, hw, hz, hz', hr, A]
        simpa [RAct.row, bare] using ih'
      · have hz' : (r.acts[i].seasons == 0) = false := by simpa using hz
        have hb : (band .i64 (r.acts[i].seasons.fdiv (2 ^ (min kk 64))) 1 == 1) = true := by simp [hz] at hp; simpa using hp.1
        simp [hia, hH, RAct.row, hw, hz, hz', hr, A, hkn, kt, hb]
        simpa [RAct.row, bare] using ih'
    · have hf' : done ++ chosenL kk n (r.acts.drop (i + 1)) = fin := by rw [if_neg hp] at hf; exact hf
      have ih' := ih (i + 1) done (by omega) (by omega) hf'
      rw [passV_def] at hp
      by_cases hz : r.acts[i].seasons = 0
      · have hz' : (r.acts[i].seasons == 0) = true := by simpa using hz
        have hr : ¬ r.acts[i].rank ≤ n := by simp [hz] at hp; omega
        simp [hia, hH, RAct.row, hw, hz, hz', hr]
        simpa using ih'
      · have hz' : (r.acts[i].seasons == 0) = false := by simpa using hz
        by_cases hb : (band .i64 (r.acts[i].seasons.fdiv (2 ^ (min kk 64))) 1 == 1) = true
        · have hr : ¬ r.acts[i].rank ≤ n := by rw [hb] at hp; simp at hp; omega
          simp [hia, hH, RAct.row, hw, hz, hz', hr, hkn, kt, hb]
          simpa using ih'
        · have hb' : (band .i64 (r.acts[i].seasons.fdiv (2 ^ (min kk 64))) 1 == 1) = false := by simpa using hb
          simp [hia, hH, RAct.row, hw, hz, hz', hkn, kt, hb']
          simpa using ih'
end Go.Gh


/- Copies, empty or not. -/
namespace Go.Gh
open Go.Proofs
set_option linter.unusedSimpArgs false
set_option linter.unusedVariables false
set_option linter.unnecessarySimpa false
set_option maxRecDepth 100000
set_option maxHeartbeats 4000000
variable {c : Nat} {H : Heap}
theorem gcall_cln1 {K : Ctx} {rec : Rec} {f : FuncId} {args : List GV} (h1 : K.cln f = true) (h2 : emptyArg args = true) : gcall K rec f args c H = some (.nils, H) := by
  unfold gcall
  simp [h1, h2]
theorem cloneActA (l : List RAct) (hn : l.length ≤ 1000000) (hH : 0 < H.length) (hf : H.get (H.length - 1, newKey c 7) = none) :
    gcall KC (geval KC) 80 [.pure (.slice (l.map RAct.row))] c H = some (apS (H.length - 1, newKey c 7) 9 (l.map RAct.row), apSet H (H.length - 1, newKey c 7) 9 (l.map RAct.row)) := by
  by_cases h : l = []
  · subst h
    rw [gcall_cln1 rfl rfl]
    rfl
  · have h' : l.map RAct.row ≠ [] := by simpa using h
    have := cloneAct_ok (c := c) l h hn hH hf
    rw [this]
    unfold apS apSet
    rw [if_neg h', if_neg h']
    simp
theorem cloneintA (l : List Int) (hn : l.length ≤ 1000000) (hH : 0 < H.length) (hf : H.get (H.length - 1, newKey c 7) = none) :
    gcall KC (geval KC) 75 [.pure (.slice (l.map irow))] c H = some (apS (H.length - 1, newKey c 7) 1 (l.map irow), apSet H (H.length - 1, newKey c 7) 1 (l.map irow)) := by
  by_cases h : l = []
  · subst h
    rw [gcall_cln1 rfl rfl]
    rfl
  · have h' : l.map irow ≠ [] := by simpa using h
    have := cloneint_ok (c := c) l h hn hH hf
    rw [this]
    unfold apS apSet
    rw [if_neg h', if_neg h']
    simp
end Go.Gh


/- rite.own. -/
namespace Go.Gh
open Go.Proofs
set_option linter.unusedSimpArgs false
set_option linter.unusedVariables false
set_option linter.unnecessarySimpa false
set_option maxRecDepth 100000
set_option maxHeartbeats 4000000
variable {c : Nat} {H : Heap}
theorem own_ok0 (r : Rite) (acts : List RAct) (h : Short r) (p0 : r.people ≠ []) (t0 : r.things ≠ []) (hn : acts.length ≤ 1000000) (sn : r.seen = []) (hH : 0 < H.length)
    (hf1 : H.get (H.length - 1, newKey c 28680) = none) (hf2 : H.get (H.length - 1, newKey c 28683) = none) (hf3 : H.get (H.length - 1, newKey c 28689) = none) (hf4 : H.get (H.length - 1, newKey c 28691) = none) :
    gcall0 KC (geval KC) 55 [.pure (.agg r.row), .pure (.slice (acts.map RAct.row))] c H = some (riteV (H.length - 1, newKey c 28680) (H.length - 1, newKey c 28683) (H.length - 1, newKey c 28689) (H.length - 1, newKey c 28691) { r with acts := acts }, riteH H (H.length - 1, newKey c 28680) (H.length - 1, newKey c 28683) (H.length - 1, newKey c 28689) (H.length - 1, newKey c 28691) 0 { r with acts := acts }) := by
  have gg : ∀ (H' : Heap) (a b : Nat) (x : Blk), newKey c a ≠ newKey c b → (H'.set (H.length - 1, newKey c a) x).get (H.length - 1, newKey c b) = H'.get (H.length - 1, newKey c b) := fun H' a b x h => Heap.get_set_other x (fun e => h (Prod.mk.inj e).2.symm)
  have n12 : newKey c 28680 ≠ newKey c 28683 := by unfold newKey; omega
  have n13 : newKey c 28680 ≠ newKey c 28689 := by unfold newKey; omega
  have n14 : newKey c 28680 ≠ newKey c 28691 := by unfold newKey; omega
  have n23 : newKey c 28683 ≠ newKey c 28689 := by unfold newKey; omega
  have n24 : newKey c 28683 ≠ newKey c 28691 := by unfold newKey; omega
  have n34 : newKey c 28689 ≠ newKey c 28691 := by unfold newKey; omega
  have d1 := fun x => (gg H _ _ x n12).trans hf2
  have d2 := fun x y => (gg (H.set (H.length - 1, newKey c 28680) x) _ _ y n23).trans ((gg H _ _ x n13).trans hf3)
  have d3 := fun x y => (gg (H.set (H.length - 1, newKey c 28680) x) _ _ y n24).trans ((gg H _ _ x n14).trans hf4)
  have d4 := fun x y z => (gg ((H.set (H.length - 1, newKey c 28680) x).set (H.length - 1, newKey c 28683) y) _ _ z n34).trans (d3 x y)
  have m1 : newKey 7 7 = 28680 := by decide
  have m2 : newKey 10 7 = 28683 := by decide
  have m3 : newKey 13 7 = 28686 := by decide
  have m4 : newKey 16 7 = 28689 := by decide
  have m5 : newKey 18 7 = 28691 := by decide
  have C1 := fun (F : Fr) (hf : F.get 28680 = none) => clonePerson_ok (c := 7) (H := F :: H) r.people p0 h.p (by simp) (by simp [m1, hf])
  have C2 := fun (F : Fr) (hf : F.get 28683 = none) => cloneThing_ok (c := 10) (H := F :: H) r.things t0 h.t (by simp) (by simp [m2, hf])
  have C3 := fun (F : Fr) (hf : F.get 28686 = none) => cloneintA (c := 13) (H := F :: H) r.seen h.s (by simp) (by simp [m3, hf])
  have C4 := fun (F : Fr) (hf : F.get 28689 = none) => cloneintA (c := 16) (H := F :: H) r.lapses h.l (by simp) (by simp [m4, hf])
  have C5 := fun (F : Fr) (hf : F.get 28691 = none) => cloneActA (c := 18) (H := F :: H) acts hn (by simp) (by simp [m5, hf])
  simp only [List.length_cons, Nat.add_sub_cancel, m1, m2, m3, m4, m5, apSet_1] at C1 C2 C3 C4 C5
  simp at C1 C2
  refine WPv_eq (call_enter0 KC needT Try.func55 rfl rfl good55 (by simp) hH ?_)
  rw [rowR]
  simp [C1, C2, C3, C4, C5]
  rw [sn]
  unfold riteV riteH
  by_cases e1 : r.lapses = []
  · by_cases e2 : acts = []
    · simp [e1, e2, apS, apF, gleave_keep, refs, refs2, refs1, dedup, moveOut, cleanBlk, ren, ren2, ren1, apSet, hf1, d1, d2, d3, d4]
    · simp [e1, e2, apS, apF, gleave_keep, refs, refs2, refs1, dedup, moveOut, cleanBlk, ren, ren2, ren1, apSet, hf1, d1, d2, d3, d4]
  · by_cases e2 : acts = []
    · simp [e1, e2, apS, apF, gleave_keep, refs, refs2, refs1, dedup, moveOut, cleanBlk, ren, ren2, ren1, apSet, hf1, d1, d2, d3, d4]
    · simp [e1, e2, apS, apF, gleave_keep, refs, refs2, refs1, dedup, moveOut, cleanBlk, ren, ren2, ren1, apSet, hf1, d1, d2, d3, d4]
end Go.Gh


/- rite.Choose on a rite in a frame. -/
namespace Go.Gh
open Go.Proofs
set_option linter.unusedSimpArgs false
set_option linter.unusedVariables false
set_option linter.unnecessarySimpa false
set_option maxRecDepth 100000
set_option maxHeartbeats 4000000
variable {c : Nat} {H : Heap}
theorem emptyH_len : (emptyH H).length = H.length := by simp [emptyH]
theorem emptyG_get : ∀ {H : Heap} {nm : Nm}, (emptyH H).get nm = none
  | [], _ => rfl
  | f :: H, nm => by
    have ih := emptyG_get (H := H) (nm := nm)
    unfold emptyH at ih ⊢
    rw [List.map_cons]
    simp only [Heap.get, ih]
    split <;> rfl
theorem flatRows_map {α : Type} (f : α → List PV) (h : ∀ x, flatPL (f x) = true) : ∀ l : List α, flatRows (l.map f) = true
  | [] => rfl
  | x :: l => by
    rw [List.map_cons]
    simp only [flatRows, h, flatRows_map f h l, Bool.and_self]
theorem flat_people (l : List Person) : flatRows (l.map Person.row) = true := flatRows_map _ (fun _ => rfl) l
theorem flat_things (l : List Thing) : flatRows (l.map Thing.row) = true := flatRows_map _ (fun _ => rfl) l
theorem flat_acts (l : List RAct) : flatRows (l.map RAct.row) = true := flatRows_map _ (fun _ => rfl) l
theorem flat_ints (l : List Int) : flatRows (l.map irow) = true := flatRows_map _ (fun _ => rfl) l
theorem lentIns_step {H0 H : Heap} {L k es vf : Nat} {ks : List Nat} {rows : List (List PV)} (h1 : H0.get (L, k) = some (.arr es rows vf false)) (h2 : H.get (L, k) = none) (h3 : flatRows rows = true) :
    lentIns H0 L (k :: ks) H = lentIns H0 L ks (H.set (L, k) (.arr es rows vf false)) := by
  simp only [lentIns, h1, h2, h3, if_true]
def rnames (a b d e : Nat) (r : Rite) : List Nat := a :: b :: ((if r.lapses = [] then [] else [d]) ++ (if r.acts = [] then [] else [e]))
theorem rite_refs {L a b d e : Nat} {r : Rite} (hab : a ≠ b) (had : a ≠ d) (hae : a ≠ e) (hbd : b ≠ d) (hbe : b ≠ e) (hde : d ≠ e) : dedup (refs L (riteV (L, a) (L, b) (L, d) (L, e) r)) = rnames a b d e r := by
  unfold riteV rnames
  by_cases e1 : r.lapses = [] <;> by_cases e2 : r.acts = [] <;> simp [e1, e2, apS, refs, refs2, refs1, dedup, hab, had, hae, hbd, hbe, hde]
theorem rite_refsT {L a b d e : Nat} {r : Rite} {z : Int} (hab : a ≠ b) (had : a ≠ d) (hae : a ≠ e) (hbd : b ≠ d) (hbe : b ≠ e) (hde : d ≠ e) : dedup (refs L (.tuple [riteV (L, a) (L, b) (L, d) (L, e) r, .pure (.int .i64 z)])) = rnames a b d e r := by
  unfold riteV rnames
  by_cases e1 : r.lapses = [] <;> by_cases e2 : r.acts = [] <;> simp [e1, e2, apS, refs, refs2, refs1, dedup, hab, had, hae, hbd, hbe, hde]
theorem lent1_apS {L k es : Nat} {rows : List (List PV)} : lent1 L (apS (L, k) es rows) = true := by
  unfold apS
  split
  · rfl
  · simp [lent1]
theorem riteV_lent {L a b d e : Nat} {r : Rite} : lent2 L (riteV (L, a) (L, b) (L, d) (L, e) r) = true := by
  unfold riteV
  show lentL L _ = true
  simp only [lentL, lent1_apS]
  simp [lent1, flatP]
theorem rite_lentIns {H0 : Heap} {L a b d e : Nat} {r : Rite} (hab : a ≠ b) (had : a ≠ d) (hae : a ≠ e) (hbd : b ≠ d) (hbe : b ≠ e) (hde : d ≠ e)
    (g1 : H0.get (L, a) = some (.arr 2 (r.people.map Person.row) 0 false)) (g2 : H0.get (L, b) = some (.arr 5 (r.things.map Thing.row) 0 false)) (g3 : r.lapses ≠ [] → H0.get (L, d) = some (.arr 1 (r.lapses.map irow) 0 false)) (g4 : r.acts ≠ [] → H0.get (L, e) = some (.arr 9 (r.acts.map RAct.row) 0 false))
    (f1 : H.get (L, a) = none) (f2 : H.get (L, b) = none) (f3 : H.get (L, d) = none) (f4 : H.get (L, e) = none) :
    lentIns H0 L (rnames a b d e r) H = some (riteH H (L, a) (L, b) (L, d) (L, e) 0 r) := by
  have gg : ∀ (H' : Heap) (a b : Nat) (x : Blk), a ≠ b → (H'.set (L, a) x).get (L, b) = H'.get (L, b) := fun H' a b x h => Heap.get_set_other x (fun e => h (Prod.mk.inj e).2.symm)
  have k1 := fun x => (gg H _ _ x hab).trans f2
  have k2 := fun x y => (gg (H.set (L, a) x) _ _ y hbd).trans ((gg H _ _ x had).trans f3)
  have k3 := fun x y => (gg (H.set (L, a) x) _ _ y hbe).trans ((gg H _ _ x hae).trans f4)
  have k4 := fun x y z => (gg ((H.set (L, a) x).set (L, b) y) _ _ z hde).trans (k3 x y)
  unfold rnames riteH
  rw [lentIns_step g1 f1 (flat_people _), lentIns_step g2 (k1 _) (flat_things _)]
  by_cases e1 : r.lapses = []
  · by_cases e2 : r.acts = []
    · simp [e1, e2, apSet, lentIns]
    · simp [e1, e2, apSet]
      rw [lentIns_step (g4 e2) (k3 _ _) (flat_acts _)]
      rfl
  · by_cases e2 : r.acts = []
    · simp [e1, e2, apSet]
      rw [lentIns_step (g3 e1) (k2 _ _) (flat_ints _)]
      rfl
    · simp [e1, e2, apSet]
      rw [lentIns_step (g3 e1) (k2 _ _) (flat_ints _), lentIns_step (g4 e2) (k4 _ _ _) (flat_acts _)]
      rfl
/-- The blocks of a rite in a heap of one frame more. -/
def riteF (F : Fr) (a b d e : Nat) (r : Rite) : Fr := apF e 9 (r.acts.map RAct.row) (apF d 1 (r.lapses.map irow) ((F.ins a (.arr 2 (r.people.map Person.row) 0 false)).ins b (.arr 5 (r.things.map Thing.row) 0 false)))
theorem riteH_F {F : Fr} {L a b d e : Nat} {r : Rite} (hL : L = H.length) : riteH (F :: H) (L, a) (L, b) (L, d) (L, e) 0 r = riteF F a b d e r :: H := by
  subst hL
  unfold riteH riteF
  rw [show Heap.set (Heap.set (F :: H) (H.length, a) (.arr 2 (r.people.map Person.row) 0 false)) (H.length, b) (.arr 5 (r.things.map Thing.row) 0 false) = ((F.ins a (.arr 2 (r.people.map Person.row) 0 false)).ins b (.arr 5 (r.things.map Thing.row) 0 false)) :: H by simp, apSet_1 rfl, apSet_1 rfl]
theorem riteF_get {F : Fr} {a b d e k : Nat} {r : Rite} (h1 : k ≠ a) (h2 : k ≠ b) (h3 : k ≠ d) (h4 : k ≠ e) : (riteF F a b d e r).get k = F.get k := by
  unfold riteF
  rw [apF_get h4, apF_get h3, Fr.get_ins_other _ h2, Fr.get_ins_other _ h1]
theorem riteF_1 {F : Fr} {a b d e : Nat} {r : Rite} (hab : a ≠ b) (had : a ≠ d) (hae : a ≠ e) : (riteF F a b d e r).get a = some (.arr 2 (r.people.map Person.row) 0 false) := by
  unfold riteF
  rw [apF_get hae, apF_get had, Fr.get_ins_other _ hab, Fr.get_ins]
theorem riteF_2 {F : Fr} {a b d e : Nat} {r : Rite} (hbd : b ≠ d) (hbe : b ≠ e) : (riteF F a b d e r).get b = some (.arr 5 (r.things.map Thing.row) 0 false) := by
  unfold riteF
  rw [apF_get hbe, apF_get hbd, Fr.get_ins]
theorem riteF_3 {F : Fr} {a b d e : Nat} {r : Rite} (hde : d ≠ e) (h : r.lapses ≠ []) : (riteF F a b d e r).get d = some (.arr 1 (r.lapses.map irow) 0 false) := by
  unfold riteF
  rw [apF_get hde, apF_self (by simpa using h)]
theorem riteF_4 {F : Fr} {a b d e : Nat} {r : Rite} (h : r.acts ≠ []) : (riteF F a b d e r).get e = some (.arr 9 (r.acts.map RAct.row) 0 false) := by
  unfold riteF
  rw [apF_self (by simpa using h)]
theorem riteF_srt {F : Fr} {a b d e : Nat} {r : Rite} (h : F.srt) : (riteF F a b d e r).srt := apF_srt (apF_srt (Fr.ins_srt (Fr.ins_srt h)))
theorem riteF_RV {F : Fr} {a b d e : Nat} {r : Rite} (hab : a ≠ b) (had : a ≠ d) (hae : a ≠ e) (hbd : b ≠ d) (hbe : b ≠ e) (hde : d ≠ e) (sn : r.seen = []) : RV (riteF F a b d e r) a b d e r :=
  ⟨⟨0, false, Nat.zero_le _, riteF_1 hab had hae⟩, ⟨0, false, Nat.zero_le _, riteF_2 hbd hbe⟩, fun h => ⟨0, false, Nat.zero_le _, riteF_3 hde h⟩, fun h => ⟨0, false, Nat.zero_le _, riteF_4 h⟩, sn⟩
theorem ownC_at {F : Fr} {g : GV} {r : Rite} {acts : List RAct} (hg : rdC (F :: H) g (.slice (acts.map RAct.row))) (h : Short r) (p0 : r.people ≠ []) (t0 : r.things ≠ []) (hn : acts.length ≤ 1000000) (sn : r.seen = [])
    (hf1 : F.get (newKey c 28680) = none) (hf2 : F.get (newKey c 28683) = none) (hf3 : F.get (newKey c 28689) = none) (hf4 : F.get (newKey c 28691) = none) :
    gcall KC (geval KC) 55 [.pure (.agg r.row), g] c (F :: H) = some (riteV (H.length, newKey c 28680) (H.length, newKey c 28683) (H.length, newKey c 28689) (H.length, newKey c 28691) { r with acts := acts }, riteF F (newKey c 28680) (newKey c 28683) (newKey c 28689) (newKey c 28691) { r with acts := acts } :: H) := by
  have n12 : newKey c 28680 ≠ newKey c 28683 := by unfold newKey; omega
  have n13 : newKey c 28680 ≠ newKey c 28689 := by unfold newKey; omega
  have n14 : newKey c 28680 ≠ newKey c 28691 := by unfold newKey; omega
  have n23 : newKey c 28683 ≠ newKey c 28689 := by unfold newKey; omega
  have n24 : newKey c 28683 ≠ newKey c 28691 := by unfold newKey; omega
  have n34 : newKey c 28689 ≠ newKey c 28691 := by unfold newKey; omega
  have hz : (frzVals (F :: H) [.pure (.agg r.row), g]).1.map canon = [.pure (.agg r.row), .pure (.slice (acts.map RAct.row))] := by
    rw [frzVals_cons]
    have e1 : frzVal (F :: H) (.pure (.agg r.row)) = (.pure (.agg r.row), F :: H) := rfl
    rw [e1]
    have e2 : (frzVals (F :: H) [g]).1.map canon = [.pure (.slice (acts.map RAct.row))] := by
      simp only [frzVals, List.map_cons, List.map_nil]
      cases g with
      | hdr nm es top lo len =>
        obtain ⟨rows, v, ro, a, b, d1, d2, d3, d4⟩ := hg
        cases d4
        subst d1 d2 d3
        have b' : v ≤ acts.length := by simpa using b
        have t : List.take acts.length (List.map RAct.row acts) = List.map RAct.row acts := List.take_of_length_le (by simp)
        simp [frzVal, frzCell, pureCell, a, b', t]
      | pure p => cases hg; rfl
      | nils =>
        have : acts.map RAct.row = [] := by simpa [rdC] using hg
        rw [this]; rfl
      | _ => exact hg.elim
    rw [e2]; rfl
  rw [gcall_bor KC rfl rfl, hz]
  unfold gborrow
  simp only [borBox]
  have O := own_ok0 (c := c) (H := emptyH (F :: H)) r acts h p0 t0 hn sn (by simp [emptyH]) emptyG_get emptyG_get emptyG_get emptyG_get
  rw [O]
  simp only
  have eL : (emptyH (F :: H)).length - 1 = H.length := by rw [emptyH_len]; simp
  rw [eL]
  have eE : emptyH (F :: H) = [] :: emptyH H := rfl
  rw [eE, riteH_F (H := emptyH H) (by rw [emptyH_len])]
  obtain ⟨r', hr'⟩ : ∃ r' : Rite, { r with acts := acts } = r' := ⟨_, rfl⟩
  rw [hr']
  have gE : ∀ (f : Fr) k, Heap.get (f :: emptyH H) (H.length, k) = f.get k := fun f k => by
    have := emptyH_len (H := H)
    simp [this]
  unfold lentEnd
  have e3 : (F :: H).length - 1 = H.length := by simp
  rw [e3, if_pos (show lentV H.length (riteV (H.length, newKey c 28680) (H.length, newKey c 28683) (H.length, newKey c 28689) (H.length, newKey c 28691) r') = true from riteV_lent)]
  rw [rite_refs n12 n13 n14 n23 n24 n34, rite_lentIns n12 n13 n14 n23 n24 n34 (by rw [gE, riteF_1 n12 n13 n14]) (by rw [gE, riteF_2 n23 n24]) (fun h => by rw [gE, riteF_3 n34 h]) (fun h => by rw [gE, riteF_4 h]) (by simpa using hf1) (by simpa using hf2) (by simpa using hf3) (by simpa using hf4)]
  simp only [riteH_F]
theorem rite_leave {f : Nat} {F : Fr} {r : Rite} {a b d e : Nat} {z : Int} (hk : KC.keep f = true) (hab : a ≠ b) (had : a ≠ d) (hae : a ≠ e) (hbd : b ≠ d) (hbe : b ≠ e) (hde : d ≠ e)
    (g1 : F.get a = some (.arr 2 (r.people.map Person.row) 0 false)) (g2 : F.get b = some (.arr 5 (r.things.map Thing.row) 0 false)) (g3 : r.lapses ≠ [] → F.get d = some (.arr 1 (r.lapses.map irow) 0 false)) (g4 : r.acts ≠ [] → F.get e = some (.arr 9 (r.acts.map RAct.row) 0 false))
    (f1 : H.get (H.length - 1, newKey c a) = none) (f2 : H.get (H.length - 1, newKey c b) = none) (f3 : H.get (H.length - 1, newKey c d) = none) (f4 : H.get (H.length - 1, newKey c e) = none) :
    gleave KC f c (.tuple [riteV (H.length, a) (H.length, b) (H.length, d) (H.length, e) r, .pure (.int .i64 z)]) (F :: H) =
      some (.tuple [riteV (H.length - 1, newKey c a) (H.length - 1, newKey c b) (H.length - 1, newKey c d) (H.length - 1, newKey c e) r, .pure (.int .i64 z)], riteH H (H.length - 1, newKey c a) (H.length - 1, newKey c b) (H.length - 1, newKey c d) (H.length - 1, newKey c e) 0 r) := by
  have q : ∀ {x y : Nat}, x ≠ y → newKey c x ≠ newKey c y := fun h => by unfold newKey; omega
  have gg : ∀ (H' : Heap) (a b : Nat) (x : Blk), a ≠ b → (H'.set (H.length - 1, a) x).get (H.length - 1, b) = H'.get (H.length - 1, b) := fun H' a b x h => Heap.get_set_other x (fun e => h (Prod.mk.inj e).2.symm)
  have k1 := fun x => (gg H _ _ x (q hab)).trans f2
  have k2 := fun x y => (gg (H.set (H.length - 1, newKey c a) x) _ _ y (q hbd)).trans ((gg H _ _ x (q had)).trans f3)
  have k3 := fun x y => (gg (H.set (H.length - 1, newKey c a) x) _ _ y (q hbe)).trans ((gg H _ _ x (q hae)).trans f4)
  have k4 := fun x y z => (gg ((H.set (H.length - 1, newKey c a) x).set (H.length - 1, newKey c b) y) _ _ z (q hde)).trans (k3 x y)
  rw [gleave_keep hk, rite_refsT hab had hae hbd hbe hde]
  unfold rnames riteV riteH
  by_cases e1 : r.lapses = []
  · by_cases e2 : r.acts = []
    · simp [e1, e2, apS, moveOut, g1, g2, cleanBlk, f1, k1, ren, ren2, ren1, apSet]
    · have g4' := g4 e2
      simp [e1, e2, apS, moveOut, g1, g2, g4', cleanBlk, f1, k1, k3, ren, ren2, ren1, apSet]
  · have g3' := g3 e1
    by_cases e2 : r.acts = []
    · simp [e1, e2, apS, moveOut, g1, g2, g3', cleanBlk, f1, k1, k2, ren, ren2, ren1, apSet]
    · have g4' := g4 e2
      simp [e1, e2, apS, moveOut, g1, g2, g3', g4', cleanBlk, f1, k1, k2, k4, ren, ren2, ren1, apSet]
end Go.Gh


/- rite.Choose. -/
namespace Go.Gh
open Go.Proofs
set_option linter.unusedSimpArgs false
set_option linter.unusedVariables false
set_option linter.unnecessarySimpa false
set_option maxRecDepth 100000
set_option maxHeartbeats 4000000
variable {c : Nat} {H : Heap}
def ck1 : Nat := 117473341
def ck2 : Nat := 117485629
def ck3 : Nat := 117510205
def ck4 : Nat := 117518397
theorem Choose_ok0 (r : Rite) (h : Short r) (p0 : r.people ≠ []) (t0 : r.things ≠ []) (sn : r.seen = []) (ck : checkF r = 0) (kk : Nat) (hk : kk ≤ 3) (n : Int) (n0 : 0 ≤ n) (n9 : n ≤ 9) (hH : 0 < H.length)
    (hf1 : H.get (H.length - 1, newKey c ck1) = none) (hf2 : H.get (H.length - 1, newKey c ck2) = none) (hf3 : H.get (H.length - 1, newKey c ck3) = none) (hf4 : H.get (H.length - 1, newKey c ck4) = none) :
    gcall0 KC (geval KC) 25 [.pure (.agg r.row), .pure (.int .i64 kk), .pure (.int .i64 n)] c H =
      some (.tuple [riteV (H.length - 1, newKey c ck1) (H.length - 1, newKey c ck2) (H.length - 1, newKey c ck3) (H.length - 1, newKey c ck4) { r with acts := chosenL kk n r.acts }, .pure (.int .i64 0)],
        riteH H (H.length - 1, newKey c ck1) (H.length - 1, newKey c ck2) (H.length - 1, newKey c ck3) (H.length - 1, newKey c ck4) 0 { r with acts := chosenL kk n r.acts }) := by
  have q12 : ck1 ≠ ck2 := by decide
  have q13 : ck1 ≠ ck3 := by decide
  have q14 : ck1 ≠ ck4 := by decide
  have q23 : ck2 ≠ ck3 := by decide
  have q24 : ck2 ≠ ck4 := by decide
  have q34 : ck3 ≠ ck4 := by decide
  have m1 : newKey 60 28680 = ck1 := by decide
  have m2 : newKey 60 28683 = ck2 := by decide
  have m3 : newKey 60 28689 = ck3 := by decide
  have m4 : newKey 60 28691 = ck4 := by decide
  have C := fun (c : Nat) (H : Heap) (hH : 0 < H.length) => checkB_ok (c := c) (g := .pure (.agg r.row)) r h (show rdG H (.pure (.agg r.row)) (.agg r.row) from rfl) hH
  rw [ck] at C
  have i1 : inB kk 0 3 = true := inB_iff.2 ⟨by omega, by omega⟩
  have i2 : inB n 0 9 = true := inB_iff.2 ⟨n0, n9⟩
  have I := fun (c : Nat) (x lo hi : Int) (H : Heap) (hH : 0 < H.length) => in_ok (c := c) (x := x) (lo := lo) (hi := hi) (H := H) hH
  have fl : (chosenL kk n r.acts).length ≤ r.acts.length := by unfold chosenL; rw [List.length_map]; exact List.length_filter_le _ _
  obtain ⟨fin, hfin⟩ : ∃ fin, chosenL kk n r.acts = fin := ⟨_, rfl⟩
  rw [hfin] at fl
  have ha := h.a
  have O := ownC_at (c := 60) (F := apF 56 9 (fin.map RAct.row) [(3, rbox r), (6, zr)]) (H := H) (g := apS (H.length, 56) 9 (fin.map RAct.row)) (r := r) (acts := fin) (rdC_apS' fun hr => ⟨0, false, Nat.zero_le _, by simp [apF_self hr]⟩) h p0 t0 (by omega) sn (by rw [apF_get (by decide)]; rfl) (by rw [apF_get (by decide)]; rfl) (by rw [apF_get (by decide)]; rfl) (by rw [apF_get (by decide)]; rfl)
  rw [m1, m2, m3, m4] at O
  obtain ⟨r', hr'⟩ : ∃ r' : Rite, { r with acts := fin } = r' := ⟨_, rfl⟩
  obtain ⟨F2, hF2⟩ : ∃ F2, riteF (apF 56 9 (fin.map RAct.row) [(3, rbox r), (6, zr)]) ck1 ck2 ck3 ck4 r' = F2 := ⟨_, rfl⟩
  have g6 : F2.get 6 = some zr := by rw [← hF2, riteF_get (by decide) (by decide) (by decide) (by decide), apF_get (by decide)]; rfl
  have L := fun b => rite_leave (f := 25) (c := c) (H := H) (F := F2.ins 6 b) (r := r') (a := ck1) (b := ck2) (d := ck3) (e := ck4) (z := 0) rfl q12 q13 q14 q23 q24 q34 (by rw [Fr.get_ins_other _ (by decide), ← hF2, riteF_1 q12 q13 q14]) (by rw [Fr.get_ins_other _ (by decide), ← hF2, riteF_2 q23 q24]) (fun hl => by rw [Fr.get_ins_other _ (by decide), ← hF2, riteF_3 q34 hl]) (fun hl => by rw [Fr.get_ins_other _ (by decide), ← hF2, riteF_4 hl]) hf1 hf2 hf3 hf4
  rw [hr', hF2] at O
  rw [hfin, hr']
  refine WPv_eq (call_enter0 KC needT Try.func25 rfl rfl good25 (by simp) hH ?_)
  rw [rowR]
  simp only [rowR] at C O
  simp [C, I, i1, i2]
  have L1 := fun Q h1 => choose_loop (H := H) r kk n hk ha fin Q hH h1 r.acts.length 0 [] (by omega) (by simp) (by simpa using hfin)
  simp [rbox, zr, apS_nil, apF_nil] at L1
  refine L1 _ ?_
  simp only [zr] at g6
  unfold riteV at O L
  simp only [rbox, zr] at O
  simp [O, g6, Fr.get_ins]
  rw [L, WPv_some]
  simp [riteV]
theorem Choose_at {F : Fr} {g : GV} {r : Rite} (hg : rdG (F :: H) g (.agg r.row)) (h : Short r) (p0 : r.people ≠ []) (t0 : r.things ≠ []) (sn : r.seen = []) (ck : checkF r = 0) (kk : Nat) (hk : kk ≤ 3) (n : Int) (n0 : 0 ≤ n) (n9 : n ≤ 9)
    (hf1 : F.get (newKey c ck1) = none) (hf2 : F.get (newKey c ck2) = none) (hf3 : F.get (newKey c ck3) = none) (hf4 : F.get (newKey c ck4) = none) :
    gcall KC (geval KC) 25 [g, .pure (.int .i64 kk), .pure (.int .i64 n)] c (F :: H) =
      some (.tuple [riteV (H.length, newKey c ck1) (H.length, newKey c ck2) (H.length, newKey c ck3) (H.length, newKey c ck4) { r with acts := chosenL kk n r.acts }, .pure (.int .i64 0)],
        riteF F (newKey c ck1) (newKey c ck2) (newKey c ck3) (newKey c ck4) { r with acts := chosenL kk n r.acts } :: H) := by
  have q : ∀ {x y : Nat}, x ≠ y → newKey c x ≠ newKey c y := fun h => by unfold newKey; omega
  have n12 := q (show ck1 ≠ ck2 by decide)
  have n13 := q (show ck1 ≠ ck3 by decide)
  have n14 := q (show ck1 ≠ ck4 by decide)
  have n23 := q (show ck2 ≠ ck3 by decide)
  have n24 := q (show ck2 ≠ ck4 by decide)
  have n34 := q (show ck3 ≠ ck4 by decide)
  rw [gcall_bor KC rfl rfl, frz3 hg (show rdG _ (.pure (.int .i64 kk)) (.int .i64 kk) from rfl) (show rdG _ (.pure (.int .i64 n)) (.int .i64 n) from rfl)]
  unfold gborrow
  simp only [borBox]
  have O := Choose_ok0 (c := c) (H := emptyH (F :: H)) r h p0 t0 sn ck kk hk n n0 n9 (by simp [emptyH]) emptyG_get emptyG_get emptyG_get emptyG_get
  rw [O]
  simp only
  have eL : (emptyH (F :: H)).length - 1 = H.length := by rw [emptyH_len]; simp
  rw [eL]
  have eE : emptyH (F :: H) = [] :: emptyH H := rfl
  rw [eE, riteH_F (H := emptyH H) (by rw [emptyH_len])]
  obtain ⟨r', hr'⟩ : ∃ r' : Rite, { r with acts := chosenL kk n r.acts } = r' := ⟨_, rfl⟩
  rw [hr']
  have gE : ∀ (f : Fr) k, Heap.get (f :: emptyH H) (H.length, k) = f.get k := fun f k => by
    have := emptyH_len (H := H)
    simp [this]
  unfold lentEnd
  have e3 : (F :: H).length - 1 = H.length := by simp
  have eV : ∀ a b d e, lentV H.length (.tuple [riteV (H.length, a) (H.length, b) (H.length, d) (H.length, e) r', .pure (.int .i64 0)]) = true := fun a b d e => by
    show lentLL H.length _ = true
    simp only [lentLL, riteV_lent, Bool.and_true, Bool.true_and]
    rfl
  rw [e3, if_pos (eV _ _ _ _)]
  rw [rite_refsT n12 n13 n14 n23 n24 n34, rite_lentIns n12 n13 n14 n23 n24 n34 (by rw [gE, riteF_1 n12 n13 n14]) (by rw [gE, riteF_2 n23 n24]) (fun h => by rw [gE, riteF_3 n34 h]) (fun h => by rw [gE, riteF_4 h]) (by simpa using hf1) (by simpa using hf2) (by simpa using hf3) (by simpa using hf4)]
  simp only [riteH_F]
end Go.Gh

/- Texts joined: the evaluator over ghost values, its soundness, the walks. Spaces struck and names made short by a program, for the size. -/
import Derived.Test.YtgmohiojddnfgaaGreatDoorGc4g
import Derived.Test.YtgmohiojddnfgaaGreatDoorGc4e
import Derived.ProofKit
import Derived.OpenShut
import Derived.ChangeOld
import Derived.Below
import Derived.Carry
namespace Go.Gh
open Go.Proofs
set_option linter.unusedVariables false
set_option linter.unusedSimpArgs false
set_option linter.unnecessarySimpa false
set_option maxRecDepth 100000
set_option maxHeartbeats 8000000
section
variable {c : Nat} {H : Heap}
def tabB (t : Tab) (x : GV) : Blk := .box [.pure (.int .i64 t.packets), .pure (.int .i64 t.passed), .pure (.int .i64 t.state), x]
def lF (kb ka L : Nat) (t : Tab) : Fr := apF ka 1 (t.answers.map arow) [(kb, tabB t (apS (L, ka) 1 (t.answers.map arow)))]
def lM (kb ka L : Nat) (t : Tab) (l : List Int) : Fr := apF ka 1 ((t.answers ++ [l]).map arow) [(kb, tabB t (apS (L, ka) 1 (t.answers.map arow)))]
section
variable {kb ka L : Nat} {t : Tab} {l : List Int}
theorem lF_get (hk : kb < ka) : (lF kb ka L t).get kb = some (tabB t (apS (L, ka) 1 (t.answers.map arow))) := by
 unfold lF apF
 split
 ·simp
 ·rw [Fr.get_ins_other _ (by omega)]; simp
theorem lM_get (hk : kb < ka) : (lM kb ka L t l).get kb = some (tabB t (apS (L, ka) 1 (t.answers.map arow))) := by
 unfold lM apF
 split
 ·simp
 ·rw [Fr.get_ins_other _ (by omega)]; simp
theorem lM_ins (hk : kb < ka) : (lM kb ka L t l).ins kb (tabB t (apS (L, ka) 1 ((t.answers ++ [l]).map arow))) = lF kb ka L { t with answers := t.answers ++ [l] } := by
 have h1 : ¬ ka = kb := by omega
 have h2 : ¬ ka < kb := by omega
 have h3 : ¬ kb = ka := by omega
 unfold lM lF apF
 simp [Fr.ins, h1, h2, h3, hk, tabB]
theorem lF_head {t' : Tab} (h1 : t.answers = []) (h2 : t'.answers = []) : (lF kb ka L t).ins kb (tabB t' .nils) = lF kb ka L t' := by
 unfold lF apF
 simp [h1, h2, Fr.ins, apS_nil]
theorem lF_app (hk : kb < ka) (h : H.length = L) (hkt : ka < tyBase) (f0 : Fr) (hb : t.answers.length ≤ 1000000) : apK L ka (apS (L, ka) 1 (t.answers.map arow)) 1 24 [[.slice (l.map irow)]] (f0 :: lF kb ka L t :: H) = some (apS (L, ka) 1 ((t.answers ++ [l]).map arow), f0 :: lM kb ka L t l :: H) := by
 subst h
 have := apK_1 (key := ka) (es := 1) (rows := t.answers.map arow) (fr := [(kb, tabB t (apS (H.length, ka) 1 (t.answers.map arow)))]) (H := H) (l := H.length) (bytes := 24) (r := [.slice (l.map irow)]) (f0 := f0) rfl (by simp; omega) (by simp; omega) hkt
 unfold lF lM
 rw [this]
 simp [arow]
end
noncomputable def rowL (i : Nat) (x : Tab × Int × Int) (row : List UInt8) : Option (Tab × Int × Int) :=
 if 0 < x.2.1 then none
 else if i = 0 then (match headV (splitL 32 row) with | some t => some (t, x.2) | none => none)
 else if (splitL 32 row).head? = some guestW then (match cellsV ((splitL 32 row).drop 1) with | some l => some ({ x.1 with answers := x.1.answers ++ [l] }, x.2) | none => none)
 else match splitL 32 row with | [w0, w1] => if w0 = endW then (match numV w1 with | some n => some (x.1, (i : Int) + 1, n) | none => none) else none | _ => none
noncomputable def rowsL : Nat → Tab × Int × Int → List (List UInt8) → Option (Tab × Int × Int)
 | _, x, [] => some x
 | i, x, row :: r => match rowL i x row with | some y => rowsL (i + 1) y r | none => none
noncomputable def failL : Nat → Tab × Int × Int → List (List UInt8) → Int
 | _, _, [] => 0
 | i, x, row :: r => match rowL i x row with | some y => failL (i + 1) y r | none => (i : Int) + 1
def zeroB : Blk := .box [.pure (.int .i64 0), .pure (.int .i64 0), .pure (.int .i64 0), .nils]
theorem load_loop (rows : List (List UInt8)) (hn : rows.length ≤ 100000) (hsz : ∀ w ∈ rows, w.length ≤ 100000) (m : Int) (sp : List (List UInt8)) (Q : GX → GSt → Prop) : ∀ (k i : Nat) (x : Tab × Int × Int), i + k = rows.length → x.1.answers.length ≤ i →
  (∀ y, rowsL i x (rows.drop i) = some y → y.1.answers.length ≤ rows.length → Q (.exit 0) ⟨[(2, .bptr (H.length, 2) 0), (3, gdead), (4, gdead), (5, .pure (.slice (sp.map srow))), (6, .pure (.int .i64 m)), (7, .pure (.int .i64 y.2.1)), (8, .pure (.int .i64 y.2.2))], lF 2 61 H.length y.1 :: H, 114⟩) →
  (∀ (a b : Int) (F : Fr), rowsL i x (rows.drop i) = none → F.get 2 = some zeroB → Q .ret ⟨[(2, .bptr (H.length, 2) 0), (3, .pure (.int .i64 (failL i x (rows.drop i)))), (4, .pure (.int .i64 3)), (5, .pure (.slice (sp.map srow))), (6, .pure (.int .i64 m)), (7, .pure (.int .i64 a)), (8, .pure (.int .i64 b))], F :: H, 114⟩) →
  WPL KC needT 22 (lp Tryz.f22 0) [2, 5, 6, 7, 8, 26, 27, 28] [2, 3, 4, 5, 6, 7, 8] Q [(2, .bptr (H.length, 2) 0), (5, .pure (.slice (sp.map srow))), (6, .pure (.int .i64 m)), (7, .pure (.int .i64 x.2.1)), (8, .pure (.int .i64 x.2.2)), (26, .pure (.slice (rows.map srow))), (27, .pure (.int .i64 rows.length)), (28, .pure (.int .i64 i))] (lF 2 61 H.length x.1 :: H) 114 := by
 intro k
 induction k with
 | zero =>
  intro i x hi hc h1 h2
  have hia : ¬ i < rows.length := by omega
  have e1 : rows.drop i = [] := List.drop_of_length_le (by omega)
  rw [e1] at h1
  have h1' := h1 x rfl (by omega)
  apply WPL_step
  conv => arg 4; whnf
  simp [hia]
  exact h1'
 | succ k ih =>
  intro i x hi hc h1 h2
  have hia : i < rows.length := by omega
  have hw := w64 (x := (i : Int) + 1) (by omega) (by omega)
  have hd : rows.drop i = rows[i] :: rows.drop (i + 1) := List.drop_eq_getElem_cons hia
  have hsi := hsz rows[i] (List.getElem_mem hia)
  rw [hd] at h1 h2
  have hS : ∀ c G, 0 < List.length G → gcall KC (geval KC) 55 [.pure (.str rows[i]), .pure (.str [32])] c G = some (.pure (.slice ((splitL 32 rows[i]).map srow)), G) := fun c G hG => split_ok (by omega) hG
  obtain ⟨p, r, hp⟩ : ∃ p r, splitL 32 rows[i] = p :: r := by
   cases h : splitL 32 rows[i] with
   | nil => exact absurd h (splitL_ne _ _)
   | cons p r => exact ⟨p, r, rfl⟩
  have hsl := splitL_len 32 rows[i]
  have hsm := splitL_mem 32 rows[i]
  rw [hp] at hsl hsm hS
  have hF2 := lF_get (kb := 2) (ka := 61) (L := H.length) (t := x.1) (by omega)
  apply WPL_step
  conv => arg 4; whnf
  obtain ⟨t, e0, n0⟩ := x
  simp only at hc h1 h2 hF2 ⊢
  have hret : ∀ (F : Fr), (F.ins 2 zeroB).get 2 = some zeroB := fun F => Fr.get_ins ..
  unfold tabB at hF2
  unfold zeroB at hret h2
  have i1 : IntKind.i64.wrap 1 = 1 := rfl
  by_cases he : 0 < e0
  ·have hrv : rowL i (t, e0, n0) rows[i] = none := by unfold rowL; rw [if_pos he]
   have h2' := fun a b F => h2 a b F (by simp only [rowsL, hrv])
   simp only [failL, hrv] at h2'
   simp [hia, srow, hS, he, hw, hF2]
   exact h2' _ _ _ (hret _)
  ·by_cases hi0 : i = 0
   ·subst hi0
    have hh := fun c G (hG : 0 < List.length G) => head_ok (c := c) (H := G) (p :: r) (by simp at hsl ⊢; omega) (fun w hw => by have := hsm w hw; omega) hG
    have ht0 : t.answers = [] := List.length_eq_zero_iff.1 (by omega)
    unfold tabG at hh
    have hrv : rowL 0 (t, e0, n0) rows[0] = (match headV (p :: r) with | some t => some (t, e0, n0) | none => none) := by unfold rowL; rw [if_neg he, hp, if_pos rfl]
    cases hV : headV (p :: r) with
    | none =>
     rw [hV] at hh hrv
     have h2' := fun a b F => h2 a b F (by simp only [rowsL, hrv])
     simp only [failL, hrv] at h2'
     simp [srow] at hh
     simp [hia, srow, hS, he, hw, hF2, hh, Fr.get_ins, Fr.ins_ins, i1]
     exact h2' _ _ _ (hret _)
    | some t1 =>
     rw [hV] at hh hrv
     rw [headT_of hV] at hh
     have ih' := ih 1 (t1, e0, n0) (by omega) (by simp only; rw [headV_nil hV]; simp) (fun y hy hl => h1 y (by simp only [rowsL, hrv]; exact hy) hl) (fun a b F hy hF => by have q := h2 a b F (by simp only [rowsL, hrv]; exact hy) hF; simp only [failL, hrv] at q; exact q)
     have hins := lF_head (kb := 2) (ka := 61) (L := H.length) (t := t) (t' := t1) ht0 (headV_nil hV)
     unfold tabB at hins
     simp [srow] at hh
     simp [hia, srow, hS, he, hw, hF2, hh, hins, i1]
     simpa using ih'
   ·by_cases hg : p = guestW
    ·subst hg
     have hG := fun c G (hG : 0 < List.length G) => guest_ok (c := c) (H := G) r (by simp at hsl; omega) (fun w hw => by have := hsm w (List.mem_cons_of_mem _ hw); omega) hG
     have htk : (r.map srow).take r.length = r.map srow := List.take_of_length_le (by simp)
     have hrv : rowL i (t, e0, n0) rows[i] = (match cellsV r with | some l => some ({ t with answers := t.answers ++ [l] }, e0, n0) | none => none) := by
      unfold rowL; rw [if_neg he, if_neg hi0, hp, if_pos (show (guestW :: r).head? = some guestW from rfl)]; rfl
     have hap := fun l f0 => lF_app (kb := 2) (ka := 61) (L := H.length) (t := t) (l := l) (H := H) (by omega) rfl (by simp) f0 (by omega)
     have hm2 := fun l => lM_get (kb := 2) (ka := 61) (L := H.length) (t := t) (l := l) (by omega)
     have hin := fun l => lM_ins (kb := 2) (ka := 61) (L := H.length) (t := t) (l := l) (by omega)
     unfold tabB at hm2 hin
     cases hA : cellsV r with
     | none =>
      rw [hA] at hrv hG
      have h2' := fun a b F => h2 a b F (by simp only [rowsL, hrv])
      simp only [failL, hrv] at h2'
      simp only [cellsG] at hG
      have hap0 := hap []
      simp only [List.map_nil] at hap0
      simp [arow] at hap0
      simp [hia, srow, hS, he, hi0, hw, hF2, guestW, htk, hG, hap0, hm2, Fr.get_ins, Fr.ins_ins]
      exact h2' _ _ _ (hret _)
     | some l =>
      rw [hA] at hrv hG
      simp only at hrv
      simp only [cellsG] at hG
      have ih' := ih (i + 1) ({ t with answers := t.answers ++ [l] }, e0, n0) (by omega) (by simp; omega) (fun y hy hl => h1 y (by simp only [rowsL, hrv]; exact hy) hl) (fun a b F hy hF => by have q := h2 a b F (by simp only [rowsL, hrv]; exact hy) hF; simp only [failL, hrv] at q; exact q)
      have hapl := hap l
      have hinl := hin l
      simp [arow] at hapl hinl
      simp [hia, srow, hS, he, hi0, hw, hF2, guestW, htk, hG, hapl, hm2, Fr.get_ins, Fr.ins_ins, hinl]
      simpa using ih'
    ·have hg' : (p == [103, 117, 101, 115, 116]) = false := by simpa [guestW] using hg
     have hg2 : ¬ (p :: r).head? = some guestW := fun h => hg (by simpa using h)
     have hrv : rowL i (t, e0, n0) rows[i] = (match p :: r with | [w0, w1] => if w0 = endW then (match numV w1 with | some n => some (t, (i : Int) + 1, n) | none => none) else none | _ => none) := by
      unfold rowL; rw [if_neg he, if_neg hi0, hp, if_neg hg2]
     by_cases hend : p = endW
     ·subst hend
      match r with
      | [] =>
       have h2' := fun a b F => h2 a b F (by simp only [rowsL, hrv])
       simp only [failL, hrv] at h2'
       simp [hia, srow, hS, he, hi0, hw, hF2, hg', endW]
       exact h2' _ _ _ (hret _)
      | x :: y :: r' =>
       have h2' := fun a b F => h2 a b F (by simp only [rowsL, hrv])
       simp only [failL, hrv] at h2'
       have hr1 : ¬ ((r'.length : Int) + 1 + 1 + 1 = 2) := by omega
       simp [hia, srow, hS, he, hi0, hw, hF2, hg', endW, hr1]
       exact h2' _ _ _ (hret _)
      | [w1] =>
       have N1 := fun c G (hG : 0 < List.length G) => numberV_ok (c := c) (H := G) (w := w1) (by have := hsm w1 (by simp); omega) hG
       have B1 : numB w1 = (numV w1).isSome := rfl
       simp only [if_true] at hrv
       cases hA : numV w1 with
       | none =>
        rw [hA] at hrv B1
        have h2' := fun a b F => h2 a b F (by simp only [rowsL, hrv])
        simp only [failL, hrv] at h2'
        simp [hia, srow, hS, he, hi0, hw, hF2, hg', endW, N1, B1]
        exact h2' _ _ _ (hret _)
       | some n =>
        rw [hA] at hrv B1
        rw [numA_of hA] at N1
        have ih' := ih (i + 1) (t, (i : Int) + 1, n) (by omega) (by simp only; omega) (fun y hy hl => h1 y (by simp only [rowsL, hrv]; exact hy) hl) (fun a b F hy hF => by have q := h2 a b F (by simp only [rowsL, hrv]; exact hy) hF; simp only [failL, hrv] at q; exact q)
        simp [hia, srow, hS, he, hi0, hw, hF2, hg', endW, N1, B1]
        simpa using ih'
     ·have hend' : (p == [101, 110, 100]) = false := by simpa [endW] using hend
      have hrv2 : rowL i (t, e0, n0) rows[i] = none := by
       rw [hrv]
       match r with
       | [] => rfl
       | [w1] => simp only; rw [if_neg hend]
       | _ :: _ :: _ => rfl
      have h2' := fun a b F => h2 a b F (by simp only [rowsL, hrv2])
      simp only [failL, hrv2] at h2'
      simp [hia, srow, hS, he, hi0, hw, hF2, hg', hend']
      exact h2' _ _ _ (hret _)
theorem cellsV_len : ∀ {ws : List (List UInt8)} {l : List Int}, cellsV ws = some l → l.length = ws.length
 | [], l, h => by simp only [cellsV, Option.some.injEq] at h; subst h; rfl
 | w :: r, l, h => by
  simp only [cellsV] at h
  split at h
  ·cases h
  ·split at h
   ·cases h
   ·rename_i l' hl
    simp only [Option.some.injEq] at h
    subst h
    simp [cellsV_len hl]
theorem rowL_len {M i : Nat} {x y : Tab × Int × Int} {row : List UInt8} (h : rowL i x row = some y) (hr : row.length ≤ M) (hx : ∀ a ∈ x.1.answers, a.length ≤ M) : (∀ a ∈ y.1.answers, a.length ≤ M) ∧ y.1.answers.length ≤ x.1.answers.length + 1 := by
 unfold rowL at h
 have hsl := splitL_len 32 row
 split at h
 ·cases h
 ·split at h
  ·split at h
   ·rename_i t ht
    simp only [Option.some.injEq] at h
    subst h
    simp only
    rw [headV_nil ht]
    simp
   ·cases h
  ·split at h
   ·split at h
    ·rename_i l hl
     simp only [Option.some.injEq] at h
     subst h
     refine ⟨fun a ha => ?_, by simp⟩
     rcases List.mem_append.1 ha with ha | ha
     ·exact hx a ha
     ·rw [List.mem_singleton] at ha
      subst ha
      have := cellsV_len hl
      rw [this]
      simp
      omega
    ·cases h
   ·split at h
    ·split at h
     ·split at h
      ·simp only [Option.some.injEq] at h
       subst h
       exact ⟨hx, by simp⟩
      ·cases h
     ·cases h
    ·cases h
theorem rowsL_len {M : Nat} : ∀ {rows : List (List UInt8)} {i : Nat} {x y : Tab × Int × Int}, rowsL i x rows = some y → (∀ w ∈ rows, w.length ≤ M) → (∀ a ∈ x.1.answers, a.length ≤ M) → (∀ a ∈ y.1.answers, a.length ≤ M) ∧ y.1.answers.length ≤ x.1.answers.length + rows.length
 | [], i, x, y, h, _, hx => by simp only [rowsL, Option.some.injEq] at h; subst h; exact ⟨hx, by simp⟩
 | row :: r, i, x, y, h, hr, hx => by
  simp only [rowsL] at h
  split at h
  ·rename_i z hz
   have h1 := rowL_len hz (hr row List.mem_cons_self) hx
   have h2 := rowsL_len h (fun w hw => hr w (List.mem_cons_of_mem _ hw)) h1.1
   exact ⟨h2.1, by simp; omega⟩
  ·cases h
def zT : Tab := ⟨0, 0, 0, []⟩
noncomputable def loadE (s : List UInt8) : Tab × Int × Int :=
 if 2000 < s.length then (zT, 0, 5) else
 match rowsL 0 (zT, 0, 0) ((splitL 10 s).take ((splitL 10 s).length - 1)) with
 | none => (zT, failL 0 (zT, 0, 0) ((splitL 10 s).take ((splitL 10 s).length - 1)), 3)
 | some y => if y.2.1 = 0 ∨ (splitL 10 s).getD ((splitL 10 s).length - 1) [] ≠ [] then (zT, (splitL 10 s).length, 3) else if y.2.2 ≠ y.1.answers.length then (zT, y.2.1, 12)
  else if chkT y.1 ≠ 0 then (zT, 0, chkT y.1) else (y.1, 0, 0)
def loadT (x : Tab × Int × Int) : PV := .tuple [.agg x.1.row, .int .i64 x.2.1, .int .i64 x.2.2]
def lR (kb ka L : Nat) (t : Tab) : Fr := if t.answers = [] then [(kb, tabB t (apS (L, ka) 1 (t.answers.map arow)))] else Fr.ins ka (.arr 1 (t.answers.map arow) 0 true) [(kb, tabB t (apS (L, ka) 1 (t.answers.map arow)))]
theorem lR_get {kb ka L : Nat} {t : Tab} (hk : kb < ka) : (lR kb ka L t).get kb = some (tabB t (apS (L, ka) 1 (t.answers.map arow))) := by
 unfold lR
 split
 ·simp
 ·rw [Fr.get_ins_other _ (by omega)]; simp
theorem frz_tab {kb ka : Nat} {t : Tab} (hk : kb < ka) : frzVals (lF kb ka H.length t :: H) [.agg [.pure (.int .i64 t.packets), .pure (.int .i64 t.passed), .pure (.int .i64 t.state), apS (H.length, ka) 1 (t.answers.map arow)]] =
  ([mkAgg [.pure (.int .i64 t.packets), .pure (.int .i64 t.passed), .pure (.int .i64 t.state), if t.answers = [] then .nils else .pure (.slice (t.answers.map arow))]], lR kb ka H.length t :: H) := by
 have t1 : (t.answers.map arow).take t.answers.length = t.answers.map arow := List.take_of_length_le (by simp)
 have h1 : ¬ ka = kb := by omega
 have h2 : ¬ ka < kb := by omega
 have h3 : ¬ kb = ka := by omega
 unfold lF lR apF apS tabB
 by_cases h : t.answers = []
 ·simp [h, frzVals, frzVal, frzCells, frzCell, pureCell]
 ·simp [h, frzVals, frzVal, frzCells, frzCell, pureCell, t1, Fr.ins, h1, h2, h3, hk]
theorem gcall_frzA {K : Ctx} {rec : Rec} {f : FuncId} {args : List GV} (h1 : K.cln f = false) (h2 : K.bor f = false) (h3 : K.frz f = true) : gcall K rec f args c H = gcall0 K rec f (frzVals H args).1 c (frzVals H args).2 := by
 unfold gcall gcallN
 simp [h1, h2, h3]
theorem gcall0_canonA {K : Ctx} {rec : Rec} {f : FuncId} {a b : List GV} (h : a.map canon = b.map canon) : gcall0 K rec f a c H = gcall0 K rec f b c H := by
 have hl : a.length = b.length := by have := congrArg List.length h; simpa using this
 unfold gcall0
 rw [h, hl]
theorem canon_tab {t : Tab} : canon (mkAgg [.pure (.int .i64 t.packets), .pure (.int .i64 t.passed), .pure (.int .i64 t.state), if t.answers = [] then .nils else .pure (.slice (t.answers.map arow))]) = .pure (.agg t.row) := by
 unfold Tab.row
 by_cases h : t.answers = [] <;> simp [h]
theorem chk_frz {kb ka : Nat} {t : Tab} (hk : kb < ka) (hs : Sm t) : gcall KC (geval KC) 65 [.agg [.pure (.int .i64 t.packets), .pure (.int .i64 t.passed), .pure (.int .i64 t.state), apS (H.length, ka) 1 (t.answers.map arow)]] c (lF kb ka H.length t :: H) = some (.pure (.int .i64 (chkT t)), lR kb ka H.length t :: H) := by
 rw [gcall_frzA rfl rfl rfl, frz_tab hk]
 have h0 := chkT_ok (c := c) (H := lR kb ka H.length t :: H) t hs (by simp)
 rw [gcall_frzA rfl rfl rfl] at h0
 refine Eq.trans (gcall0_canonA ?_) h0
 simp only [List.map_cons, List.map_nil, canon_tab]
 rfl
theorem clean_tab {kb ka l0 : Nat} {t : Tab} {F : Fr} (hF : t.answers ≠ [] → F.get ka = some (.arr 1 (t.answers.map arow) 0 true)) (h : l0 < H.length) : clean1 (F :: H) l0 (apS (H.length, ka) 1 (t.answers.map arow)) = if t.answers = [] then .nils else .pure (.slice (t.answers.map arow)) := by
 unfold apS
 by_cases hr : t.answers = []
 ·simp [hr]
 ·have : ¬ H.length ≤ l0 := by omega
  simp [hr, this, hF hr, List.take_of_length_le (show (t.answers.map arow).length ≤ t.answers.length by simp)]
theorem lR_arr {kb ka L : Nat} {t : Tab} (h : t.answers ≠ []) : (lR kb ka L t).get ka = some (.arr 1 (t.answers.map arow) 0 true) := by
 unfold lR
 rw [if_neg h, Fr.get_ins]
end
section
variable {c : Nat} {H : Heap}
theorem Load_ok (s : List UInt8) (hH : 0 < H.length) (hs : s.length ≤ 9223372036854775807) : gcall KC (geval KC) 22 [.pure (.str s)] c H = some (.pure (loadT (loadE s)), H) := by
 refine WPv_eq (call_enter KC needT Tryz.func22 rfl rfl good22 rfl rfl rfl (by simp) hH ?_)
 by_cases h1 : 2000 < s.length
 ·have hv : loadE s = (zT, 0, 5) := by unfold loadE; rw [if_pos h1]
  have h1' : (2000 : Int) < s.length := by omega
  rw [hv]
  simp [h1, h1', loadT, Tab.row, zT, gleave_free]
 ·have h1' : ¬ (2000 : Int) < s.length := by omega
  have hS : ∀ c G, 0 < List.length G → gcall KC (geval KC) 55 [.pure (.str s), .pure (.str [10])] c G = some (.pure (.slice ((splitL 10 s).map srow)), G) := fun c G hG => split_ok (by omega) hG
  have hv : loadE s = (match rowsL 0 (zT, 0, 0) ((splitL 10 s).take ((splitL 10 s).length - 1)) with
   | none => (zT, failL 0 (zT, 0, 0) ((splitL 10 s).take ((splitL 10 s).length - 1)), 3)
   | some y => if y.2.1 = 0 ∨ (splitL 10 s).getD ((splitL 10 s).length - 1) [] ≠ [] then (zT, (splitL 10 s).length, 3) else if y.2.2 ≠ y.1.answers.length then (zT, y.2.1, 12)
    else if chkT y.1 ≠ 0 then (zT, 0, chkT y.1) else (y.1, 0, 0)) := by
   unfold loadE; exact if_neg h1
  have hsl := splitL_len 10 s
  have hsm := splitL_mem 10 s
  have hne := splitL_ne 10 s
  rw [hv]
  clear hv
  generalize splitL 10 s = sp at *
  obtain ⟨n, hn⟩ : ∃ n, sp.length = n + 1 := ⟨sp.length - 1, by have := List.length_pos_iff.2 hne; omega⟩
  have hw := w64 (x := (n : Int)) (by omega) (by omega)
  have hw2 := w64 (x := (n : Int) + 1) (by omega) (by omega)
  rw [hn, Nat.add_sub_cancel]
  have hsr : ∀ x : List UInt8, (srow x).length = 1 := fun _ => rfl
  have hlt : (sp.take n).length = n := by rw [List.length_take]; omega
  have hsz : ∀ w ∈ sp.take n, w.length ≤ 2000 := fun w hw => by have := hsm w (List.mem_of_mem_take hw); omega
  have h0 := fun Q => load_loop (H := H) (sp.take n) (by omega) (fun w hw => by have := hsz w hw; omega) (n : Int) sp Q n 0 (zT, 0, 0) (by omega) (by simp [zT])
  rw [hlt] at h0
  have hF0 : lF 2 61 H.length zT = [(2, .box [.pure (.int .i64 0), .pure (.int .i64 0), .pure (.int .i64 0), .nils])] := rfl
  simp only [hF0, List.map_take] at h0
  have hmin : min n (n + 1) = n := by omega
  have hbnd : ∀ y, rowsL 0 (zT, 0, 0) (sp.take n) = some y → Sm y.1 := fun y hy => by
   have := rowsL_len hy hsz (by simp [zT])
   refine ⟨by have := this.2; simp [zT] at this; omega, fun a ha => by have := this.1 a ha; omega⟩
  simp [h1, h1', hS, hn, hw, hsr, hmin]
  refine h0 _ (fun y hy _ => ?_) (fun a b F hy hF => ?_)
  ·rw [List.drop_zero] at hy
   rw [hy]
   have hSm := hbnd y hy
   have hF2 := lF_get (kb := 2) (ka := 61) (L := H.length) (t := y.1) (by omega)
   have hm : n < sp.length := by omega
   have hget : sp[n]? = some sp[n] := List.getElem?_eq_getElem hm
   unfold tabB at hF2
   by_cases e1 : y.2.1 = 0
   ·simp [e1, hF2, hw2, loadT, Tab.row, zT, Fr.get_ins, gleave_free]
   ·by_cases e2 : sp[n] = []
    ·by_cases e3 : y.2.2 = y.1.answers.length
     ·have hC := fun c => chk_frz (c := c) (H := H) (kb := 2) (ka := 61) (t := y.1) (by omega) hSm
      have hR2 := lR_get (kb := 2) (ka := 61) (L := H.length) (t := y.1) (by omega)
      unfold tabB at hR2
      by_cases e4 : chkT y.1 = 0
      ·have q1 := clean_tab (kb := 2) (ka := 61) (t := y.1) (H := H) (l0 := H.length - 1) (F := (lR 2 61 H.length y.1).ins 2 (tabB y.1 (apS (H.length, 61) 1 (y.1.answers.map arow)))) (fun h => by rw [Fr.get_ins_other _ (by decide)]; exact lR_arr h) (by omega)
       unfold tabB at q1
       simp [e1, e2, e3, hF2, hget, srow, hC, e4, hR2, Fr.get_ins, q1, gleave_free]
       unfold loadT Tab.row
       by_cases h5 : y.1.answers = [] <;> simp [h5]
      ·have e4' : (chkT y.1 == 0) = false := by simpa using e4
       simp [e1, e2, e3, hF2, hget, srow, hC, e4, e4', hR2, loadT, Tab.row, zT, Fr.get_ins, gleave_free, bne]
     ·simp [e1, e2, e3, hF2, hget, srow, loadT, Tab.row, zT, Fr.get_ins, gleave_free]
    ·simp [e1, e2, hF2, hget, srow, hw2, loadT, Tab.row, zT, Fr.get_ins, gleave_free]
  ·rw [List.drop_zero] at hy
   rw [hy]
   unfold zeroB at hF
   simp [hF, loadT, Tab.row, zT, Fr.get_ins, gleave_free]
end
def cellW (n : Int) : List UInt8 := if n < 0 then [45] else itoaL n
def headP (t : Tab) : List (List UInt8) := [tableW, itoaL t.packets, itoaL t.passed, stW t.state]
def guestP (a : List Int) : List (List UInt8) := guestW :: a.map cellW
def endP (n : Int) : List (List UInt8) := [endW, itoaL n]
theorem cellS_eq (n : Int) : cellS n = 32 :: cellW n := by unfold cellS cellW; split <;> rfl
theorem join_cells (w : List UInt8) : ∀ a : List Int, joinL 32 (w :: a.map cellW) = w ++ a.flatMap cellS
 | [] => by simp [joinL]
 | n :: a => by
  rw [List.map_cons, joinL_cons (by simp), join_cells (cellW n) a]
  simp [cellS_eq]
theorem gRow_eq (a : List Int) : gRow a = joinL 32 (guestP a) ++ [10] := by
 unfold guestP
 rw [join_cells]
 rfl
theorem headS_eq (t : Tab) : headS t = joinL 32 (headP t) ++ [10] := by
 simp [headS, headP, joinL]
theorem lastS_eq (n : Nat) : lastS n = joinL 32 (endP n) ++ [10] := by
 simp [lastS, endP, joinL]
theorem firstE_all {g : Int → Int} : ∀ {l : List Int}, firstE g l = 0 → ∀ x ∈ l, g x = 0
 | y :: r, h, x, hx => by
  unfold firstE at h
  by_cases hy : g y = 0
  ·rw [if_neg (by simpa using hy)] at h
   rcases List.mem_cons.1 hx with e | e
   ·rw [e]; exact hy
   ·exact firstE_all h x e
  ·rw [if_pos hy] at h
   exact absurd h hy
structure GoodT (t : Tab) : Prop where
 p : 1 ≤ t.packets ∧ t.packets ≤ 9
 q : 0 ≤ t.passed ∧ t.passed ≤ 9
 s : 1 ≤ t.state ∧ t.state ≤ 4
 n : 1 ≤ t.answers.length ∧ t.answers.length ≤ 12
 a : ∀ a ∈ t.answers, a.length ≤ 9 ∧ ∀ x ∈ a, -1 ≤ x ∧ x ≤ 8
theorem goodT {t : Tab} (h : chkT t = 0) : GoodT t := by
 obtain ⟨g1, g2, g3, g4, g5, g6, g7, g8, g9⟩ := chkT_good h
 refine ⟨⟨g1, g2⟩, ⟨g3, by omega⟩, ⟨g5, g6⟩, ⟨by have := List.length_pos_iff.2 g7; omega, g8⟩, fun a ha => ?_⟩
 have hr := rowsE_mem g9 a ha
 unfold rowE at hr
 split at hr
 ·rename_i hw; exact absurd hr hw
 ·rename_i hw
  have hw0 : wrF a t.packets = 0 := Decidable.not_not.1 hw
  have hl := wrF_len hw0
  unfold wrF at hw0
  rw [if_neg (by simpa using hl)] at hw0
  refine ⟨by omega, fun x hx => ?_⟩
  have := firstE_all hw0 x hx
  unfold ansE at this
  split at this
  ·rename_i hb; exact inB_iff.1 hb
  ·omega
theorem itoa_ne_minus {n : Int} (h : 0 ≤ n) : itoaL n ≠ [45] := fun e => by
 have := itoa_mem h 45 (by rw [e]; simp)
 have h2 : (45 : UInt8).toNat = 45 := rfl
 omega
theorem cellsV_cells : ∀ {a : List Int}, (∀ x ∈ a, -1 ≤ x ∧ x ≤ 8) → cellsV (a.map cellW) = some a
 | [], _ => rfl
 | n :: a, h => by
  have h1 := h n List.mem_cons_self
  have hc : cellV (cellW n) = some n := by
   unfold cellW cellV
   split
   ·rw [if_pos rfl]; congr 1; omega
   ·rw [if_neg (itoa_ne_minus (by omega)), numV_itoa (by omega) (by omega)]
  rw [List.map_cons, cellsV, hc]
  simp only
  rw [cellsV_cells fun x hx => h x (List.mem_cons_of_mem _ hx)]
theorem cellS_short {n : Int} (h : -1 ≤ n ∧ n ≤ 8) : (cellS n).length ≤ 5 := by
 unfold cellS
 split
 ·simp
 ·have := itoa_short (n := n) (by omega) (by omega)
  simp; omega
theorem flat_short {α : Type} {g : α → List UInt8} {m : Nat} : ∀ {l : List α}, (∀ x ∈ l, (g x).length ≤ m) → (l.flatMap g).length ≤ m * l.length
 | [], _ => by simp
 | x :: l, h => by
  have h1 := flat_short fun y hy => h y (List.mem_cons_of_mem _ hy)
  have h2 := h x List.mem_cons_self
  simp only [List.flatMap_cons, List.length_append, List.length_cons, Nat.mul_add]
  omega
theorem saveS_short {t : Tab} (h : GoodT t) : (saveS t).length ≤ 900 := by
 have h1 : (t.answers.flatMap gRow).length ≤ 60 * t.answers.length := flat_short fun a ha => by
  have := flat_short (g := cellS) (m := 5) (l := a) fun x hx => cellS_short ((h.a a ha).2 x hx)
  have := (h.a a ha).1
  unfold gRow
  simp [guestW] at *
  omega
 have h2 := headS_len t
 have h3 := lastS_len t.answers.length
 have h4 := h.n
 unfold saveS
 simp
 simp at h1
 omega
def bodyT (t : Tab) : List UInt8 := headS t ++ t.answers.flatMap gRow
theorem posW_of {w : List UInt8} (h : 0 < posW w stL 0) : stW (posW w stL 0) = w := by
 unfold stL posW at h ⊢
 split at h
 ·omega
 ·rename_i h0
  rw [if_neg h0]
  unfold posW at h ⊢
  split at h
  ·rename_i h1; rw [if_pos h1, h1]; rfl
  ·rename_i h1
   rw [if_neg h1]
   unfold posW at h ⊢
   split at h
   ·rename_i h1; rw [if_pos h1, h1]; rfl
   ·rename_i h1
    rw [if_neg h1]
    unfold posW at h ⊢
    split at h
    ·rename_i h1; rw [if_pos h1, h1]; rfl
    ·rename_i h1
     rw [if_neg h1]
     unfold posW at h ⊢
     split at h
     ·rename_i h1; rw [if_pos h1, h1]; rfl
     ·rename_i h1
      unfold posW at h
      omega
theorem head_text {row : List UInt8} {t : Tab} (h : headV (splitL 32 row) = some t) : row ++ [10] = headS t ∧ t.answers = [] := by
 refine ⟨?_, headV_nil h⟩
 have hj := join_split 32 row
 unfold headV at h
 split at h
 ·rename_i w0 w1 w2 w3 hs
  split at h
  ·rename_i h0
   split at h
   ·rename_i a b ha hb
    split at h
    ·rename_i hp
     simp only [Option.some.injEq] at h
     rw [headS_eq]
     unfold headP
     rw [← h]
     simp only
     rw [(numV_of ha).1, (numV_of hb).1, posW_of hp, ← h0, ← hs, hj]
    ·cases h
   ·cases h
  ·cases h
 ·cases h
theorem cellsV_of : ∀ {ws : List (List UInt8)} {l : List Int}, cellsV ws = some l → ws = l.map cellW
 | [], l, h => by simp only [cellsV, Option.some.injEq] at h; subst h; rfl
 | w :: r, l, h => by
  rw [cellsV] at h
  split at h
  ·cases h
  ·rename_i n hn
   split at h
   ·cases h
   ·rename_i l' hl
    simp only [Option.some.injEq] at h
    subst h
    rw [List.map_cons, ← cellsV_of hl]
    congr 1
    unfold cellV at hn
    split at hn
    ·rename_i hw
     simp only [Option.some.injEq] at hn
     subst hn
     rw [hw]
     rfl
    ·have := numV_of hn
     unfold cellW
     rw [if_neg (by omega), this.1]
theorem row_text {t : Tab} {n0 : Int} {i : Nat} (hi : i ≠ 0) {row : List UInt8} {y : Tab × Int × Int} (h : rowL i (t, 0, n0) row = some y) :
  (y.2.1 = 0 ∧ y.2.2 = n0 ∧ bodyT t ++ row ++ [10] = bodyT y.1) ∨ (0 < y.2.1 ∧ y.1 = t ∧ row = joinL 32 (endP y.2.2)) := by
 unfold rowL at h
 rw [if_neg (by simp), if_neg hi] at h
 have hj := join_split 32 row
 split at h
 ·rename_i hg
  left
  split at h
  ·rename_i l hl
   simp only [Option.some.injEq] at h
   subst h
   have hw := cellsV_of hl
   have hsp : splitL 32 row = guestP l := by
    cases hs : splitL 32 row with
    | nil => exact absurd hs (splitL_ne _ _)
    | cons p r =>
     rw [hs] at hg hw
     simp at hg hw
     rw [hg, hw]
     rfl
   rw [hsp] at hj
   refine ⟨rfl, rfl, ?_⟩
   unfold bodyT
   have e : headS { t with answers := t.answers ++ [l] } = headS t := rfl
   simp only [e, List.flatMap_append, List.flatMap_cons, List.flatMap_nil, List.append_nil, gRow_eq, hj]
   simp
  ·cases h
 ·split at h
  ·rename_i w0 w1 hs
   split at h
   ·rename_i h0
    split at h
    ·rename_i n hn
     right
     simp only [Option.some.injEq] at h
     subst h
     refine ⟨by simp only; omega, rfl, ?_⟩
     unfold endP
     simp only
     rw [(numV_of hn).1, ← h0, ← hs, hj]
    ·cases h
   ·cases h
  ·cases h
theorem rows_text : ∀ {rows : List (List UInt8)} {t : Tab} {n0 : Int} {i : Nat} {y : Tab × Int × Int}, i ≠ 0 → rowsL i (t, 0, n0) rows = some y →
  y.2.1 = 0 ∨ bodyT t ++ (rows.flatMap fun w => w ++ [10]) = bodyT y.1 ++ (joinL 32 (endP y.2.2) ++ [10])
 | [], t, n0, i, y, _, h => by
  simp only [rowsL, Option.some.injEq] at h
  subst h
  exact .inl rfl
 | row :: r, t, n0, i, y, hi, h => by
  rw [rowsL] at h
  split at h
  ·rename_i z hz
   obtain ⟨t1, e1, n1⟩ := z
   rcases row_text hi hz with ⟨a1, a2, a3⟩ | ⟨a1, a2, a3⟩
   ·simp only at a1 a2 a3
    subst a1
    rcases rows_text (by omega) h with b | b
    ·exact .inl b
    ·right
     rw [List.flatMap_cons, ← b, ← a3]
     simp
   ·simp only at a1 a2 a3
    subst a2
    cases r with
    | nil =>
     simp only [rowsL, Option.some.injEq] at h
     subst h
     right
     rw [a3]
     simp
    | cons w r =>
     rw [rowsL] at h
     unfold rowL at h
     rw [if_pos a1] at h
     cases h
  ·cases h
theorem loadE_err {s : List UInt8} (h : (loadE s).2.2 ≠ 0) : (loadE s).1 = zT := by
 unfold loadE at h ⊢
 split
 ·rfl
 ·rename_i h0
  rw [if_neg h0] at h
  split
  ·rfl
  ·rename_i y hy
   rw [hy] at h
   simp only at h
   split
   ·rfl
   ·rename_i h1
    rw [if_neg h1] at h
    split
    ·rfl
    ·rename_i h2
     rw [if_neg h2] at h
     split
     ·rfl
     ·rename_i h3
      rw [if_neg h3] at h
      exact absurd rfl h
theorem save_load {s : List UInt8} (h : (loadE s).2.2 = 0) : saveS (loadE s).1 = s ∧ chkT (loadE s).1 = 0 := by
 unfold loadE at h ⊢
 split at h
 ·exact absurd h (by decide)
 ·rename_i h0
  rw [if_neg h0]
  split at h
  ·exact absurd h (by simp only; decide)
  ·rename_i y hy
   split at h
   ·exact absurd h (by simp only; decide)
   ·rename_i h1
    rw [if_neg h1]
    split at h
    ·exact absurd h (by simp only; decide)
    ·rename_i h2
     rw [if_neg h2]
     split at h
     ·rename_i h3; exact absurd h h3
     ·rename_i h3
      rw [if_neg h3]
      refine ⟨?_, by simpa using h3⟩
      have hj := join_split 10 s
      have hne := splitL_ne 10 s
      generalize splitL 10 s = sp at *
      have hlen : 0 < sp.length := List.length_pos_iff.2 hne
      have hg : sp.getD (sp.length - 1) [] = [] := Decidable.not_not.1 fun hh => h1 (.inr hh)
      have hsp : sp = sp.take (sp.length - 1) ++ [[]] := by
       have h5 : sp = sp.take (sp.length - 1) ++ sp.drop (sp.length - 1) := (List.take_append_drop _ _).symm
       have h6 : sp.drop (sp.length - 1) = [[]] := by
        rw [List.drop_eq_getElem_cons (by omega)]
        have h7 : sp[sp.length - 1]'(by omega) = [] := by
         rw [List.getD_eq_getElem?_getD, List.getElem?_eq_getElem (by omega)] at hg
         exact hg
        rw [h7, List.drop_eq_nil_of_le (by omega)]
       rw [h6] at h5
       exact h5
      have hn : y.2.2 = y.1.answers.length := Decidable.not_not.1 h2
      cases hT : sp.take (sp.length - 1) with
      | nil =>
       rw [hT] at hy
       simp only [rowsL, Option.some.injEq] at hy
       exact absurd (.inl (by rw [← hy])) h1
      | cons row r =>
       rw [hT] at hy hsp
       rw [rowsL] at hy
       split at hy
       ·rename_i z hz
        have hz2 : ∃ t, headV (splitL 32 row) = some t ∧ z = (t, 0, 0) := by
         unfold rowL at hz
         rw [if_neg (by simp), if_pos rfl] at hz
         split at hz
         ·rename_i t ht
          simp only [Option.some.injEq] at hz
          exact ⟨t, ht, hz.symm⟩
         ·cases hz
        obtain ⟨t, ht, rfl⟩ := hz2
        obtain ⟨h8, h9⟩ := head_text ht
        rcases rows_text (by omega) hy with b | b
        ·exact absurd (.inl b) h1
        ·rw [hsp, join_rows, List.flatMap_cons, h8] at hj
         have hb : bodyT t = headS t := by unfold bodyT; rw [h9]; simp
         rw [hb, hj, hn] at b
         unfold saveS
         rw [lastS_eq, b]
         rfl
       ·cases hy
section
variable {c : Nat} {H : Heap}
end
section
variable {c : Nat} {H : Heap}
theorem eqI_loop (l : List Int) (hn : l.length ≤ 1000000) (Q : GX → GSt → Prop) (hH : 0 < H.length) : ∀ k i : Nat, i + k = l.length →
  Q (.exit 0) ⟨[(4, gdead)], H, 26⟩ →
  WPL KC needT 33 (lp Tryz.f33 0) [0, 1, 5] [4] Q [(0, .pure (.slice (l.map irow))), (1, .pure (.slice (l.map irow))), (5, .pure (.int .i64 i))] H 26 := by
 intro k
 induction k with
 | zero =>
  intro i hi h1
  apply WPL_step
  conv => arg 4; whnf
  have : ¬ i < l.length := by omega
  simp [this, hH]
  exact h1
 | succ k ih =>
  intro i hi h1
  have hia : i < l.length := by omega
  have hw := w64 (x := (i : Int) + 1) (by omega) (by omega)
  have ih' := ih (i + 1) (by omega) h1
  apply WPL_step
  conv => arg 4; whnf
  simp [hia, hH, irow, hw]
  simpa [irow] using ih'
theorem eqI_ok (l : List Int) (hn : l.length ≤ 1000000) (hH : 0 < H.length) :
  gcall KC (geval KC) 33 [.pure (.slice (l.map irow)), .pure (.slice (l.map irow))] c H = some (.pure (.bool true), H) := by
 refine WPv_eq (call_enter KC needT Tryz.func33 rfl rfl good33 rfl rfl rfl (by simp) hH ?_)
 simp
 refine eqI_loop (H := [] :: H) l hn _ (by simp) l.length 0 (by omega) ?_
 simp [gleave_free]
end
section
variable {c : Nat} {H : Heap}
theorem eqLs_loop (l : List (List Int)) (hn : l.length ≤ 1000000) (hs : ∀ a ∈ l, a.length ≤ 1000000) (Q : GX → GSt → Prop) (hH : 0 < H.length) : ∀ k i : Nat, i + k = l.length →
  Q (.exit 0) ⟨[(4, gdead)], H, 27⟩ →
  WPL KC needT 75 (lp Tryz.f75 0) [0, 1, 5] [4] Q [(0, .pure (.slice (l.map arow))), (1, .pure (.slice (l.map arow))), (5, .pure (.int .i64 i))] H 27 := by
 intro k
 induction k with
 | zero =>
  intro i hi h1
  apply WPL_step
  conv => arg 4; whnf
  have : ¬ i < l.length := by omega
  simp [this, hH]
  exact h1
 | succ k ih =>
  intro i hi h1
  have hia : i < l.length := by omega
  have hw := w64 (x := (i : Int) + 1) (by omega) (by omega)
  have ih' := ih (i + 1) (by omega) h1
  have hla := hs _ (List.getElem_mem hia)
  have E := fun c (H : Heap) (hH : 0 < H.length) => eqI_ok (c := c) (H := H) l[i] hla hH
  apply WPL_step
  conv => arg 4; whnf
  simp [hia, hH, arow, hw, E]
  simpa [arow] using ih'
theorem eqLs_ok (l : List (List Int)) (hn : l.length ≤ 1000000) (hs : ∀ a ∈ l, a.length ≤ 1000000) (hH : 0 < H.length) :
  gcall KC (geval KC) 75 [.pure (.slice (l.map arow)), .pure (.slice (l.map arow))] c H = some (.pure (.bool true), H) := by
 refine WPv_eq (call_enter KC needT Tryz.func75 rfl rfl good75 rfl rfl rfl (by simp) hH ?_)
 simp
 refine eqLs_loop (H := [] :: H) l hn hs _ (by simp) l.length 0 (by omega) ?_
 simp [gleave_free]
theorem eqT_ok (t : Tab) (hs : Sm t) (hH : 0 < H.length) :
  gcall KC (geval KC) 24 [.pure (.agg t.row), .pure (.agg t.row)] c H = some (.pure (.bool true), H) := by
 refine WPv_eq (call_enter KC needT Tryz.func24 rfl rfl good24 rfl rfl rfl (by simp) hH ?_)
 have E := fun c (H : Heap) (hH : 0 < H.length) => eqLs_ok (c := c) (H := H) t.answers hs.1 hs.2 hH
 simp [Tab.row, E, gleave_free]
def zb64 : Blk := .box [.pure (.int .i64 0), .pure (.int .i64 0), .pure (.int .i64 0), .nils]
end
section
variable {c : Nat} {H : Heap}
def rdC (H : Heap) : GV → PV → Prop
 | .pure p, q => p = q
 | .nils, q => q = .slice []
 | .hdr nm es top lo len, q => ∃ rows v ro, H.get nm = some (.arr es rows v ro) ∧ v ≤ top ∧ rows.length = top ∧ lo = 0 ∧ len = top ∧ q = .slice rows
 | _, _ => False
def rdL (H : Heap) : List GV → List PV → Prop
 | [], [] => True
 | g :: l, q :: m => rdC H g q ∧ rdL H l m
 | _, _ => False
def rdG (H : Heap) : GV → PV → Prop
 | .agg l, .agg m => rdL H l m
 | .pure p, q => p = q
 | _, _ => False
@[simp] theorem rdC_pure {p q : PV} : rdC H (.pure p) q = (p = q) := .trans rfl rfl
@[simp] theorem rdC_nils {q : PV} : rdC H .nils q = (q = .slice []) := .trans rfl rfl
@[simp] theorem rdC_hdr {nm : Nm} {es top lo len : Nat} {q : PV} : rdC H (.hdr nm es top lo len) q = ∃ rows v ro, H.get nm = some (.arr es rows v ro) ∧ v ≤ top ∧ rows.length = top ∧ lo = 0 ∧ len = top ∧ q = .slice rows := .trans rfl rfl
@[simp] theorem rdL_nil : rdL H [] [] = True := .trans rfl rfl
@[simp] theorem rdL_cons {g : GV} {q : PV} {l : List GV} {m : List PV} : rdL H (g :: l) (q :: m) = (rdC H g q ∧ rdL H l m) := .trans rfl rfl
@[simp] theorem rdG_agg {l : List GV} {m : List PV} : rdG H (.agg l) (.agg m) = rdL H l m := .trans rfl rfl
@[simp] theorem rdG_pure {p q : PV} : rdG H (.pure p) q = (p = q) := .trans rfl rfl
end
section
variable {c : Nat} {H : Heap}
theorem box1 {nm : Nm} (hlt : nm.1 < H.length) (w : Int) (f1 : Fr) : isBox (f1 :: H.set nm (wbox w)) nm := isBox_up (isBox_set' hlt)
theorem word1 {nm : Nm} (hlt : nm.1 < H.length) (w : Int) (f1 : Fr) : wordAt (f1 :: H.set nm (wbox w)) nm = w := by
 rw [wordAt_up (by simpa [Heap.length_set] using hlt), wordAt_set hlt]
theorem anyR_get (w : Int) (hi : Nat) (h : hi ≤ 1000000) (h1 : 1 ≤ hi) : ∃ (i : Nat) (w' : Int), anyR w 1 hi = ((i : Int), w') ∧ 1 ≤ i ∧ i ≤ hi := by
 have := anyR_rng w 1 hi (by omega) (by omega) (by omega)
 refine ⟨(anyR w 1 hi).1.toNat, (anyR w 1 hi).2, ?_, ?_, ?_⟩
 ·rw [Int.toNat_of_nonneg (by omega)]
 ·omega
 ·omega
end
section
variable {c : Nat} {H : Heap}
def AnsOk (a : List Int) : Prop := ∀ x ∈ a, -1 ≤ x ∧ x ≤ 8
end
section
variable {c : Nat} {H : Heap}
@[simp] theorem wrap_1 : IntKind.i64.wrap 1 = 1 := by decide
@[simp] theorem wrap_2 : IntKind.i64.wrap 2 = 2 := by decide
end
section
variable {c : Nat} {H : Heap}
section
variable {nm : Nm}
theorem any1 (hlt : nm.1 < H.length) (f0 : Fr) (w : Int) {lo hi : Int} : gcall KC (geval KC) 46 [.bptr nm 0, .pure (.int .i64 lo), .pure (.int .i64 hi)] c (f0 :: H.set nm (wbox w)) = some (.pure (.int .i64 (anyR w lo hi).1), f0 :: H.set nm (wbox (anyR w lo hi).2)) := by
 have := any_ok (c := c) (lo := lo) (hi := hi) (box1 hlt w f0)
 rwa [word1 hlt, Heap.set_up (by rw [Heap.length_set]; exact hlt), Heap.set_set] at this
theorem pick1 (hlt : nm.1 < H.length) (f0 : Fr) (w : Int) {l : List Int} (hn : l.length < 4611686018427387904) : gcall KC (geval KC) 44 [.bptr nm 0, .pure (.slice (l.map irow))] c (f0 :: H.set nm (wbox w)) = some (.pure (.int .i64 (pickR w l).1), f0 :: H.set nm (wbox (pickR w l).2)) := by
 have := pick_ok (c := c) (box1 hlt w f0) hn
 rwa [word1 hlt, Heap.set_up (by rw [Heap.length_set]; exact hlt), Heap.set_set] at this
end
end
section
variable {c : Nat} {H : Heap}
theorem any3 {nm : Nm} (hlt : nm.1 < H.length) (f2 f1 f0 : Fr) (w : Int) {lo hi : Int} : gcall KC (geval KC) 46 [.bptr nm 0, .pure (.int .i64 lo), .pure (.int .i64 hi)] c (f2 :: f1 :: f0 :: H.set nm (wbox w)) = some (.pure (.int .i64 (anyR w lo hi).1), f2 :: f1 :: f0 :: H.set nm (wbox (anyR w lo hi).2)) := by
 have hB : isBox (f2 :: f1 :: f0 :: H.set nm (wbox w)) nm := isBox_up (isBox_up (isBox_up (isBox_set' hlt)))
 have := any_ok (c := c) (lo := lo) (hi := hi) hB
 have e1 : wordAt (f2 :: f1 :: f0 :: H.set nm (wbox w)) nm = w := by
  rw [wordAt_up (by simp [Heap.length_set]; omega), wordAt_up (by simp [Heap.length_set]; omega), wordAt_up (by simpa [Heap.length_set] using hlt), wordAt_set hlt]
 rw [e1] at this
 rw [this, Heap.set_up (by simp [Heap.length_set]; omega), Heap.set_up (by simp [Heap.length_set]; omega), Heap.set_up (by simpa [Heap.length_set] using hlt), Heap.set_set]
def RowOk (q : Int) (l : List Int) : Prop := AnsOk l ∧ ∀ k, (h : k < l.length) → q ≤ k → l[k] = -1
theorem RowOk.nil (q : Int) : RowOk q [] := ⟨fun x hx => absurd hx List.not_mem_nil, fun k hk => by simp at hk⟩
theorem RowOk.snoc {q : Int} {l : List Int} (h : RowOk q l) {x : Int} (h1 : -1 ≤ x) (h2 : x ≤ 8) (h3 : q ≤ l.length → x = -1) : RowOk q (l ++ [x]) := by
 refine ⟨fun y hy => ?_, fun k hk hq => ?_⟩
 ·rcases List.mem_append.1 hy with h' | h'
  ·exact h.1 y h'
  ·simp at h'; subst h'; exact ⟨h1, h2⟩
 ·by_cases e : k = l.length
  ·subst e; simpa using h3 hq
  ·have hk' : k < l.length := by simp at hk; omega
   rw [List.getElem_append_left hk']; exact h.2 k hk' hq
def tFr (L : Nat) (p q s : Int) (rows : List (List Int)) : Fr := apF 59 1 (rows.map arow) [(6, zb64), (7, .box [.pure (.int .i64 p), .pure (.int .i64 q), .pure (.int .i64 s), apS (L, 59) 1 (rows.map arow)])]
theorem tabI_loop {nm : Nm} (hlt : nm.1 < H.length) (p : Nat) (q s : Int) (hp : p ≤ 9) (rows : List (List Int)) (i : Int) (Q : GX → GSt → Prop)
  (hQ : ∀ (l : List Int) (w : Int), l.length = p → RowOk q l → Q (.exit 2) ⟨[(0, .bptr nm 0), (6, .bptr (H.length, 6) 0), (7, .bptr (H.length, 7) 0), (8, .pure (.int .i64 i)), (9, apS (H.length + 1, 54) 1 (l.map irow))], apF 54 1 (l.map irow) [] :: tFr H.length p q s rows :: H.set nm (wbox w), 62⟩) :
  ∀ (j k : Nat) (l : List Int) (w : Int), k + j = p → l.length = k → RowOk q l →
  WPL KC needT 19 (lp Tryz.f19 1) [0, 6, 7, 8, 9, 10] [0, 6, 7, 8, 9] Q [(0, .bptr nm 0), (6, .bptr (H.length, 6) 0), (7, .bptr (H.length, 7) 0), (8, .pure (.int .i64 i)), (9, apS (H.length + 1, 54) 1 (l.map irow)), (10, .pure (.int .i64 (k : Nat)))] (apF 54 1 (l.map irow) [] :: tFr H.length p q s rows :: H.set nm (wbox w)) 62 := by
 have hle : nm.1 ≤ H.length := by omega
 have hle1 : nm.1 ≤ H.length + 1 := by omega
 have hl2 : ∀ w, (H.set nm (wbox w)).length = H.length := fun w => Heap.length_set _ _ _
 intro j
 induction j with
 | zero =>
  intro k l w hk hl hr
  have e : k = p := by omega
  apply WPL_step
  conv => arg 4; whnf
  have : ¬ k < p := by omega
  simp [this, tFr, hl2, hle, hle1]
  simpa [tFr] using hQ l w (by omega) hr
 | succ j ih =>
  intro k l w hk hl hr
  have hkp : k < p := by omega
  have hw := w64 (x := (k : Int) + 1) (by omega) (by omega)
  have hb : (l.length + 1) * 8 ≤ 1099511627776 := by omega
  have A := fun f0 (v w' : Int) => apK_1 (H := tFr H.length p q s rows :: H.set nm (wbox w')) (l := H.length + 1) (key := 54) (es := 1) (bytes := 8) (rows := l.map irow) (r := irow v) (fr := []) (f0 := f0) (by simp [hl2]) rfl (by simpa using hb)
  simp only [irow, tFr] at A
  have Y := fun c f2 f1 f0 w (lo hi : Int) => any3 (c := c) (H := H) hlt f2 f1 f0 w (lo := lo) (hi := hi)
  apply WPL_step
  conv => arg 4; whnf
  by_cases hq : (k : Int) < q
  ·obtain ⟨v, w1, e1⟩ : ∃ v w1, anyR w (-1) 8 = (v, w1) := ⟨_, _, rfl⟩
   have hv := anyR_rng w (-1) 8 (by omega) (by omega) (by omega)
   rw [e1] at hv
   have ih' := ih (k + 1) (l ++ [v]) w1 (by omega) (by simp [hl]) (hr.snoc hv.1 hv.2 (fun h => by omega))
   simp [hkp, tFr, hl2, hle, hle1, hq, Y, e1, A, irow, hw]
   simpa [tFr, irow] using ih'
  ·have ih' := ih (k + 1) (l ++ [-1]) w (by omega) (by simp [hl]) (hr.snoc (by omega) (by omega) (fun _ => rfl))
   simp [hkp, tFr, hl2, hle, hle1, hq, A, irow, hw]
   simpa [tFr, irow] using ih'
theorem tabO_loop {nm : Nm} (hlt : nm.1 < H.length) (N p : Nat) (hN : N ≤ 12) (q s : Int) (hp : p ≤ 9) (hp0 : 1 ≤ p) (Q : GX → GSt → Prop)
  (hQ : ∀ (rows : List (List Int)) (w : Int), rows.length = N → (∀ a ∈ rows, a.length = p ∧ RowOk q a) → Q (.exit 0) ⟨[(6, .bptr (H.length, 6) 0), (7, .bptr (H.length, 7) 0)], tFr H.length p q s rows :: H.set nm (wbox w), 62⟩) :
  ∀ (i : Nat) (rows : List (List Int)) (w : Int), i + rows.length = N → (∀ a ∈ rows, a.length = p ∧ RowOk q a) →
  WPL KC needT 19 (lp Tryz.f19 0) [0, 6, 7, 8] [6, 7] Q [(0, .bptr nm 0), (6, .bptr (H.length, 6) 0), (7, .bptr (H.length, 7) 0), (8, .pure (.int .i64 (i : Nat)))] (tFr H.length p q s rows :: H.set nm (wbox w)) 62 := by
 have hle : nm.1 ≤ H.length := by omega
 have hl2 : ∀ w, (H.set nm (wbox w)).length = H.length := fun w => Heap.length_set _ _ _
 intro i
 induction i with
 | zero =>
  intro rows w hi ha
  apply WPL_step
  conv => arg 4; whnf
  simp [tFr, hl2]
  simpa [tFr] using hQ rows w (by omega) ha
 | succ i ih =>
  intro rows w hi ha
  have e1 : (i : Int) + 1 - 1 = i := by omega
  have hw := w64 (x := (i : Int) + 1 - 1) (by omega) (by omega)
  rw [e1] at hw
  have k0 : (0 : Int) < (i : Int) + 1 := by omega
  have L := fun Q hQ => tabI_loop (H := H) hlt p q s hp rows ((i : Int) + 1) Q hQ p 0 [] w (by omega) rfl (.nil q)
  simp [tFr, apS_nil, apF_nil] at L
  apply WPL_step
  conv => arg 4; whnf
  simp [tFr, hl2, k0, hle]
  refine L _ (fun l w1 hl hr => ?_)
  have ih' := ih (rows ++ [l]) w1 (by simp; omega) (fun a h => by
   rcases List.mem_append.1 h with h | h
   ·exact ha a h
   ·simp at h; subst h; exact ⟨hl, hr⟩)
  have hne : l.map irow ≠ [] := by
   intro e; have := congrArg List.length e; simp at this; subst this; simp at hl; omega
  have hb : (rows.length + 1) * 24 ≤ 1099511627776 := by omega
  have A := fun f0 fr (hf : Fr.get fr 59 = none) => apK_1 (H := H.set nm (wbox w1)) (l := H.length) (key := 59) (es := 1) (bytes := 24) (rows := rows.map arow) (r := arow l) (fr := fr) (f0 := f0) (hl2 _) hf (by simpa using hb)
  simp only [arow] at A
  have hS : apS (H.length + 1, 54) 1 (l.map irow) = .hdr (H.length + 1, 54) 1 l.length 0 l.length := by unfold apS; rw [if_neg hne]; simp
  have hF := apF_self (key := 54) (es := 1) (fr := []) hne
  have htk : (l.map irow).take l.length = l.map irow := List.take_of_length_le (by simp)
  rw [hS]
  simp [hF, hl2, htk, A, arow, hw, e1, hle, zb64]
  simpa [tFr, arow, zb64] using ih'
structure TOk (t : Tab) : Prop where
 pk : 1 ≤ t.packets ∧ t.packets ≤ 9
 ps : 0 ≤ t.passed ∧ t.passed ≤ t.packets
 st : 1 ≤ t.state ∧ t.state ≤ 4
 cl : 3 ≤ t.state → t.passed = t.packets
 n : 1 ≤ t.answers.length ∧ t.answers.length ≤ 12
 row : ∀ a ∈ t.answers, (a.length : Int) = t.packets ∧ RowOk t.passed a
theorem TOk.sm {t : Tab} (h : TOk t) : Sm t := ⟨by have := h.n; omega, fun a ha => by have := (h.row a ha).1; have := h.pk; omega⟩
theorem pick4 (w x : Int) (h : 1 ≤ x ∧ x ≤ 4) : ∃ v w', pickR w [1, 1, 1, x] = (v, w') ∧ 1 ≤ v ∧ v ≤ 4 := by
 refine ⟨(pickR w [1, 1, 1, x]).1, (pickR w [1, 1, 1, x]).2, rfl, ?_⟩
 rw [pickR_def]
 have hr := upR_rng w 4 (by omega)
 simp only [List.length_cons, List.length_nil]
 rw [if_neg (by omega)]
 have : (upR w 4).1 = 0 ∨ (upR w 4).1 = 1 ∨ (upR w 4).1 = 2 ∨ (upR w 4).1 = 3 := by omega
 show 1 ≤ [1, 1, 1, x].getD (upR w 4).1.toNat 0 ∧ [1, 1, 1, x].getD (upR w 4).1.toNat 0 ≤ 4
 rcases this with e | e | e | e <;> rw [e] <;> simp <;> omega
theorem table_ok0 {nm : Nm} (hlt : nm.1 < H.length) (w0 : Int) (P G : Nat) (hP : 1 ≤ P ∧ P ≤ 9) (hG : 1 ≤ G ∧ G ≤ 12) : ∃ t wd, TOk t ∧ gcall KC (geval KC) 19 [.bptr nm 0, .pure (.int .i64 (P : Nat)), .pure (.int .i64 (G : Nat))] c (H.set nm (wbox w0)) = some (.pure (.agg t.row), H.set nm (wbox wd)) := by
 have hle : nm.1 ≤ H.length := by omega
 have hl2 : ∀ w, (H.set nm (wbox w)).length = H.length := fun w => Heap.length_set _ _ _
 suffices hs : WPv (gcall KC (geval KC) 19 [.bptr nm 0, .pure (.int .i64 (P : Nat)), .pure (.int .i64 (G : Nat))] c (H.set nm (wbox w0))) (fun x => ∃ t wd, TOk t ∧ x = (.pure (.agg t.row), H.set nm (wbox wd))) by
  obtain ⟨x, hx, t, wd, h1, e⟩ := hs
  exact ⟨t, wd, h1, by rw [hx, e]⟩
 refine call_enter KC needT Tryz.func19 rfl rfl good19 rfl rfl rfl (by simp) (by rw [hl2]; omega) ?_
 obtain ⟨p, w1, e1, p1, p2⟩ := anyR_get w0 P (by omega) (by omega)
 obtain ⟨x, w2, e2⟩ : ∃ x w2, anyR w1 1 4 = (x, w2) := ⟨_, _, rfl⟩
 have hx := anyR_rng w1 1 4 (by omega) (by omega) (by omega)
 rw [e2] at hx
 obtain ⟨s, w3, e3, s1, s2⟩ := pick4 w2 x hx
 obtain ⟨q, w4, e4⟩ : ∃ q w4, anyR w3 0 p = (q, w4) := ⟨_, _, rfl⟩
 have hq := anyR_rng w3 0 p (by omega) (by omega) (by omega)
 rw [e4] at hq
 simp only at hq hx
 obtain ⟨n, w5, e5, n1, n2⟩ := anyR_get w4 G (by omega) (by omega)
 have Y := fun c f0 w (lo hi : Int) => any1 (c := c) (H := H) hlt f0 w (lo := lo) (hi := hi)
 have K := fun c f0 w => pick1 (c := c) (H := H) hlt f0 w (l := [1, 1, 1, x]) (by simp)
 simp [irow] at K
 have fin : ∀ (q' : Int) (hq' : 0 ≤ q' ∧ q' ≤ p) (hc : 3 ≤ s → q' = p) (rows : List (List Int)) (w : Int), rows.length = n → (∀ a ∈ rows, a.length = p ∧ RowOk q' a) → TOk ⟨p, q', s, rows⟩ := fun q' hq' hc rows w hl ha =>
  ⟨⟨by simp only; omega, by simp only; omega⟩, ⟨hq'.1, hq'.2⟩, ⟨s1, s2⟩, hc, ⟨by simp only; omega, by simp only; omega⟩, fun a h => ⟨by simp only; have := (ha a h).1; omega, (ha a h).2⟩⟩
 by_cases hs3 : 3 ≤ s
 ·have L := fun Q hQ => tabO_loop (H := H) hlt n p (by omega) p s (by omega) (by omega) Q hQ n [] w5 rfl (fun a h => absurd h List.not_mem_nil)
  simp [tFr, zb64, apS_nil, apF_nil] at L
  simp [hl2, hle, Y, e1, e2, e3, e4, e5, K, hs3]
  refine L _ (fun rows w hl ha => ?_)
  have T := fin p ⟨by omega, by omega⟩ (fun _ => rfl) rows w hl ha
  simp [hl2]
  rw [gleave_free]
  ·rw [WPv_some, hl2]
   refine ⟨_, T, w, ?_⟩
   rw [clean_agg]
   simp only [List.map_cons, List.map_nil, clean1_pure]
   rw [clean1_apS (hl2 _) (by omega) (fun hne => apF_self hne)]
   have hk : rows.map arow ≠ [] := fun e => by have := congrArg List.length e; simp at this; subst this; simp at hl; omega
   rw [if_neg hk]
   simp [Tab.row]
  ·simp
 ·have L := fun Q hQ => tabO_loop (H := H) hlt n p (by omega) q s (by omega) (by omega) Q hQ n [] w5 rfl (fun a h => absurd h List.not_mem_nil)
  simp [tFr, zb64, apS_nil, apF_nil] at L
  simp [hl2, hle, Y, e1, e2, e3, e4, e5, K, hs3]
  refine L _ (fun rows w hl ha => ?_)
  have T := fin q hq (fun h => absurd h hs3) rows w hl ha
  simp [hl2]
  rw [gleave_free]
  ·rw [WPv_some, hl2]
   refine ⟨_, T, w, ?_⟩
   rw [clean_agg]
   simp only [List.map_cons, List.map_nil, clean1_pure]
   rw [clean1_apS (hl2 _) (by omega) (fun hne => apF_self hne)]
   have hk : rows.map arow ≠ [] := fun e => by have := congrArg List.length e; simp at this; subst this; simp at hl; omega
   rw [if_neg hk]
   simp [Tab.row]
  ·simp
theorem table_ok {nm : Nm} (hB : isBox H nm) (P G : Nat) (hP : 1 ≤ P ∧ P ≤ 9) (hG : 1 ≤ G ∧ G ≤ 12) : ∃ t wd, TOk t ∧ gcall KC (geval KC) 19 [.bptr nm 0, .pure (.int .i64 (P : Nat)), .pure (.int .i64 (G : Nat))] c H = some (.pure (.agg t.row), H.set nm (wbox wd)) := by
 obtain ⟨t, wd, h1, h2⟩ := table_ok0 (c := c) (isBox_lt hB) (wordAt H nm) P G hP hG
 rw [isBox_set hB] at h2
 exact ⟨t, wd, h1, h2⟩
end
section
variable {c : Nat} {H : Heap}
theorem awakeX_ok (hH : 0 < H.length) : gcall KC (geval KC) 18 [] c H = some (.pure (.bool true), H) := by
 refine (gcall_ext KC (e := extTold [([], .bool true)]) (by kernel_rfl) (by rfl) hH).trans ?_
 rfl
def svS (t : Tab) : List UInt8 := if chkT t = 0 then saveS t else []
theorem Save_ok (t : Tab) (hs : Sm t) (hH : 0 < H.length) : gcall KC (geval KC) 20 [.pure (.agg t.row)] c H = some (.pure (.tuple [.str (svS t), .int .i64 (chkT t)]), H) := by
 unfold svS
 by_cases h : chkT t = 0
 ·rw [if_pos h, h]
  have hg := goodT h
  exact save0 t hs hH h fun a ha => ⟨by have := (hg.a a ha).1; omega, fun n hn => by have := (hg.a a ha).2 n hn; omega⟩
 ·rw [if_neg h]
  refine WPv_eq (call_enter KC needT Tryz.func20 rfl rfl good20 rfl rfl rfl (by simp) hH ?_)
  have hC := fun c G (hG : 0 < List.length G) => chkT_ok (c := c) (H := G) t hs hG
  have h' : (chkT t == 0) = false := by simpa using h
  unfold Tab.row at hC
  simp [Tab.row, hC, h, h', gleave_free, bne]
theorem GoodT.sm {t : Tab} (h : GoodT t) : Sm t := ⟨by have := h.n; omega, fun a ha => by have := (h.a a ha).1; omega⟩
end
section
variable {c : Nat} {H : Heap}
theorem byte_lt (b : UInt8) : (b.toNat : Int) < 256 := by have := b.toNat_lt; omega
theorem num_loopR (w : List UInt8) (hn : w.length ≤ 4) (Q : GX → GSt → Prop) (hH : 0 < H.length) : ∀ (k i : Nat) (acc : Int), i + k = w.length → 0 ≤ acc → acc < 10 ^ i →
  (∀ n, numD acc (w.drop i) = some n → Q (.exit 0) ⟨[(4, gdead), (5, gdead), (6, .pure (.int .i64 n))], H, 52⟩) →
  (∀ v, numD acc (w.drop i) = none → Q .ret ⟨[(4, .pure (.int .i64 0)), (5, .pure (.bool false)), (6, v)], H, 52⟩) →
  WPL KC needT 74 (lp Tryz.f74 0) [0, 6, 7] [4, 5, 6] Q [(0, .pure (.str w)), (6, .pure (.int .i64 acc)), (7, .pure (.int .i64 i))] H 52 := by
 intro k
 induction k with
 | zero =>
  intro i acc hi h0 hlt h1 h2
  have hia : ¬ i < w.length := by omega
  have e1 : w.drop i = [] := List.drop_of_length_le (by omega)
  rw [e1] at h1
  have h1' := h1 acc rfl
  apply WPL_step
  conv => arg 4; whnf
  simp [hia, hH]
  exact h1'
 | succ k ih =>
  intro i acc hi h0 hlt h1 h2
  have hia : i < w.length := by omega
  have hw := w64 (x := (i : Int) + 1) (by omega) (by omega)
  have hd : w.drop i = w[i] :: w.drop (i + 1) := List.drop_eq_getElem_cons hia
  have hb := byte_lt w[i]
  have h10 : (10 : Int) ^ i ≤ 10 ^ 5 := by
   have := Nat.pow_le_pow_right (n := 10) (by omega) (show i ≤ 5 by omega)
   exact_mod_cast this
  rw [hd] at h1 h2
  apply WPL_step
  conv => arg 4; whnf
  by_cases c1 : w[i].toNat < 48
  ·have h2' := h2 (.pure (.int .i64 acc)) (by rw [numD, if_pos (.inl c1)])
   have c1' : (w[i].toNat : Int) < 48 := by omega
   simp [hia, hH, c1, c1']
   exact h2'
  ·by_cases c2 : 57 < w[i].toNat
   ·have h2' := h2 (.pure (.int .i64 acc)) (by rw [numD, if_pos (.inr c2)])
    have c1' : ¬ (w[i].toNat : Int) < 48 := by omega
    have c2' : (57 : Int) < w[i].toNat := by omega
    simp [hia, hH, c1, c1', c2, c2']
    exact h2'
   ·have c1' : ¬ (w[i].toNat : Int) < 48 := by omega
    have c2' : ¬ (57 : Int) < w[i].toNat := by omega
    have e1 : numD acc (w[i] :: w.drop (i + 1)) = numD (10 * acc + ((w[i].toNat : Int) - 48)) (w.drop (i + 1)) := by
     rw [numD, if_neg (by omega)]
    rw [e1] at h1 h2
    have hu : IntKind.u8.wrap ((w[i].toNat : Int) - 48) = (w[i].toNat : Int) - 48 := by rw [IntKind.wrap_u8]; omega
    have hw1 := w64 (x := (w[i].toNat : Int) - 48) (by omega) (by omega)
    have hw2 := w64 (x := 10 * acc) (by omega) (by omega)
    have hw3 := w64 (x := 10 * acc + ((w[i].toNat : Int) - 48)) (by omega) (by omega)
    have ih' := ih (i + 1) (10 * acc + ((w[i].toNat : Int) - 48)) (by omega) (by omega) (by rw [Int.pow_succ]; omega) h1 h2
    simp [hia, hH, c1, c1', c2, c2', hu, hw, hw1, hw2, hw3]
    simpa using ih'
def numRG : Option Int → PV
 | some n => .tuple [.int .i64 n, .bool true]
 | none => .tuple [.int .i64 0, .bool false]
theorem numberR_ok (w : List UInt8) (hn : w.length ≤ 9223372036854775807) (hH : 0 < H.length) : gcall KC (geval KC) 74 [.pure (.str w), .pure (.int .i64 4)] c H = some (.pure (numRG (numV w)), H) := by
 rw [← numR_eq]
 refine WPv_eq (call_enter KC needT Tryz.func74 rfl rfl good74 rfl rfl rfl (by simp) hH ?_)
 by_cases c1 : w.length < 1
 ·have hv : numR w = none := by unfold numR; rw [if_pos (.inl c1)]
  have c1' : (w.length : Int) < 1 := by omega
  rw [hv]
  simp [c1, c1', numRG, gleave_free]
 ·by_cases c2 : 4 < w.length
  ·have hv : numR w = none := by unfold numR; rw [if_pos (.inr (.inl c2))]
   have c1' : ¬ (w.length : Int) < 1 := by omega
   have c2' : (4 : Int) < w.length := by omega
   rw [hv]
   simp [c1, c1', c2, c2', numRG, gleave_free]
  ·obtain ⟨b0, r, rfl⟩ : ∃ b0 r, w = b0 :: r := by
    cases w with
    | nil => exact absurd (by simp) c1
    | cons b0 r => exact ⟨b0, r, rfl⟩
   have c1' : ¬ ((b0 :: r).length : Int) < 1 := by omega
   have c2' : ¬ (4 : Int) < (b0 :: r).length := by omega
   have h48 : ∀ x : UInt8, ((x.toNat : Int) == 48) = decide (x = 48) := fun x => by
    rw [Bool.eq_iff_iff]
    simp only [beq_iff_eq, decide_eq_true_eq]
    constructor
    ·intro h
     apply UInt8.toNat_inj.1
     have e : (48 : UInt8).toNat = 48 := rfl
     omega
    ·intro h
     subst h
     rfl
   have hL := fun Q h1 h2 => num_loopR (H := [] :: H) (b0 :: r) (by omega) Q (by simp) (b0 :: r).length 0 0 (by omega) (by omega) (by omega) h1 h2
   have hx : numR (b0 :: r) = if b0 = 48 ∧ 1 < (b0 :: r).length then none else numD 0 (b0 :: r) := by
    unfold numR
    by_cases c3 : b0 = 48 ∧ 1 < (b0 :: r).length
    ·rw [if_pos c3, if_pos (.inr (.inr ⟨by rw [c3.1]; rfl, c3.2⟩))]
    ·rw [if_neg c3, if_neg (fun h => by
      rcases h with h | h | ⟨h, h2⟩
      ·exact c1 h
      ·exact c2 h
      ·exact c3 ⟨by simpa using h, h2⟩)]
   rw [hx]
   clear hx
   simp only [List.length_cons] at c1 c1' c2 c2'
   have d1 : ¬ (r.length : Int) + 1 < 1 := by omega
   have d2 : ¬ (4 : Int) < (r.length : Int) + 1 := by omega
   have d3 : ¬ (r.length : Int) < 0 := by omega
   have d4 : ¬ (r.length : Int) + 1 ≤ 0 := by omega
   by_cases c3 : b0 = 48
   ·by_cases c4 : 1 < (b0 :: r).length
    ·rw [if_pos ⟨c3, c4⟩]
     simp only [List.length_cons] at c4
     have c4' : (1 : Int) < (r.length : Int) + 1 := by omega
     simp (maxSteps := 20000) [d1, d2, d3, d4, h48, c3, c4', numRG, gleave_free]
    ·rw [if_neg (fun h => c4 h.2)]
     simp only [List.length_cons] at c4
     have c4' : ¬ (1 : Int) < (r.length : Int) + 1 := by omega
     have d5 : ¬ (0 : Int) < (r.length : Int) := by omega
     subst c3
     simp at hL
     simp (maxSteps := 20000) [d1, d2, d3, d4, d5, h48, c4']
     refine hL _ (fun n h => ?_) (fun v h => ?_)
     ·rw [h]; simp [numRG, gleave_free]
     ·rw [h]; simp [numRG, gleave_free]
   ·rw [if_neg (fun h => c3 h.1)]
    simp at hL
    simp (maxSteps := 20000) [d1, d2, d3, d4, h48, c3]
    refine hL _ (fun n h => ?_) (fun v h => ?_)
    ·rw [h]; simp [numRG, gleave_free]
    ·rw [h]; simp [numRG, gleave_free]
theorem split_loopR (s : List UInt8) (b : UInt8) (hs : s.length ≤ 100000) (T : List (List UInt8)) (Q : GX → GSt → Prop) (hH : 0 < H.length)
  (hq : Q (.exit 0) ⟨[(5, apS (H.length, 31) 1 (T.map srow))], apF 31 1 (T.map srow) [] :: H, 35⟩) : ∀ (k i fr : Nat) (out : List (List UInt8)), i + k = s.length → fr ≤ i → out.length ≤ i → b ∉ (s.take i).drop fr → out ++ splitL b (s.drop fr) = T →
  WPL KC needT 71 (lp Tryz.f71 0) [0, 1, 5, 6, 7] [5] Q [(0, .pure (.str s)), (1, .pure (.int .u8 b.toNat)), (5, apS (H.length, 31) 1 (out.map srow)), (6, .pure (.int .i64 fr)), (7, .pure (.int .i64 i))] (apF 31 1 (out.map srow) [] :: H) 35 := by
 intro k
 induction k with
 | zero =>
  intro i fr out hi hf ho hb hT
  have hil : i = s.length := by omega
  have hw := w64 (x := (i : Int) + 1) (by omega) (by omega)
  have hb2 : (out.length + 1) * 16 ≤ 1099511627776 := by omega
  apply WPL_step
  conv => arg 4; whnf
  have hfs : fr ≤ s.length := by omega
  have htk : s.take i = s := List.take_of_length_le (by omega)
  rw [htk] at hb
  rw [split_word hb] at hT
  subst hT
  have hw' : IntKind.i64.wrap ((s.length : Int) + 1) = (s.length : Int) + 1 := by rw [← hil]; exact hw
  have hnl : ¬ (s.length : Int) + 1 ≤ s.length := by omega
  simp [srow] at hq
  simp [hil, hw', hb2, srow, hfs, hH]
  apply WPL_step
  conv => arg 4; whnf
  simp [hnl, hH]
  exact hq
 | succ k ih =>
  intro i fr out hi hf ho hb hT
  have hia : i < s.length := by omega
  have hw := w64 (x := (i : Int) + 1) (by omega) (by omega)
  have hb2 : (out.length + 1) * 16 ≤ 1099511627776 := by omega
  have hle : (i : Int) ≤ s.length := by omega
  have hle2 : i ≤ s.length := by omega
  have hne : ¬ (i : Int) = s.length := by omega
  have hne2 : ((i : Int) == s.length) = false := by simpa using hne
  have hts : s.take (i + 1) = s.take i ++ [s[i]] := List.take_succ_eq_append_getElem hia
  have hlen : (s.take i).length = i := by rw [List.length_take]; omega
  have hsp : s.drop fr = (s.take i).drop fr ++ s[i] :: s.drop (i + 1) := by
   have h1 : s = s.take i ++ s.drop i := (List.take_append_drop i s).symm
   have h2 : s.drop i = s[i] :: s.drop (i + 1) := List.drop_eq_getElem_cons hia
   rw [h2] at h1
   have h3 := congrArg (List.drop fr) h1
   rw [List.drop_append_of_le_length (by omega)] at h3
   exact h3
  apply WPL_step
  conv => arg 4; whnf
  by_cases c1 : s[i] = b
  ·have ih' := ih (i + 1) (i + 1) (out ++ [(s.take i).drop fr]) (by omega) (by omega) (by simp; omega) (by rw [List.drop_of_length_le (by rw [List.length_take]; omega)]; simp) (by
    rw [← hT, hsp, c1, split_app _ hb]; simp)
   simp [srow] at ih'
   simp [hia, hw, hb2, srow, c1, hle, hle2, hne, hf, hH]
   simpa using ih'
  ·have ih' := ih (i + 1) fr out (by omega) (by omega) (by omega) (by
    rw [hts, List.drop_append_of_le_length (by omega)]
    intro hm
    rcases List.mem_append.1 hm with hm | hm
    ·exact hb hm
    ·rw [List.mem_singleton] at hm; exact c1 hm.symm) hT
   have c1' : ((s[i].toNat : Int) == b.toNat) = false := by
    rw [beq_eq_false_iff_ne]
    intro h
    exact c1 (UInt8.toNat_inj.1 (by omega))
   simp [hia, hw, hle, hle2, hne, hne2, c1', hH]
   simpa using ih'
theorem splitR_ok (s : List UInt8) (b : UInt8) (hs : s.length ≤ 100000) (hH : 0 < H.length) : gcall KC (geval KC) 71 [.pure (.str s), .pure (.int .u8 b.toNat)] c H = some (.pure (.slice ((splitL b s).map srow)), H) := by
 refine WPv_eq (call_enter KC needT Tryz.func71 rfl rfl good71 rfl rfl rfl (by simp) hH ?_)
 have h0 := fun Q hq => split_loopR (H := H) s b hs (splitL b s) Q hH hq s.length 0 0 [] (by omega) (by omega) (by simp) (by simp) (by simp)
 simp [apS_nil, apF_nil] at h0
 simp
 refine h0 _ ?_
 simp [gleave_free]
 exact cc_apS rfl (by omega)
end
section
variable {c : Nat} {H : Heap}
theorem states_ok (hH : 0 < H.length) : gcall KC (geval KC) 67 [] c H = some (.pure (.slice [[.str []], [.str [111, 112, 101, 110]], [.str [112, 97, 117, 115, 101, 100]], [.str [99, 108, 111, 115, 101, 100]], [.str [115, 104, 111, 119, 110]]]), H) := by
 refine WPv_eq (call_enter KC needT Tryz.func67 rfl rfl good67 rfl rfl rfl (by simp) hH ?_)
 simp [gleave_free]
def tbF (t : Tab) : Fr := [(1, .box [.pure (.int .i64 t.packets), .pure (.int .i64 t.passed), .pure (.int .i64 t.state), .pure (.slice (t.answers.map arow))])]
theorem svR_cells (t : Tab) (j : Nat) (hj : j < t.answers.length) (a : List Int) (haj : t.answers[j] = a) (hap : (a.length : Int) = t.packets) (ha : a.length ≤ 1000) (har : ∀ n ∈ a, -1 ≤ n ∧ n ≤ 1000) (f0 : Fr) (Q : GX → GSt → Prop) : ∀ (k i : Nat) (l : List UInt8), i + k = a.length → l.length + 22 * k ≤ 1099511627776 →
  (Q (.exit 2) ⟨[(1, .bptr (H.length, 1) 0), (5, .pure (.str (l ++ (a.drop i).flatMap cellS))), (6, .pure (.int .i64 j))], f0 :: tbF t :: H, 73⟩) →
  WPL KC needT 21 (lp Tryz.f21 1) [1, 5, 6, 7] [1, 5, 6] Q [(1, .bptr (H.length, 1) 0), (5, .pure (.str l)), (6, .pure (.int .i64 j)), (7, .pure (.int .i64 i))] (f0 :: tbF t :: H) 73 := by
 intro k
 induction k with
 | zero =>
  intro i l hi hb h1
  have hia : ¬ (i : Int) < t.packets := by omega
  have e1 : a.drop i = [] := List.drop_of_length_le (by omega)
  rw [e1] at h1
  simp only [List.flatMap_nil, List.append_nil] at h1
  unfold tbF at h1 ⊢
  apply WPL_step
  conv => arg 4; whnf
  simp [hia]
  exact h1
 | succ k ih =>
  intro i l hi hb h1
  have hia : i < a.length := by omega
  have hip : (i : Int) < t.packets := by omega
  have hw := w64 (x := (i : Int) + 1) (by omega) (by omega)
  have hd : a.drop i = a[i] :: a.drop (i + 1) := List.drop_eq_getElem_cons hia
  have hri := har a[i] (List.getElem_mem hia)
  have hs : (a.drop i).flatMap cellS = cellS a[i] ++ (a.drop (i + 1)).flatMap cellS := by rw [hd]; rfl
  rw [hs, ← List.append_assoc] at h1
  have hcs := cellS_len a[i]
  have ih' := ih (i + 1) (l ++ cellS a[i]) (by omega) (by simp; omega) h1
  have il := itoaL_len a[i]
  unfold tbF at ih' ⊢
  apply WPL_step
  conv => arg 4; whnf
  by_cases hn : a[i] < 0
  ·have e1 : cellS a[i] = [32, 45] := by unfold cellS; rw [if_pos hn]
   rw [e1] at ih'
   have l1 : l.length + 2 ≤ 4611686018427387904 := by omega
   have l2 : ∀ k, 1099511627776 ≤ k → l.length ≤ k := fun k hk => by omega
   simp [hip, hj, haj, arow, hia, irow, hn, hw, l1, l2]
   simpa [arow] using ih'
  ·have e1 : cellS a[i] = 32 :: itoaL a[i] := by unfold cellS; rw [if_neg hn]
   rw [e1] at ih'
   have hI : ∀ c G, 0 < List.length G → gcall KC (geval KC) 51 [.pure (.int .i64 a[i])] c G = some (.pure (.str (itoaL a[i])), G) := fun c G hG => itoa_ok (by omega) (by omega) hG
   have l1 : l.length + 1 ≤ 4611686018427387904 := by omega
   have l2 : l.length + 1 + (itoaL a[i]).length ≤ 4611686018427387904 := by omega
   have l3 : ∀ k, 1099511627776 ≤ k → l.length ≤ k := fun k hk => by omega
   simp [hip, hj, haj, arow, hia, irow, hn, hw, hI, l1, l2, l3]
   simpa [arow] using ih'
theorem svR_rows (t : Tab) (hl : t.answers.length ≤ 1000) (hp : ∀ a ∈ t.answers, (a.length : Int) = t.packets) (ha : ∀ a ∈ t.answers, a.length ≤ 1000 ∧ ∀ n ∈ a, -1 ≤ n ∧ n ≤ 1000) (Q : GX → GSt → Prop) : ∀ (k i : Nat) (l : List UInt8), i + k = t.answers.length → l.length + 22006 * k ≤ 1000000000 →
  (Q (.exit 0) ⟨[(1, .bptr (H.length, 1) 0), (5, .pure (.str (l ++ (t.answers.drop i).flatMap gRow)))], tbF t :: H, 73⟩) →
  WPL KC needT 21 (lp Tryz.f21 0) [1, 5, 6] [1, 5] Q [(1, .bptr (H.length, 1) 0), (5, .pure (.str l)), (6, .pure (.int .i64 i))] (tbF t :: H) 73 := by
 intro k
 induction k with
 | zero =>
  intro i l hi hb h1
  have hia : ¬ i < t.answers.length := by omega
  have e1 : t.answers.drop i = [] := List.drop_of_length_le (by omega)
  rw [e1] at h1
  simp only [List.flatMap_nil, List.append_nil] at h1
  unfold tbF at h1 ⊢
  apply WPL_step
  conv => arg 4; whnf
  simp [hia]
  exact h1
 | succ k ih =>
  intro i l hi hb h1
  have hia : i < t.answers.length := by omega
  have hw := w64 (x := (i : Int) + 1) (by omega) (by omega)
  have hd : t.answers.drop i = t.answers[i] :: t.answers.drop (i + 1) := List.drop_eq_getElem_cons hia
  have hri := ha t.answers[i] (List.getElem_mem hia)
  have hpi := hp t.answers[i] (List.getElem_mem hia)
  have hs : (t.answers.drop i).flatMap gRow = gRow t.answers[i] ++ (t.answers.drop (i + 1)).flatMap gRow := by rw [hd]; rfl
  rw [hs, ← List.append_assoc] at h1
  have hcs := gRow_len t.answers[i]
  have hcl := flat_len cellS_len t.answers[i]
  have ih' := ih (i + 1) (l ++ gRow t.answers[i]) (by omega) (by simp; omega) h1
  have l1 : l.length + 5 ≤ 4611686018427387904 := by omega
  have l2 : ∀ k, 1099511627776 ≤ k → l.length ≤ k := fun k hk => by omega
  have l3 : ∀ m k, m ≤ 100 → 1099511627776 ≤ k → l.length + ((t.answers[i].flatMap cellS).length + m) ≤ k := fun m k h1 h2 => by omega
  have l4 : ∀ k, 1099511627776 ≤ k → l.length + (t.answers[i].flatMap cellS).length ≤ k := fun k h2 => by omega
  have h0 := fun (f0 : Fr) (Q : GX → GSt → Prop) => svR_cells (H := H) t i hia t.answers[i] rfl hpi hri.1 hri.2 f0 Q t.answers[i].length 0 (l ++ guestW) (by omega) (by simp [guestW]; omega)
  have l5 : ∀ k, 1099511627776 ≤ k → l.length + ((t.answers[i].flatMap cellS).length + 1 + 1 + 1 + 1 + 1) ≤ k := fun k h2 => by omega
  unfold tbF at h0 ih' ⊢
  unfold gRow at ih'
  simp only [List.drop_zero] at h0
  generalize t.answers[i].flatMap cellS = C at *
  simp [guestW] at h0
  simp [guestW] at ih'
  apply WPL_step
  conv => arg 4; whnf
  simp [hia, l1, l2]
  refine h0 _ _ ?_
  simp [hw, l1, l2, l3, l4, l5]
  simpa using ih'
theorem SaveR_ok (t : Tab) (hs : Sm t) (hH : 0 < H.length) : gcall KC (geval KC) 21 [.pure (.agg t.row)] c H = some (.pure (.tuple [.str (svS t), .int .i64 (chkT t)]), H) := by
 refine WPv_eq (call_enter KC needT Tryz.func21 rfl rfl good21 rfl rfl rfl (by simp) hH ?_)
 have hC := fun c G (hG : 0 < List.length G) => chkTR_ok (c := c) (H := G) t hs hG
 unfold Tab.row at hC
 unfold svS
 by_cases h : chkT t = 0
 ·rw [if_pos h, h]
  rw [h] at hC
  have hg := goodT h
  obtain ⟨g1, g2, g3, g4, g5, g6, g7, g8, g9⟩ := chkT_good h
  have hpk : ∀ a ∈ t.answers, (a.length : Int) = t.packets := fun a ha => by
   have hr := rowsE_mem g9 a ha
   unfold rowE at hr
   split at hr
   ·rename_i hw; exact absurd hr hw
   ·rename_i hw; exact wrF_len (Decidable.not_not.1 hw)
  have ha : ∀ a ∈ t.answers, a.length ≤ 1000 ∧ ∀ n ∈ a, -1 ≤ n ∧ n ≤ 1000 := fun a ha => ⟨by have := (hg.a a ha).1; omega, fun n hn => by have := (hg.a a ha).2 n hn; omega⟩
  have hI : ∀ n : Int, 0 ≤ n ∧ n ≤ 1000 → ∀ c G, 0 < List.length G → gcall KC (geval KC) 51 [.pure (.int .i64 n)] c G = some (.pure (.str (itoaL n)), G) := fun n hn c G hG => itoa_ok (by omega) (by omega) hG
  have hI1 := hI t.packets (by omega)
  have hI2 := hI t.passed (by omega)
  have hI3 := hI t.answers.length (by omega)
  have hS := fun c G (hG : 0 < List.length G) => states_ok (c := c) (H := G) hG
  have k1 := itoaL_len t.packets
  have k2 := itoaL_len t.passed
  have hst : t.state = 1 ∨ t.state = 2 ∨ t.state = 3 ∨ t.state = 4 := by omega
  have hhd : headS t = tableW ++ 32 :: itoaL t.packets ++ 32 :: itoaL t.passed ++ 32 :: stW t.state ++ [10] := rfl
  have hhl := headS_len t
  have hlr := rows_len (m := 1000) (fun a h => (ha a h).1)
  have hrw := fun (Q : GX → GSt → Prop) => svR_rows (H := H) t (by omega) hpk ha Q t.answers.length 0 (headS t) (by omega) (by omega)
  unfold saveS
  rw [hhd] at hrw ⊢
  generalize hR : t.answers.flatMap gRow = B at *
  unfold tbF at hrw
  generalize itoaL t.packets = P at *
  generalize itoaL t.passed = R at *
  have f1 : ∀ k, 1000 ≤ k → P.length ≤ k := fun k hk => by omega
  have f2 : ∀ k, 1000 ≤ k → P.length + R.length ≤ k := fun k hk => by omega
  have f4 : ∀ m k, m ≤ 100 → 1000 ≤ k → P.length + (R.length + m) ≤ k := fun m k h1 h2 => by omega
  have f5 : ∀ m k, m ≤ 100 → 1000 ≤ k → m + P.length ≤ k := fun m k h1 h2 => by omega
  have f6 : P.length + 1 + 1 + 1 + 1 + 1 + 1 + 1 + R.length ≤ 4611686018427387904 := by omega
  have f7 : ∀ k, 1000 ≤ k → P.length + (R.length + 1 + 1) ≤ k := fun k hk => by omega
  have f8 : ∀ m k, m ≤ 100 → 1000 ≤ k → P.length + (R.length + m + 1) ≤ k := fun m k h1 h2 => by omega
  have hil := itoaL_len t.answers.length
  simp only [lastS, endW]
  generalize hN : itoaL (t.answers.length : Int) = N at *
  have g1 : ∀ k, 1000000000 ≤ k → P.length + (R.length + B.length) ≤ k := fun k h2 => by omega
  have g2 : ∀ m k, m ≤ 100 → 1000000000 ≤ k → P.length + (R.length + (B.length + m)) ≤ k := fun m k h1 h2 => by omega
  have g3 : ∀ k, 1000000000 ≤ k → P.length + (R.length + (B.length + 1 + 1 + 1 + 1 + 1 + 1) + 1) ≤ k := fun k h2 => by omega
  have g4 : ∀ k, 1000000000 ≤ k → P.length + (R.length + (B.length + 1 + 1 + 1 + 1 + 1 + 1 + 1) + 1) ≤ k := fun k h2 => by omega
  have g5 : ∀ k, 1000000000 ≤ k → P.length + (R.length + (B.length + 1 + 1 + 1 + 1 + 1 + 1 + 1 + 1) + 1) ≤ k := fun k h2 => by omega
  have g6 : P.length + (R.length + (B.length + 4 + 1 + 1 + 1 + 1 + 1 + 1) + 1) + 1 + 1 + 1 + 1 + 1 + 1 + N.length ≤ 4611686018427387904 := by omega
  have g9 : ∀ k, 1000000000 ≤ k → P.length + (R.length + (B.length + (N.length + 1 + 1 + 1 + 1) + 1 + 1 + 1 + 1 + 1 + 1) + 1) ≤ k := fun k h2 => by omega
  have g7 : P.length + (R.length + (B.length + 4 + 1 + 1 + 1 + 1 + 1 + 1 + 1) + 1) + 1 + 1 + 1 + 1 + 1 + 1 + N.length ≤ 4611686018427387904 := by omega
  have g10 : ∀ k, 1000000000 ≤ k → P.length + (R.length + (B.length + (N.length + 1 + 1 + 1 + 1) + 1 + 1 + 1 + 1 + 1 + 1 + 1) + 1) ≤ k := fun k h2 => by omega
  have g8 : P.length + (R.length + (B.length + 4 + 1 + 1 + 1 + 1 + 1 + 1 + 1 + 1) + 1) + 1 + 1 + 1 + 1 + 1 + 1 + N.length ≤ 4611686018427387904 := by omega
  have g11 : ∀ k, 1000000000 ≤ k → P.length + (R.length + (B.length + (N.length + 1 + 1 + 1 + 1) + 1 + 1 + 1 + 1 + 1 + 1 + 1 + 1) + 1) ≤ k := fun k h2 => by omega
  rcases hst with hst | hst | hst | hst
  ·rw [hst] at hC hrw ⊢
   simp [tableW, stW, hR] at hrw
   simp [Tab.row, hC, hI1, hI2, f1, f2, f4, f5, f6, f7, f8, hst, hS]
   refine hrw _ ?_
   simp [hI3, g1, g2, g3, g4, g5, g6, g7, g8, g9, g10, g11, gleave_free]
   simp [tableW, stW]
  ·rw [hst] at hC hrw ⊢
   simp [tableW, stW, hR] at hrw
   simp [Tab.row, hC, hI1, hI2, f1, f2, f4, f5, f6, f7, f8, hst, hS]
   refine hrw _ ?_
   simp [hI3, g1, g2, g3, g4, g5, g6, g7, g8, g9, g10, g11, gleave_free]
   simp [tableW, stW]
  ·rw [hst] at hC hrw ⊢
   simp [tableW, stW, hR] at hrw
   simp [Tab.row, hC, hI1, hI2, f1, f2, f4, f5, f6, f7, f8, hst, hS]
   refine hrw _ ?_
   simp [hI3, g1, g2, g3, g4, g5, g6, g7, g8, g9, g10, g11, gleave_free]
   simp [tableW, stW]
  ·rw [hst] at hC hrw ⊢
   simp [tableW, stW, hR] at hrw
   simp [Tab.row, hC, hI1, hI2, f1, f2, f4, f5, f6, f7, f8, hst, hS]
   refine hrw _ ?_
   simp [hI3, g1, g2, g3, g4, g5, g6, g7, g8, g9, g10, g11, gleave_free]
   simp [tableW, stW]
 ·rw [if_neg h]
  have h' : (chkT t == 0) = false := by simpa using h
  simp [Tab.row, hC, h, h', gleave_free, bne]
end
section
variable {c : Nat} {H : Heap}
noncomputable def numZ (w : List UInt8) : Int := (numV w).getD 0
theorem numRZ_ok (w : List UInt8) (hn : w.length ≤ 9223372036854775807) (hH : 0 < H.length) : gcall KC (geval KC) 74 [.pure (.str w), .pure (.int .i64 4)] c H = some (.pure (.tuple [.int .i64 (numZ w), .bool (numB w)]), H) := by
 rw [numberR_ok w hn hH]
 unfold numZ numB numRG
 cases numV w <;> rfl
noncomputable def headTR (ws : List (List UInt8)) : Tab := match ws with
 | [w0, w1, w2, w3] => if w0 = tableW ∧ 0 < posW w3 stL 0 then ⟨numZ w1, numZ w2, posW w3 stL 0, []⟩ else ⟨0, 0, 0, []⟩
 | _ => ⟨0, 0, 0, []⟩
theorem headTR_of {ws : List (List UInt8)} {t : Tab} (h : headV ws = some t) : headTR ws = t := by
 unfold headV at h
 split at h
 ·rename_i w0 w1 w2 w3
  split at h
  ·rename_i h0
   split at h
   ·rename_i a b ha hb
    split at h
    ·rename_i hp
     simp only [Option.some.injEq] at h
     subst h
     show (if w0 = tableW ∧ 0 < posW w3 stL 0 then _ else _) = _
     rw [if_pos ⟨h0, hp⟩]
     unfold numZ
     rw [ha, hb]
     rfl
    ·cases h
   ·cases h
  ·cases h
 ·cases h
theorem headR_ok (ws : List (List UInt8)) (hsz : ∀ w ∈ ws, w.length ≤ 281474976710656) (hH : 0 < H.length) : gcall KC (geval KC) 72 [.pure (.slice (ws.map srow))] c H = some (.tuple [tabG (headTR ws), .pure (.bool (headV ws).isSome)], H) := by
 refine WPv_eq (call_enter KC needT Tryz.func72 rfl rfl good72 rfl rfl rfl (by simp) hH ?_)
 by_cases h4 : ws.length = 4
 ·match ws, h4 with
  | [w0, w1, w2, w3], _ =>
   by_cases h0 : w0 = tableW
   ·subst h0
    have N1 := fun c G (hG : 0 < List.length G) => numRZ_ok (c := c) (H := G) w1 (by have := hsz w1 (by simp); omega) hG
    have N2 := fun c G (hG : 0 < List.length G) => numRZ_ok (c := c) (H := G) w2 (by have := hsz w2 (by simp); omega) hG
    have hS := fun c G (hG : 0 < List.length G) => states_ok (c := c) (H := G) hG
    have eV : headV [tableW, w1, w2, w3] = (match numV w1, numV w2 with | some a, some b => if 0 < posW w3 stL 0 then some ⟨a, b, posW w3 stL 0, []⟩ else none | _, _ => none) := by
     unfold headV
     exact if_pos rfl
    have eT : headTR [tableW, w1, w2, w3] = if 0 < posW w3 stL 0 then ⟨numZ w1, numZ w2, posW w3 stL 0, []⟩ else ⟨0, 0, 0, []⟩ := by
     unfold headTR
     show (if tableW = tableW ∧ 0 < posW w3 stL 0 then _ else _) = _
     by_cases hp : 0 < posW w3 stL 0
     ·rw [if_pos ⟨rfl, hp⟩, if_pos hp]
     ·rw [if_neg (fun h => hp h.2), if_neg hp]
    have hb : (match numV w1, numV w2 with | some a, some b => if 0 < posW w3 stL 0 then some (⟨a, b, posW w3 stL 0, []⟩ : Tab) else none | _, _ => none).isSome = (numB w1 && numB w2 && decide (0 < posW w3 stL 0)) := by
     unfold numB
     cases numV w1 <;> cases numV w2 <;> simp
     split <;> simp_all
    rw [eV, eT, hb]
    clear hb eV eT
    have i1 : IntKind.i64.wrap 2 = 2 := rfl
    have i2 : IntKind.i64.wrap 3 = 3 := rfl
    have i3 : IntKind.i64.wrap 4 = 4 := rfl
    have i4 : IntKind.i64.wrap 5 = 5 := rfl
    generalize numB w1 = b1 at *
    generalize numB w2 = b2 at *
    by_cases c1 : [111, 112, 101, 110] = w3
    ·subst c1
     have hp : posW ([111, 112, 101, 110] : List UInt8) stL 0 = 1 := by decide
     rw [hp]
     cases b1 <;> cases b2 <;> (
      simp [srow, tableW, N1, N2, hS]
      apply WPL_step
      conv => arg 4; whnf
      simp [i1, i2, i3, i4, tabG, gleave_keep, KC_keep, refs, refs2, refs1, deepRefs, boxRefs, matRefs, dedup, moveOut, cleanBlk, clM, ren, ren2, ren1])
    ·have d1 : (([111, 112, 101, 110] : List UInt8) == w3) = false := by simpa using c1
     by_cases c2 : [112, 97, 117, 115, 101, 100] = w3
     ·subst c2
      have hp : posW ([112, 97, 117, 115, 101, 100] : List UInt8) stL 0 = 2 := by decide
      rw [hp]
      cases b1 <;> cases b2 <;> (
       simp [srow, tableW, N1, N2, hS]
       apply WPL_step
       conv => arg 4; whnf
       simp [i1, i2, i3, i4, tabG, gleave_keep, KC_keep, refs, refs2, refs1, deepRefs, boxRefs, matRefs, dedup, moveOut, cleanBlk, clM, ren, ren2, ren1]
       apply WPL_step
       conv => arg 4; whnf
       simp [i1, i2, i3, i4, tabG, gleave_keep, KC_keep, refs, refs2, refs1, deepRefs, boxRefs, matRefs, dedup, moveOut, cleanBlk, clM, ren, ren2, ren1])
     ·have d2 : (([112, 97, 117, 115, 101, 100] : List UInt8) == w3) = false := by simpa using c2
      by_cases c3 : [99, 108, 111, 115, 101, 100] = w3
      ·subst c3
       have hp : posW ([99, 108, 111, 115, 101, 100] : List UInt8) stL 0 = 3 := by decide
       rw [hp]
       cases b1 <;> cases b2 <;> (
        simp [srow, tableW, N1, N2, hS]
        apply WPL_step
        conv => arg 4; whnf
        simp [i1, i2, i3, i4, tabG, gleave_keep, KC_keep, refs, refs2, refs1, deepRefs, boxRefs, matRefs, dedup, moveOut, cleanBlk, clM, ren, ren2, ren1]
        apply WPL_step
        conv => arg 4; whnf
        simp [i1, i2, i3, i4, tabG, gleave_keep, KC_keep, refs, refs2, refs1, deepRefs, boxRefs, matRefs, dedup, moveOut, cleanBlk, clM, ren, ren2, ren1]
        apply WPL_step
        conv => arg 4; whnf
        simp [i1, i2, i3, i4, tabG, gleave_keep, KC_keep, refs, refs2, refs1, deepRefs, boxRefs, matRefs, dedup, moveOut, cleanBlk, clM, ren, ren2, ren1])
      ·have d3 : (([99, 108, 111, 115, 101, 100] : List UInt8) == w3) = false := by simpa using c3
       by_cases c4 : [115, 104, 111, 119, 110] = w3
       ·subst c4
        have hp : posW ([115, 104, 111, 119, 110] : List UInt8) stL 0 = 4 := by decide
        rw [hp]
        cases b1 <;> cases b2 <;> (
         simp [srow, tableW, N1, N2, hS]
         apply WPL_step
         conv => arg 4; whnf
         simp [i1, i2, i3, i4, tabG, gleave_keep, KC_keep, refs, refs2, refs1, deepRefs, boxRefs, matRefs, dedup, moveOut, cleanBlk, clM, ren, ren2, ren1]
         apply WPL_step
         conv => arg 4; whnf
         simp [i1, i2, i3, i4, tabG, gleave_keep, KC_keep, refs, refs2, refs1, deepRefs, boxRefs, matRefs, dedup, moveOut, cleanBlk, clM, ren, ren2, ren1]
         apply WPL_step
         conv => arg 4; whnf
         simp [i1, i2, i3, i4, tabG, gleave_keep, KC_keep, refs, refs2, refs1, deepRefs, boxRefs, matRefs, dedup, moveOut, cleanBlk, clM, ren, ren2, ren1]
         apply WPL_step
         conv => arg 4; whnf
         simp [i1, i2, i3, i4, tabG, gleave_keep, KC_keep, refs, refs2, refs1, deepRefs, boxRefs, matRefs, dedup, moveOut, cleanBlk, clM, ren, ren2, ren1])
       ·have d4 : (([115, 104, 111, 119, 110] : List UInt8) == w3) = false := by simpa using c4
        have hp : ¬ 0 < posW w3 stL 0 := by
         have e1 : ¬ w3 = [111, 112, 101, 110] := fun e => c1 e.symm
         have e2 : ¬ w3 = [112, 97, 117, 115, 101, 100] := fun e => c2 e.symm
         have e3 : ¬ w3 = [99, 108, 111, 115, 101, 100] := fun e => c3 e.symm
         have e4 : ¬ w3 = [115, 104, 111, 119, 110] := fun e => c4 e.symm
         simp only [stL, posW, e1, e2, e3, e4, if_false]
         split <;> omega
        rw [if_neg hp]
        have hp2 : decide (0 < posW w3 stL 0) = false := decide_eq_false hp
        rw [hp2]
        cases b1 <;> cases b2 <;> (
         simp [srow, tableW, N1, N2, hS]
         apply WPL_step
         conv => arg 4; whnf
         simp [i1, i2, i3, i4, d1, d2, d3, d4, tabG, gleave_keep, KC_keep, refs, refs2, refs1, deepRefs, boxRefs, matRefs, dedup, moveOut, cleanBlk, clM, ren, ren2, ren1]
         apply WPL_step
         conv => arg 4; whnf
         simp [i1, i2, i3, i4, d1, d2, d3, d4, tabG, gleave_keep, KC_keep, refs, refs2, refs1, deepRefs, boxRefs, matRefs, dedup, moveOut, cleanBlk, clM, ren, ren2, ren1]
         apply WPL_step
         conv => arg 4; whnf
         simp [i1, i2, i3, i4, d1, d2, d3, d4, tabG, gleave_keep, KC_keep, refs, refs2, refs1, deepRefs, boxRefs, matRefs, dedup, moveOut, cleanBlk, clM, ren, ren2, ren1]
         apply WPL_step
         conv => arg 4; whnf
         simp [i1, i2, i3, i4, d1, d2, d3, d4, tabG, gleave_keep, KC_keep, refs, refs2, refs1, deepRefs, boxRefs, matRefs, dedup, moveOut, cleanBlk, clM, ren, ren2, ren1]
         apply WPL_step
         conv => arg 4; whnf
         simp [i1, i2, i3, i4, d1, d2, d3, d4, tabG, gleave_keep, KC_keep, refs, refs2, refs1, deepRefs, boxRefs, matRefs, dedup, moveOut, cleanBlk, clM, ren, ren2, ren1])
   ·have eV : headV [w0, w1, w2, w3] = none := by
     unfold headV
     show (if w0 = tableW then _ else _) = _
     rw [if_neg h0]
    have eT : tabG (headTR [w0, w1, w2, w3]) = .agg [.pure (.int .i64 0), .pure (.int .i64 0), .pure (.int .i64 0), .nils] := by
     unfold headTR
     show tabG (if w0 = tableW ∧ 0 < posW w3 stL 0 then _ else _) = _
     rw [if_neg (fun h => h0 h.1)]
     rfl
    rw [eV, eT]
    simp only [tableW] at h0
    simp [srow, h0, gleave_keep, KC_keep, refs, refs2, refs1, deepRefs, boxRefs, matRefs, dedup, moveOut, cleanBlk, clM, ren, ren2, ren1]
 ·have h4' : ¬ (ws.length : Int) = 4 := by omega
  have eV : headV ws = none := by
   unfold headV
   split
   ·simp at h4
   ·rfl
  have eT : tabG (headTR ws) = .agg [.pure (.int .i64 0), .pure (.int .i64 0), .pure (.int .i64 0), .nils] := by
   unfold headTR
   split
   ·simp at h4
   ·rfl
  rw [eV, eT]
  simp [h4, h4', gleave_keep, KC_keep, refs, refs2, refs1, deepRefs, boxRefs, matRefs, dedup, moveOut, cleanBlk, clM, ren, ren2, ren1]
end
section
variable {c : Nat} {H : Heap}
theorem numsR_loop (ws : List (List UInt8)) (hn : ws.length ≤ 1000000) (hsz : ∀ w ∈ ws, w.length ≤ 281474976710656) (Q : GX → GSt → Prop) (hH : 0 < H.length) : ∀ (k i : Nat) (acc : List Int), i + k = ws.length → acc.length + k ≤ 1000000 →
  (∀ ns, cellsV (ws.drop i) = some ns → Q (.exit 0) ⟨[(2, gdead), (3, gdead), (4, apS (H.length, 33) 1 ((acc ++ ns).map irow))], apF 33 1 ((acc ++ ns).map irow) [] :: H, 35⟩) →
  (∀ rows, cellsV (ws.drop i) = none → Q .ret ⟨[(2, .nils), (3, .pure (.bool false)), (4, apS (H.length, 33) 1 rows)], apF 33 1 rows [] :: H, 35⟩) →
  WPL KC needT 73 (lp Tryz.f73 0) [0, 4, 5] [2, 3, 4] Q [(0, .pure (.slice (ws.map srow))), (4, apS (H.length, 33) 1 (acc.map irow)), (5, .pure (.int .i64 i))] (apF 33 1 (acc.map irow) [] :: H) 35 := by
 intro k
 induction k with
 | zero =>
  intro i acc hi hb h1 h2
  have hia : ¬ i < ws.length := by omega
  have e1 : ws.drop i = [] := List.drop_of_length_le (by omega)
  rw [e1] at h1
  have h1' := h1 [] rfl
  rw [List.append_nil] at h1'
  apply WPL_step
  conv => arg 4; whnf
  simp [hia]
  exact h1'
 | succ k ih =>
  intro i acc hi hb h1 h2
  have hia : i < ws.length := by omega
  have hw := w64 (x := (i : Int) + 1) (by omega) (by omega)
  have hd : ws.drop i = ws[i] :: ws.drop (i + 1) := List.drop_eq_getElem_cons hia
  have hsi := hsz ws[i] (List.getElem_mem hia)
  have N1 := fun c G (hG : 0 < List.length G) => numRZ_ok (c := c) (H := G) ws[i] (by omega) hG
  have B1 : numB ws[i] = (numV ws[i]).isSome := rfl
  have hb' : (acc.length + 1) * 8 ≤ 1099511627776 := by omega
  rw [hd] at h1 h2
  have step : ∀ (x : Int), cellV ws[i] = some x → WPL KC needT 73 (lp Tryz.f73 0) [0, 4, 5] [2, 3, 4] Q [(0, .pure (.slice (ws.map srow))), (4, apS (H.length, 33) 1 ((acc ++ [x]).map irow)), (5, .pure (.int .i64 (i + 1 : Nat)))] (apF 33 1 ((acc ++ [x]).map irow) [] :: H) 35 := fun x hx =>
   ih (i + 1) (acc ++ [x]) (by omega) (by simp; omega) (fun ns h => by
    rw [List.append_assoc]
    exact h1 (x :: ns) (by simp only [cellsV, hx, h])) (fun rows h => h2 rows (by simp only [cellsV, hx, h]))
  apply WPL_step
  conv => arg 4; whnf
  by_cases hm : ws[i] = [45]
  ·have hc : cellV ws[i] = some (-1) := by unfold cellV; rw [if_pos hm]
   have st := step (-1) hc
   rw [hm] at N1
   simp [irow] at st
   simp [hia, srow, hm, hw, N1, hb', irow]
   exact st
  ·have hm' : (ws[i] == [45]) = false := by simpa using hm
   cases hv : numV ws[i] with
   | none =>
    have hc : cellV ws[i] = none := by unfold cellV; rw [if_neg hm, hv]
    rw [hv] at B1
    have h2' := h2 (acc.map irow) (by simp only [cellsV, hc])
    simp [hia, srow, hm, hm', hw, N1, B1]
    exact h2'
   | some n =>
    have hc : cellV ws[i] = some n := by unfold cellV; rw [if_neg hm, hv]
    rw [hv] at B1
    have hz : numZ ws[i] = n := by unfold numZ; rw [hv]; rfl
    rw [hz] at N1
    have st := step n hc
    simp [irow] at st
    simp [hia, srow, hm, hm', hw, N1, B1, hb', irow]
    exact st
theorem numsR_ok (ws : List (List UInt8)) (hn : ws.length ≤ 1000000) (hsz : ∀ w ∈ ws, w.length ≤ 281474976710656) (hH : 0 < H.length) :
  gcall KC (geval KC) 73 [.pure (.slice (ws.map srow))] c H = some (.pure (cellsG (cellsV ws)), H) := by
 refine WPv_eq (call_enter KC needT Tryz.func73 rfl rfl good73 rfl rfl rfl (by simp) hH ?_)
 have h0 := fun Q h1 h2 => numsR_loop (H := H) ws hn hsz Q hH ws.length 0 [] (by omega) (by simpa using hn) h1 h2
 simp [apS_nil, apF_nil] at h0
 simp
 refine h0 _ (fun ns h => ?_) (fun rows h => ?_)
 ·rw [h]
  simp [cellsG, gleave_free]
  cases ns with
  | nil => simp [apS_nil, apF_nil]
  | cons n r =>
   have e := clean1_apS (H := H) (key := 33) (es := 1) (rows := (n :: r).map irow) (l := H.length) (l0 := H.length - 1) (F := apF 33 1 ((n :: r).map irow) []) rfl (by omega) (fun h => apF_self h)
   have e2 : ∀ G l0, clean2 G l0 (apS (H.length, 33) 1 ((n :: r).map irow)) = clean1 G l0 (apS (H.length, 33) 1 ((n :: r).map irow)) := fun G l0 => by unfold apS; split <;> rfl
   rw [e2, e]
   simp
 ·rw [h]
  simp [cellsG, gleave_free]
def gL (L : Nat) (t : Tab) : Fr := apF 58 1 (t.answers.map arow) [(2, zeroB), (6, tabB t (apS (L, 58) 1 (t.answers.map arow)))]
def gM (L : Nat) (t : Tab) (l : List Int) : Fr := apF 58 1 ((t.answers ++ [l]).map arow) [(2, zeroB), (6, tabB t (apS (L, 58) 1 (t.answers.map arow)))]
section
variable {L : Nat} {t : Tab} {l : List Int}
theorem gL_6 : (gL L t).get 6 = some (tabB t (apS (L, 58) 1 (t.answers.map arow))) := by
 unfold gL apF
 split
 ·simp
 ·rw [Fr.get_ins_other _ (by omega)]; simp
theorem gL_2 : (gL L t).get 2 = some zeroB := by
 unfold gL apF
 split
 ·simp
 ·rw [Fr.get_ins_other _ (by omega)]; simp
theorem gM_6 : (gM L t l).get 6 = some (tabB t (apS (L, 58) 1 (t.answers.map arow))) := by
 unfold gM apF
 split
 ·simp
 ·rw [Fr.get_ins_other _ (by omega)]; simp
theorem gM_2 : (gM L t l).get 2 = some zeroB := by
 unfold gM apF
 split
 ·simp
 ·rw [Fr.get_ins_other _ (by omega)]; simp
theorem gM_ins : (gM L t l).ins 6 (tabB t (apS (L, 58) 1 ((t.answers ++ [l]).map arow))) = gL L { t with answers := t.answers ++ [l] } := by
 unfold gM gL apF
 simp [Fr.ins, tabB]
theorem gL_head {t' : Tab} (h1 : t.answers = []) (h2 : t'.answers = []) : (gL L t).ins 6 (tabB t' .nils) = gL L t' := by
 unfold gL apF
 simp [h1, h2, Fr.ins, apS_nil]
theorem gL_app (h : H.length = L) (f0 : Fr) (hb : t.answers.length ≤ 1000000) : apK L 58 (apS (L, 58) 1 (t.answers.map arow)) 1 24 [[.slice (l.map irow)]] (f0 :: gL L t :: H) = some (apS (L, 58) 1 ((t.answers ++ [l]).map arow), f0 :: gM L t l :: H) := by
 subst h
 have := apK_1 (key := 58) (es := 1) (rows := t.answers.map arow) (fr := [(2, zeroB), (6, tabB t (apS (H.length, 58) 1 (t.answers.map arow)))]) (H := H) (l := H.length) (bytes := 24) (r := [.slice (l.map irow)]) (f0 := f0) rfl (by simp) (by simp; omega) (by simp)
 unfold gL gM
 rw [this]
 simp [arow]
end
def gR (L : Nat) (t : Tab) : Fr := if t.answers = [] then [(2, zeroB), (6, tabB t (apS (L, 58) 1 (t.answers.map arow)))] else Fr.ins 58 (.arr 1 (t.answers.map arow) 0 true) [(2, zeroB), (6, tabB t (apS (L, 58) 1 (t.answers.map arow)))]
theorem gR_6 {L : Nat} {t : Tab} : (gR L t).get 6 = some (tabB t (apS (L, 58) 1 (t.answers.map arow))) := by
 unfold gR
 split
 ·simp
 ·rw [Fr.get_ins_other _ (by omega)]; simp
theorem gR_2 {L : Nat} {t : Tab} : (gR L t).get 2 = some zeroB := by
 unfold gR
 split
 ·simp
 ·rw [Fr.get_ins_other _ (by omega)]; simp
theorem gR_arr {L : Nat} {t : Tab} (h : t.answers ≠ []) : (gR L t).get 58 = some (.arr 1 (t.answers.map arow) 0 true) := by
 unfold gR
 rw [if_neg h, Fr.get_ins]
theorem frz_tabR {t : Tab} : frzVals (gL H.length t :: H) [.agg [.pure (.int .i64 t.packets), .pure (.int .i64 t.passed), .pure (.int .i64 t.state), apS (H.length, 58) 1 (t.answers.map arow)]] =
  ([mkAgg [.pure (.int .i64 t.packets), .pure (.int .i64 t.passed), .pure (.int .i64 t.state), if t.answers = [] then .nils else .pure (.slice (t.answers.map arow))]], gR H.length t :: H) := by
 have t1 : (t.answers.map arow).take t.answers.length = t.answers.map arow := List.take_of_length_le (by simp)
 unfold gL gR apF apS tabB
 by_cases h : t.answers = []
 ·simp [h, frzVals, frzVal, frzCells, frzCell, pureCell]
 ·simp [h, frzVals, frzVal, frzCells, frzCell, pureCell, t1, Fr.ins]
theorem chkRR_frz {t : Tab} (hs : Sm t) : gcall KC (geval KC) 66 [.agg [.pure (.int .i64 t.packets), .pure (.int .i64 t.passed), .pure (.int .i64 t.state), apS (H.length, 58) 1 (t.answers.map arow)]] c (gL H.length t :: H) = some (.pure (.int .i64 (chkT t)), gR H.length t :: H) := by
 rw [gcall_frzA rfl rfl rfl, frz_tabR]
 have h0 := chkTR_ok (c := c) (H := gR H.length t :: H) t hs (by simp)
 rw [gcall_frzA rfl rfl rfl] at h0
 refine Eq.trans (gcall0_canonA ?_) h0
 simp only [List.map_cons, List.map_nil, canon_tab]
 rfl
theorem loadR_loop (sp : List (List UInt8)) (n : Nat) (hsp : sp.length = n + 1) (hn : n ≤ 100000) (hsz : ∀ w ∈ sp, w.length ≤ 90000) (Q : GX → GSt → Prop) : ∀ (k i : Nat) (x : Tab × Int × Int), i + k = n → x.1.answers.length ≤ i →
  (∀ y, rowsL i x ((sp.take n).drop i) = some y → Q (.exit 0) ⟨[(2, .bptr (H.length, 2) 0), (3, gdead), (4, gdead), (5, .pure (.slice (sp.map srow))), (6, .bptr (H.length, 6) 0), (7, .pure (.int .i64 y.2.1)), (8, .pure (.int .i64 y.2.2))], gL H.length y.1 :: H, 112⟩) →
  (∀ (a b : Int) (F : Fr), rowsL i x ((sp.take n).drop i) = none → F.get 2 = some zeroB → Q .ret ⟨[(2, .bptr (H.length, 2) 0), (3, .pure (.int .i64 (failL i x ((sp.take n).drop i)))), (4, .pure (.int .i64 3)), (5, .pure (.slice (sp.map srow))), (6, .bptr (H.length, 6) 0), (7, .pure (.int .i64 a)), (8, .pure (.int .i64 b))], F :: H, 112⟩) →
  WPL KC needT 23 (lp Tryz.f23 0) [2, 5, 6, 7, 8, 9] [2, 3, 4, 5, 6, 7, 8] Q [(2, .bptr (H.length, 2) 0), (5, .pure (.slice (sp.map srow))), (6, .bptr (H.length, 6) 0), (7, .pure (.int .i64 x.2.1)), (8, .pure (.int .i64 x.2.2)), (9, .pure (.int .i64 i))] (gL H.length x.1 :: H) 112 := by
 have hwn := w64 (x := (n : Int)) (by omega) (by omega)
 have hlt : (sp.take n).length = n := by rw [List.length_take]; omega
 intro k
 induction k with
 | zero =>
  intro i x hi hc h1 h2
  have hia : ¬ i < n := by omega
  have e1 : (sp.take n).drop i = [] := List.drop_of_length_le (by omega)
  rw [e1] at h1
  have h1' := h1 x rfl
  apply WPL_step
  conv => arg 4; whnf
  simp [hia, hsp, hwn]
  exact h1'
 | succ k ih =>
  intro i x hi hc h1 h2
  have hia : i < n := by omega
  have hia2 : i < sp.length := by omega
  have hw := w64 (x := (i : Int) + 1) (by omega) (by omega)
  have hd : (sp.take n).drop i = sp[i] :: (sp.take n).drop (i + 1) := by
   rw [List.drop_eq_getElem_cons (by omega)]
   congr 1
   simp
  have hsi := hsz sp[i] (List.getElem_mem hia2)
  have hget : sp[i]? = some sp[i] := List.getElem?_eq_getElem hia2
  rw [hd] at h1 h2
  have hS : ∀ c G, 0 < List.length G → gcall KC (geval KC) 71 [.pure (.str sp[i]), .pure (.int .u8 32)] c G = some (.pure (.slice ((splitL 32 sp[i]).map srow)), G) := fun c G hG => splitR_ok sp[i] 32 (by omega) hG
  obtain ⟨p, r, hp⟩ : ∃ p r, splitL 32 sp[i] = p :: r := by
   cases h : splitL 32 sp[i] with
   | nil => exact absurd h (splitL_ne _ _)
   | cons p r => exact ⟨p, r, rfl⟩
  have hsl := splitL_len 32 sp[i]
  have hsm := splitL_mem 32 sp[i]
  rw [hp] at hsl hsm hS
  have hF6 := gL_6 (L := H.length) (t := x.1)
  have hF2 := gL_2 (L := H.length) (t := x.1)
  apply WPL_step
  conv => arg 4; whnf
  obtain ⟨t, e0, n0⟩ := x
  simp only at hc h1 h2 hF2 hF6 ⊢
  have hret : ∀ (F : Fr), (F.ins 2 zeroB).get 2 = some zeroB := fun F => Fr.get_ins ..
  unfold tabB at hF6
  unfold zeroB at hret h2 hF2
  have i1 : IntKind.i64.wrap 1 = 1 := rfl
  have o26 : ∀ (F : Fr) (b : Blk), (F.ins 6 b).get 2 = F.get 2 := fun F b => Fr.get_ins_other b (by decide) F
  have o62 : ∀ (F : Fr) (b : Blk), (F.ins 2 b).get 6 = F.get 6 := fun F b => Fr.get_ins_other b (by decide) F
  by_cases he : 0 < e0
  ·have hrv : rowL i (t, e0, n0) sp[i] = none := by unfold rowL; rw [if_pos he]
   have h2' := fun a b F => h2 a b F (by simp only [rowsL, hrv])
   simp only [failL, hrv] at h2'
   simp [hia, hia2, hsp, hwn, hget, srow, hS, he, hw, hF2, hF6, o26]
   exact h2' _ _ _ (hret _)
  ·by_cases hi0 : i = 0
   ·subst hi0
    have hh := fun c G (hG : 0 < List.length G) => headR_ok (c := c) (H := G) (p :: r) (fun w hw => by have := hsm w hw; omega) hG
    have ht0 : t.answers = [] := List.length_eq_zero_iff.1 (by omega)
    unfold tabG at hh
    have hrv : rowL 0 (t, e0, n0) sp[0] = (match headV (p :: r) with | some t => some (t, e0, n0) | none => none) := by unfold rowL; refine (if_neg he).trans ?_; rw [hp]; exact if_pos rfl
    cases hV : headV (p :: r) with
    | none =>
     rw [hV] at hh hrv
     have h2' := fun a b F => h2 a b F (by simp only [rowsL, hrv])
     simp only [failL, hrv] at h2'
     simp [srow] at hh
     simp [hia, hia2, hsp, hwn, hget, srow, hS, he, hw, hF2, hF6, hh, Fr.get_ins, Fr.ins_ins, i1, o26]
     exact h2' _ _ _ (hret _)
    | some t1 =>
     rw [hV] at hh hrv
     rw [headTR_of hV] at hh
     have ih' := ih 1 (t1, e0, n0) (by omega) (by simp only; rw [headV_nil hV]; simp) (fun y hy => h1 y (by simp only [rowsL, hrv]; exact hy)) (fun a b F hy hF => by have q := h2 a b F (by simp only [rowsL, hrv]; exact hy) hF; simp only [failL, hrv] at q; exact q)
     have hins := gL_head (L := H.length) (t := t) (t' := t1) ht0 (headV_nil hV)
     unfold tabB at hins
     simp [srow] at hh
     simp [hia, hia2, hsp, hwn, hget, srow, hS, he, hw, hF2, hF6, hh, hins, i1]
     simpa using ih'
   ·by_cases hg : p = guestW
    ·subst hg
     have hG := fun c G (hG : 0 < List.length G) => numsR_ok (c := c) (H := G) r (by simp at hsl; omega) (fun w hw => by have := hsm w (List.mem_cons_of_mem _ hw); omega) hG
     have htk : (r.map srow).take r.length = r.map srow := List.take_of_length_le (by simp)
     have hrv : rowL i (t, e0, n0) sp[i] = (match cellsV r with | some l => some ({ t with answers := t.answers ++ [l] }, e0, n0) | none => none) := by
      unfold rowL; refine (if_neg he).trans ((if_neg hi0).trans ?_); rw [hp]; exact if_pos (show (guestW :: r).head? = some guestW from rfl)
     have hap := fun l f0 => gL_app (L := H.length) (t := t) (l := l) (H := H) rfl f0 (by omega)
     have hm6 := fun l => gM_6 (L := H.length) (t := t) (l := l)
     have hm2 := fun l => gM_2 (L := H.length) (t := t) (l := l)
     have hin := fun l => gM_ins (L := H.length) (t := t) (l := l)
     unfold tabB at hm6 hin
     unfold zeroB at hm2
     cases hA : cellsV r with
     | none =>
      rw [hA] at hrv hG
      have h2' := fun a b F => h2 a b F (by simp only [rowsL, hrv])
      simp only [failL, hrv] at h2'
      simp only [cellsG] at hG
      have hap0 := hap []
      simp only [List.map_nil] at hap0
      simp [arow] at hap0
      simp [hia, hia2, hsp, hwn, hget, srow, hS, he, hi0, hw, hF2, hF6, guestW, htk, hG, hap0, hm2, hm6, Fr.get_ins, Fr.ins_ins, o26]
      exact h2' _ _ _ (hret _)
     | some l =>
      rw [hA] at hrv hG
      simp only at hrv
      simp only [cellsG] at hG
      have ih' := ih (i + 1) ({ t with answers := t.answers ++ [l] }, e0, n0) (by omega) (by simp; omega) (fun y hy => h1 y (by simp only [rowsL, hrv]; exact hy)) (fun a b F hy hF => by have q := h2 a b F (by simp only [rowsL, hrv]; exact hy) hF; simp only [failL, hrv] at q; exact q)
      have hapl := hap l
      have hinl := hin l
      simp [arow] at hapl hinl
      simp [hia, hia2, hsp, hwn, hget, srow, hS, he, hi0, hw, hF2, hF6, guestW, htk, hG, hapl, hm2, hm6, Fr.get_ins, Fr.ins_ins, hinl]
      simpa using ih'
    ·have hg' : (p == [103, 117, 101, 115, 116]) = false := by simpa [guestW] using hg
     have hg2 : ¬ (p :: r).head? = some guestW := fun h => hg (by simpa using h)
     have hrv : rowL i (t, e0, n0) sp[i] = (match p :: r with | [w0, w1] => if w0 = endW then (match numV w1 with | some n => some (t, (i : Int) + 1, n) | none => none) else none | _ => none) := by
      unfold rowL; refine (if_neg he).trans ((if_neg hi0).trans ?_); rw [hp]; exact if_neg hg2
     by_cases hend : p = endW
     ·subst hend
      match r with
      | [] =>
       have h2' := fun a b F => h2 a b F (by simp only [rowsL, hrv])
       simp only [failL, hrv] at h2'
       simp [hia, hia2, hsp, hwn, hget, srow, hS, he, hi0, hw, hF2, hF6, hg', endW, o26]
       exact h2' _ _ _ (hret _)
      | x :: y :: r' =>
       have h2' := fun a b F => h2 a b F (by simp only [rowsL, hrv])
       simp only [failL, hrv] at h2'
       have hr1 : ¬ ((r'.length : Int) + 1 + 1 + 1 = 2) := by omega
       simp [hia, hia2, hsp, hwn, hget, srow, hS, he, hi0, hw, hF2, hF6, hg', endW, hr1, o26]
       exact h2' _ _ _ (hret _)
      | [w1] =>
       have N1 := fun c G (hG : 0 < List.length G) => numRZ_ok (c := c) (H := G) w1 (by have := hsm w1 (by simp); omega) hG
       have B1 : numB w1 = (numV w1).isSome := rfl
       simp only [if_true] at hrv
       cases hA : numV w1 with
       | none =>
        rw [hA] at hrv B1
        have h2' := fun a b F => h2 a b F (by simp only [rowsL, hrv])
        simp only [failL, hrv] at h2'
        simp [hia, hia2, hsp, hwn, hget, srow, hS, he, hi0, hw, hF2, hF6, hg', endW, N1, B1, o26]
        exact h2' _ _ _ (hret _)
       | some m =>
        rw [hA] at hrv B1
        have hz : numZ w1 = m := by unfold numZ; rw [hA]; rfl
        rw [hz] at N1
        have ih' := ih (i + 1) (t, (i : Int) + 1, m) (by omega) (by simp only; omega) (fun y hy => h1 y (by simp only [rowsL, hrv]; exact hy)) (fun a b F hy hF => by have q := h2 a b F (by simp only [rowsL, hrv]; exact hy) hF; simp only [failL, hrv] at q; exact q)
        simp [hia, hia2, hsp, hwn, hget, srow, hS, he, hi0, hw, hF2, hF6, hg', endW, N1, B1]
        simpa using ih'
     ·have hend' : (p == [101, 110, 100]) = false := by simpa [endW] using hend
      have hrv2 : rowL i (t, e0, n0) sp[i] = none := by
       rw [hrv]
       match r with
       | [] => rfl
       | [w1] => simp only; rw [if_neg hend]
       | _ :: _ :: _ => rfl
      have h2' := fun a b F => h2 a b F (by simp only [rowsL, hrv2])
      simp only [failL, hrv2] at h2'
      simp [hia, hia2, hsp, hwn, hget, srow, hS, he, hi0, hw, hF2, hF6, hg', hend', o26]
      exact h2' _ _ _ (hret _)
end
section
variable {c : Nat} {H : Heap}
theorem LoadR_ok (s : List UInt8) (hH : 0 < H.length) (hs : s.length ≤ 9223372036854775807) : gcall KC (geval KC) 23 [.pure (.str s)] c H = some (.pure (loadT (loadE s)), H) := by
 refine WPv_eq (call_enter KC needT Tryz.func23 rfl rfl good23 rfl rfl rfl (by simp) hH ?_)
 by_cases h1 : 2000 < s.length
 ·have hv : loadE s = (zT, 0, 5) := by unfold loadE; rw [if_pos h1]
  have h1' : (2000 : Int) < s.length := by omega
  rw [hv]
  simp [h1, h1', loadT, Tab.row, zT, gleave_free]
 ·have h1' : ¬ (2000 : Int) < s.length := by omega
  have hS : ∀ c G, 0 < List.length G → gcall KC (geval KC) 71 [.pure (.str s), .pure (.int .u8 10)] c G = some (.pure (.slice ((splitL 10 s).map srow)), G) := fun c G hG => splitR_ok s 10 (by omega) hG
  have hv : loadE s = (match rowsL 0 (zT, 0, 0) ((splitL 10 s).take ((splitL 10 s).length - 1)) with
   | none => (zT, failL 0 (zT, 0, 0) ((splitL 10 s).take ((splitL 10 s).length - 1)), 3)
   | some y => if y.2.1 = 0 ∨ (splitL 10 s).getD ((splitL 10 s).length - 1) [] ≠ [] then (zT, (splitL 10 s).length, 3) else if y.2.2 ≠ y.1.answers.length then (zT, y.2.1, 12)
    else if chkT y.1 ≠ 0 then (zT, 0, chkT y.1) else (y.1, 0, 0)) := by
   unfold loadE; exact if_neg h1
  have hsl := splitL_len 10 s
  have hsm := splitL_mem 10 s
  have hne := splitL_ne 10 s
  rw [hv]
  clear hv
  generalize splitL 10 s = sp at *
  obtain ⟨n, hn⟩ : ∃ n, sp.length = n + 1 := ⟨sp.length - 1, by have := List.length_pos_iff.2 hne; omega⟩
  have hw := w64 (x := (n : Int)) (by omega) (by omega)
  have hw2 := w64 (x := (n : Int) + 1) (by omega) (by omega)
  rw [hn, Nat.add_sub_cancel]
  have hsr : ∀ x : List UInt8, (srow x).length = 1 := fun _ => rfl
  have hlt : (sp.take n).length = n := by rw [List.length_take]; omega
  have hsz : ∀ w ∈ sp.take n, w.length ≤ 2000 := fun w hw => by have := hsm w (List.mem_of_mem_take hw); omega
  have h0 := fun (Q : GX → GSt → Prop) => loadR_loop (H := H) sp n hn (by omega) (fun w hw => by have := hsm w hw; omega) Q n 0 (zT, 0, 0) (by omega) (by simp [zT])
  have hF0 : gL H.length zT = [(2, .box [.pure (.int .i64 0), .pure (.int .i64 0), .pure (.int .i64 0), .nils]), (6, .box [.pure (.int .i64 0), .pure (.int .i64 0), .pure (.int .i64 0), .nils])] := rfl
  simp only [hF0] at h0
  have hbnd : ∀ y, rowsL 0 (zT, 0, 0) (sp.take n) = some y → Sm y.1 := fun y hy => by
   have := rowsL_len hy hsz (by simp [zT])
   refine ⟨by have := this.2; simp [zT] at this; omega, fun a ha => by have := this.1 a ha; omega⟩
  simp [h1, h1', hS]
  refine h0 _ (fun y hy => ?_) (fun a b F hy hF => ?_)
  ·rw [List.drop_zero] at hy
   rw [hy]
   have hSm := hbnd y hy
   have hF2 := gL_2 (L := H.length) (t := y.1)
   have hF6 := gL_6 (L := H.length) (t := y.1)
   have hm : n < sp.length := by omega
   have hget : sp[n]? = some sp[n] := List.getElem?_eq_getElem hm
   unfold tabB at hF6
   unfold zeroB at hF2
   by_cases e1 : y.2.1 = 0
   ·simp [e1, hn, hF2, hF6, hw, hw2, loadT, Tab.row, zT, Fr.get_ins, gleave_free]
   ·by_cases e2 : sp[n] = []
    ·by_cases e3 : y.2.2 = y.1.answers.length
     ·have hC := fun c => chkRR_frz (c := c) (H := H) (t := y.1) hSm
      have hR2 := gR_2 (L := H.length) (t := y.1)
      have hR6 := gR_6 (L := H.length) (t := y.1)
      unfold tabB at hR6
      unfold zeroB at hR2
      by_cases e4 : chkT y.1 = 0
      ·have q1 := clean_tab (kb := 6) (ka := 58) (t := y.1) (H := H) (l0 := H.length - 1) (F := (gR H.length y.1).ins 2 (tabB y.1 (apS (H.length, 58) 1 (y.1.answers.map arow)))) (fun h => by rw [Fr.get_ins_other _ (by decide)]; exact gR_arr h) (by omega)
       unfold tabB at q1
       simp [e1, e2, e3, hn, hw, hF2, hF6, hget, srow, hC, e4, hR2, hR6, Fr.get_ins, q1, gleave_free]
       unfold loadT Tab.row
       by_cases h5 : y.1.answers = [] <;> simp [h5]
      ·have e4' : (chkT y.1 == 0) = false := by simpa using e4
       simp [e1, e2, e3, hn, hw, hF2, hF6, hget, srow, hC, e4, e4', hR2, hR6, loadT, Tab.row, zT, Fr.get_ins, gleave_free, bne]
     ·simp [e1, e2, e3, hn, hw, hF2, hF6, hget, srow, loadT, Tab.row, zT, Fr.get_ins, gleave_free]
    ·simp [e1, e2, hn, hw, hF2, hF6, hget, srow, hw2, loadT, Tab.row, zT, Fr.get_ins, gleave_free]
  ·rw [List.drop_zero] at hy
   rw [hy]
   unfold zeroB at hF
   simp [hF, loadT, Tab.row, zT, Fr.get_ins, gleave_free]
end
section
variable {c : Nat} {H : Heap}
noncomputable def fitF : Int → Int → Int := hid fun x n => if n < 2 then 0 else if x.tmod n < 0 then IntKind.i64.wrap (x.tmod n + n) else x.tmod n
theorem fitF_def (x n : Int) : fitF x n = if n < 2 then 0 else if x.tmod n < 0 then IntKind.i64.wrap (x.tmod n + n) else x.tmod n := by rw [fitF, hid_eq]
theorem fit_ok {x n : Int} (hH : 0 < H.length) : gcall KC (geval KC) 45 [.pure (.int .i64 x), .pure (.int .i64 n)] c H = some (.pure (.int .i64 (fitF x n)), H) := by
 refine WPv_eq (call_enter KC needT Tryz.func45 rfl rfl good45 rfl rfl rfl (by simp) hH ?_)
 rw [fitF_def]
 by_cases h1 : n < 2
 ·simp [h1, gleave_free]
 ·have h2 : n ≠ 0 := by omega
  by_cases h3 : x.tmod n < 0
  ·simp [h1, h2, h3, gleave_free]
  ·simp [h1, h2, h3, gleave_free]
theorem fitF_rng {x n : Int} (h1 : 1 ≤ n) (h2 : n ≤ 1000000) : 0 ≤ fitF x n ∧ fitF x n < n := by
 rw [fitF_def]
 split
 ·omega
 ·have h3 := Int.tmod_lt_of_pos x (show 0 < n by omega)
  have h4 : -n < x.tmod n := by
   have := Int.tmod_lt_of_pos (-x) (show 0 < n by omega)
   rw [Int.neg_tmod] at this
   omega
  split
  ·rw [w64 (by omega) (by omega)]
   omega
  ·omega
noncomputable def blotS (s : List UInt8) (at_ how : Int) (by_ : UInt8) : List UInt8 :=
 if s = [] then s
 else if fitF how 3 = 0 then s.take (fitF at_ s.length).toNat ++ by_ :: s.drop ((fitF at_ s.length).toNat + 1)
 else if fitF how 3 = 1 then s.take (fitF at_ s.length).toNat ++ s.drop ((fitF at_ s.length).toNat + 1)
 else s.take (fitF at_ s.length).toNat ++ by_ :: s.drop (fitF at_ s.length).toNat
theorem blotS_len (s : List UInt8) (at_ how : Int) (by_ : UInt8) : (blotS s at_ how by_).length ≤ 2 * s.length + 1 := by
 unfold blotS
 split
 ·omega
 ·split
  ·simp; omega
  ·split
   ·simp; omega
   ·simp; omega
theorem Blot_ok (s : List UInt8) (at_ how : Int) (by_ : UInt8) (hs : s.length ≤ 100000) (hH : 0 < H.length) :
  gcall KC (geval KC) 13 [.pure (.str s), .pure (.int .i64 at_), .pure (.int .i64 how), .pure (.int .u8 by_.toNat)] c H = some (.pure (.str (blotS s at_ how by_)), H) := by
 refine WPv_eq (call_enter KC needT Tryz.func13 rfl rfl good13 rfl rfl rfl (by simp) hH ?_)
 by_cases h0 : s = []
 ·subst h0
  simp [blotS, gleave_free]
 ·have hl : 0 < s.length := List.length_pos_iff.2 h0
  have hr := fitF_rng (x := at_) (n := s.length) (by omega) (by omega)
  obtain ⟨a, ha⟩ : ∃ a : Nat, fitF at_ s.length = a := ⟨(fitF at_ s.length).toNat, by omega⟩
  have hF1 := fun c G (hG : 0 < List.length G) => fit_ok (c := c) (H := G) (x := at_) (n := s.length) hG
  have hF2 := fun c G (hG : 0 < List.length G) => fit_ok (c := c) (H := G) (x := how) (n := 3) hG
  have hb : blotS s at_ how by_ = if fitF how 3 = 0 then s.take a ++ by_ :: s.drop (a + 1) else if fitF how 3 = 1 then s.take a ++ s.drop (a + 1) else s.take a ++ by_ :: s.drop a := by
   unfold blotS
   rw [if_neg h0, ha]
   simp
  rw [hb]
  clear hb
  rw [ha] at hF1 hr
  have hn0 : ((s.length : Int) == 0) = false := by rw [beq_eq_false_iff_ne]; omega
  have hw := w64 (x := (a : Int) + 1) (by omega) (by omega)
  have hle : a ≤ s.length := by omega
  have hle1 : a + 1 ≤ s.length := by omega
  have hbb : (0 : Int) ≤ by_.toNat ∧ (by_.toNat : Int) < 256 := ⟨by omega, byte_lt by_⟩
  generalize fitF how 3 = q at *
  have hcv : cvV Tryz.prog (some (.slice 5)) (some .string) (.pure (.slice [[.int .u8 by_.toNat]])) = some (.pure (.str [by_])) := by
   have h8 : Tryz.prog.underlying 5 = some (.int .u8) := by kernel_rfl
   have hby : bytesOf [[.int .u8 by_.toNat]] = some [by_] := bytesOf_brow [by_]
   simp [cvV, h8, hby]
  have hlt0 : ¬ (a : Int) + 1 < 0 := by omega
  have l1 : a ≤ 4611686018427387903 := by omega
  have l2 : a + (s.length - (a + 1)) ≤ 4611686018427387904 := by omega
  have l3 : a + 1 + (s.length - (a + 1)) ≤ 4611686018427387904 := by omega
  have l5 : s.length ≤ 4611686018427387904 := by omega
  have l4 : a + 1 + (s.length - a) ≤ 4611686018427387904 := by omega
  by_cases q0 : q = 0
  ·subst q0
   simp [h0, hn0, hF1, hF2, hw, hle, hle1, hcv, hlt0, l1, l2, l3, l4, l5, gleave_free]
  ·by_cases q1 : q = 1
   ·subst q1
    simp [h0, hn0, hF1, hF2, hw, hle, hle1, hcv, hlt0, l1, l2, l3, l4, l5, gleave_free]
   ·simp [h0, hn0, hF1, hF2, hw, hle, hle1, hcv, hlt0, l1, l2, l3, l4, l5, q0, q1, gleave_free]
def litS (x : GV) (H : Heap) : Option (GV × Heap) := match x with | .pure (.str l) => some (.lits [[.pure (.str l)]], H) | _ => none
@[simp] theorem litS_str {l : List UInt8} : litS (.pure (.str l)) H = some (.lits [[.pure (.str l)]], H) := .trans rfl rfl
theorem gop_lit1 {ty : TypeId} {pos : String} {af : Array Edge} {s : Slots} {x : Operand} {l : List UInt8} (hx : ev s x = .pure (.str l)) :
  gop KC 4 ⟨some 47, .buildSlice 33 1 #[(0, x)], ty, pos, af, none⟩ s H = some (.lits [[.pure (.str l)]], H) := by
 have h1 : telem KC.P 33 = some 9 := by kernel_rfl
 have h2 : tsize KC.P 9 = some 1 := by kernel_rfl
 have h3 : tzero KC.P 9 = some (.pure (.str [])) := by kernel_rfl
 have h4 : KC.lit 4 47 = true := by kernel_rfl
 have h5 : KC.own 4 47 = false := by kernel_rfl
 simp only [gop, h1, h2, h3, h4, h5]
 simp [evp, hx, gfill]
theorem apK_litS {L : Nat} {l a b : List UInt8} {f0 : Fr} {fr : Fr} (hL : H.length = L) (hf : fr.get 86 = none) :
  apK L 86 (.lits [[.pure (.str l)]]) 1 16 [[.str a], [.str b]] (f0 :: fr :: H) = some (.hdr (L, 86) 1 3 0 3, f0 :: fr.ins 86 (.arr 1 [[.str l], [.str a], [.str b]] 0 false) :: H) := by
 subst hL
 unfold apK
 simp [pureRowsO, allPure, hf]
end
section
variable {c : Nat} {H : Heap}
def muchV (A : List (List Int)) : Bool := A.any (fun a => decide (30 < a.length)) || decide (20 < A.length)
theorem muchV_loop (A : List (List Int)) (hn : A.length ≤ 9223372036854775807) (Q : GX → GSt → Prop) (hH : 0 < H.length) : ∀ k i : Nat, i + k = A.length →
  ((A.drop i).any (fun a => decide (30 < a.length)) = false → Q (.exit 0) ⟨[(0, .pure (.slice (A.map arow))), (2, gdead)], H, 19⟩) → ((A.drop i).any (fun a => decide (30 < a.length)) = true → Q .ret ⟨[(0, .pure (.slice (A.map arow))), (2, .pure (.bool true))], H, 19⟩) →
  WPL KC needT 17 (lp Tryz.f17 0) [0, 3] [0, 2] Q [(0, .pure (.slice (A.map arow))), (3, .pure (.int .i64 (i : Nat)))] H 19 := by
 intro k
 induction k with
 | zero =>
  intro i hi h1 h2
  have e : A.drop i = [] := List.drop_eq_nil_of_le (by omega)
  rw [e] at h1
  apply WPL_step
  conv => arg 4; whnf
  have : ¬ i < A.length := by omega
  simp [this, hH]
  exact h1 rfl
 | succ k ih =>
  intro i hi h1 h2
  have hia : i < A.length := by omega
  have hw := w64 (x := (i : Int) + 1) (by omega) (by omega)
  rw [List.drop_eq_getElem_cons hia, List.any_cons] at h1 h2
  apply WPL_step
  conv => arg 4; whnf
  by_cases g : 30 < A[i].length
  ·have g' : (30 : Int) < A[i].length := by omega
   simp [hia, hH, arow, g, g']
   exact h2 (by simp [g])
  ·have g' : ¬ (30 : Int) < A[i].length := by omega
   simp only [g, decide_false, Bool.false_or] at h1 h2
   have ih' := ih (i + 1) (by omega) h1 h2
   simp [hia, hH, arow, g, g', hw]
   simpa [arow] using ih'
theorem muchV_ok (A : List (List Int)) (hn : A.length ≤ 9223372036854775807) (hH : 0 < H.length) : gcall KC (geval KC) 17 [.pure (.slice (A.map arow))] c H = some (.pure (.bool (muchV A)), H) := by
 refine WPv_eq (call_enter KC needT Tryz.func17 rfl rfl good17 rfl rfl rfl (by simp) hH ?_)
 have L := fun Q => muchV_loop (H := [] :: H) A hn Q (by simp) A.length 0 (by omega)
 simp only [List.drop_zero] at L
 unfold muchV
 simp
 refine L _ (fun h => ?_) (fun h => ?_)
 ·by_cases g : 20 < A.length
  ·have g' : (20 : Int) < A.length := by omega
   simp [h, g, g', gleave_free]
  ·have g' : ¬ (20 : Int) < A.length := by omega
   have h' := h
   simp at h'
   simp [h, g, g', gleave_free]
 ·simp only [h, Bool.true_or]
  simp [gleave_free]
theorem much_small {A : List (List Int)} (h : muchV A = false) : A.length ≤ 20 ∧ ∀ a ∈ A, a.length ≤ 30 := by
 unfold muchV at h
 simp at h
 exact ⟨by omega, fun a ha => by have := h.1 a ha; omega⟩
end
theorem svS_len {t : Tab} : (svS t).length ≤ 2000 := by
 unfold svS
 split
 ·have := saveS_short (goodT ‹_›); omega
 ·simp
theorem loadE_sm (s : List UInt8) : Sm (loadE s).1 := by
 by_cases h : (loadE s).2.2 = 0
 ·exact (goodT (save_load h).2).sm
 ·rw [loadE_err h]
  exact ⟨by simp [zT], by simp [zT]⟩
theorem rd_loop (F : Fr) (ts : List (List UInt8)) (hF : F.get 86 = some (.arr 1 (ts.map srow) 0 false)) (hl : ∀ t ∈ ts, t.length ≤ 9223372036854775807) (hn : ts.length ≤ 100) (Q : GX → GSt → Prop) (hQ : Q (.exit 2) ⟨[(12, gdead)], [F, []], 126⟩) :
  ∀ k i : Nat, i + k = ts.length → WPL KC needT 4 (lp Tryz.f4 1) [14, 20] [12] Q [(14, .hdr (1, 86) 1 ts.length 0 ts.length), (20, .pure (.int .i64 i))] [F, []] 126 := by
 intro k
 induction k with
 | zero =>
  intro i hi
  apply WPL_step
  conv => arg 4; whnf
  have : ¬ i < ts.length := by omega
  simp [this]
  exact hQ
 | succ k ih =>
  intro i hi
  have hia : i < ts.length := by omega
  have hw := w64 (x := (i : Int) + 1) (by omega) (by omega)
  have ih' := ih (i + 1) (by omega)
  have hR := fun c (G : Heap) (hG : 0 < G.length) => Load_ok (c := c) (H := G) ts[i] hG (hl _ (List.getElem_mem hia))
  have hV := fun c (G : Heap) (hG : 0 < G.length) => LoadR_ok (c := c) (H := G) ts[i] hG (hl _ (List.getElem_mem hia))
  have hget : (ts.map srow)[i]? = some (srow ts[i]) := by rw [List.getElem?_map, List.getElem?_eq_getElem hia]; rfl
  have hE := fun (c : Nat) (H : Heap) (hH : 0 < H.length) => eqT_ok (c := c) (H := H) (loadE ts[i]).1 (loadE_sm _) hH
  unfold loadT Tab.row at hR hV
  unfold Tab.row at hE
  generalize loadE ts[i] = x at *
  obtain ⟨t, li, fa⟩ := x
  simp only at hR hV hE
  apply WPL_step
  conv => arg 4; whnf
  simp [hia, hF, hget, srow, hR, hV, hE, hw]
  simpa using ih'
theorem law4 (t : Tab) (hA0 : t.answers.length ≤ 9223372036854775807) (s : List UInt8) (l : List Int) (at_ how : Int) (b : UInt8) (hn : l.length ≤ 9223372036854775807) (hsl : s.length ≤ 9223372036854775807) :
  ∃ H', gcall KC (geval KC) 4 [.pure (.agg t.row), .pure (.str s), .pure (.slice (l.map irow)), .pure (.int .i64 at_), .pure (.int .i64 how), .pure (.int .u8 b.toNat)] 0 [[]] = some (.pure (.bool true), H') := by
 have key : WPv (gcall KC (geval KC) 4 [.pure (.agg t.row), .pure (.str s), .pure (.slice (l.map irow)), .pure (.int .i64 at_), .pure (.int .i64 how), .pure (.int .u8 b.toNat)] 0 [[]]) (fun x => x.1 = .pure (.bool true)) := by
  refine call_enter KC needT Tryz.func4 rfl rfl good4 rfl rfl rfl (by simp) (by simp) ?_
  have hA := fun c (G : Heap) (hG : 0 < G.length) => awakeX_ok (c := c) (H := G) hG
  have hM := fun c (G : Heap) (hG : 0 < G.length) => muchV_ok (c := c) (H := G) t.answers hA0 hG
  have e1 : ((1000 : Int) < s.length) = (1000 < s.length) := by simp; omega
  have e2 : ((s.length : Int) ≤ 2000) = (s.length ≤ 2000) := by simp; omega
  cases hmu : muchV t.answers with
  | true =>
   rw [hmu] at hM
   simp [Tab.row, hM, hA, gleave_free]
  | false =>
   rw [hmu] at hM
   have hSm : Sm t := by
    obtain ⟨m1, m2⟩ := much_small hmu
    exact ⟨by omega, fun a ha => by have := m2 a ha; omega⟩
   by_cases hs : 1000 < s.length ∧ s.length ≤ 2000
   ·simp [Tab.row, hM, hA, gleave_free, e1, e2, hs]
   ·have hs' : 1000 < s.length → 2000 < s.length := fun h => by omega
    have nk : newKey 43 6 = 24620 := by decide
    obtain ⟨p, q, st, X, hrow, hX⟩ : ∃ p q st X, t.row = [p, q, st, X] ∧ X = .slice (t.answers.map arow) := ⟨_, _, _, _, rfl, rfl⟩
    rw [hrow]
    rw [← hX] at hM
    obtain ⟨w, hw⟩ := BoxOf_ok (c := 43) (H := [[(6, .box [.pure p, .pure q, .pure st, .pure X])], []]) l hn (by simp) (by simp [nk]) (of_decide_eq_true (by kernel_rfl))
    rw [nk] at hw
    simp at hw
    have hB : isBox [[(6, .box [.pure p, .pure q, .pure st, .pure X]), (24620, wbox w)], []] (1, 24620) := ⟨w, by simp, by simp⟩
    obtain ⟨g, wd, hT, eT⟩ := table_ok (c := 44) hB 6 4 (by omega) (by omega)
    have hSg := hT.sm
    simp at eT
    have gl : ∀ (t : Tab), Sm t → ∃ (T B : List UInt8) (E : Int), T.length ≤ 2000 ∧ B.length ≤ 4001 ∧ ∀ c (G : Heap), 0 < G.length →
      gcall KC (geval KC) 20 [.pure (.agg t.row)] c G = some (.pure (.tuple [.str T, .int .i64 E]), G) ∧ gcall KC (geval KC) 21 [.pure (.agg t.row)] c G = some (.pure (.tuple [.str T, .int .i64 E]), G) ∧
      gcall KC (geval KC) 13 [.pure (.str T), .pure (.int .i64 at_), .pure (.int .i64 how), .pure (.int .u8 b.toNat)] c G = some (.pure (.str B), G) := fun t hSm => by
     refine ⟨svS t, blotS (svS t) at_ how b, chkT t, svS_len, ?_, fun c G hG => ⟨?_, ?_, Blot_ok _ _ _ _ (by have := svS_len (t := t); omega) hG⟩⟩
     ·have := blotS_len (svS t) at_ how b
      have := svS_len (t := t)
      omega
     ·exact Save_ok t hSm hG
     ·exact SaveR_ok t hSm hG
    obtain ⟨T1, B1, E1, t1, b1, hg1⟩ := gl t hSm
    obtain ⟨T2, B2, E2, t2, b2, hg2⟩ := gl g hSg
    obtain ⟨p2, q2, st2, X2, hrow2⟩ : ∃ p q st X, g.row = [p, q, st, X] := ⟨_, _, _, _, rfl⟩
    rw [hrow] at hg1
    rw [hrow2] at hg2 eT
    have w1 := fun c G hG => (hg1 c G hG).1
    have w2 := fun c G hG => (hg1 c G hG).2.1
    have w3 := fun c G hG => (hg1 c G hG).2.2
    have v1 := fun c G hG => (hg2 c G hG).1
    have v2 := fun c G hG => (hg2 c G hG).2.1
    have v3 := fun c G hG => (hg2 c G hG).2.2
    clear hg1 hg2 gl hrow hrow2 hX
    have apL : ∀ (f0 fr : Fr), fr.get 86 = none → apK 1 86 (.lits [[.pure (.str s)]]) 1 16 [[.str T1], [.str B1]] [f0, fr, []] = some (.hdr (1, 86) 1 3 0 3, [f0, fr.ins 86 (.arr 1 [[.str s], [.str T1], [.str B1]] 0 false), []]) := fun f0 fr h => apK_litS (H := [[]]) rfl h
    have i1 : IntKind.i64.wrap 1 = 1 := rfl
    have i2 : IntKind.i64.wrap 2 = 2 := rfl
    have fin := fun (F : Fr) (hF : F.get 86 = some (.arr 1 [[.str s], [.str T1], [.str B1], [.str T2], [.str B2]] 0 false)) (Q : GX → GSt → Prop) hQ => rd_loop F [s, T1, B1, T2, B2] hF (by
     intro t ht
     simp at ht
     rcases ht with rfl | rfl | rfl | rfl | rfl <;> omega) (by simp) Q hQ 5 0 rfl
    simp only [List.length_cons, List.length_nil, Nat.zero_add, Nat.reduceAdd] at fin
    by_cases h1 : 1000 < s.length
    ·have h2 : ¬ s.length ≤ 2000 := fun h => hs ⟨h1, h⟩
     simp [hM, hA, e1, e2, h1, h2, hw, eT, gop_lit1]
     apply WPL_step
     conv => arg 4; whnf
     generalize hq : seqQ _ _ = Q2
     simp [w1, w2, w3, apL, i1]
     apply WPL_step
     conv => arg 4; whnf
     simp [v1, v2, v3, i2]
     apply WPL_step
     conv => arg 4; whnf
     simp
     subst hq
     simp
     refine fin _ (by simp [Fr.get]) _ ?_
     simp [hA, gleave_free]
    ·simp [hM, hA, e1, e2, h1, hw, eT, gop_lit1]
     apply WPL_step
     conv => arg 4; whnf
     generalize hq : seqQ _ _ = Q2
     simp [w1, w2, w3, apL, i1]
     apply WPL_step
     conv => arg 4; whnf
     simp [v1, v2, v3, i2]
     apply WPL_step
     conv => arg 4; whnf
     simp
     subst hq
     simp
     refine fin _ (by simp [Fr.get]) _ ?_
     simp [hA, gleave_free]
 obtain ⟨r, e1, e2⟩ := key
 obtain ⟨v, H'⟩ := r
 simp only at e2
 subst e2
 exact ⟨H', e1⟩
section
open Go.ChangeShapes Go.WideShapes Go.RowKit Go.ChangeAt
def Shp (P : Program) : Nat → TypeId → List PV → Prop
 | 0, _, _ => False
 | n + 1, t, ps =>
  match P.underlying t with
  | some .bool => ∃ b, ps = [.bool b]
  | some (.int k) => ∃ m, (Lit.int k m).wf = true ∧ ps = [.int k m]
  | some .string => ∃ l : List UInt8, l.length ≤ maxLen ∧ ps = [.str l]
  | some (.slice e) => ∃ rows, rows.length ≤ maxLen ∧ (∀ r ∈ rows, r.length = P.cellsOf e ∧ Shp P n e r) ∧ ps = [.slice rows]
  | some (.struct fs) => ps.length = P.cellsOf t ∧ ∀ f ∈ fs.toList, Shp P n f.type ((ps.drop f.offset).take (P.cellsOf f.type))
  | some (.array m e) => ps.length = P.cellsOf t ∧ ∀ i, i < m → Shp P n e ((ps.drop (i * P.cellsOf e)).take (P.cellsOf e))
  | _ => False
def consec (P : Program) (tot : Nat) : Nat → List (Nat × TypeId) → Bool
 | o, [] => o == tot
 | o, (off, t) :: r => off == o && consec P tot (o + P.cellsOf t) r
def plainTy (P : Program) : Nat → TypeId → Bool
 | 0, _ => false
 | n + 1, t =>
  match P.underlying t with
  | some .bool | some (.int _) | some .string => true
  | some (.slice e) => decide (0 < P.cellsOf e) && plainTy P n e
  | some (.struct fs) => consec P (P.cellsOf t) 0 (fs.toList.map fun f => (f.offset, f.type)) && fs.toList.all fun f => plainTy P n f.type
  | some (.array m e) => consec P (P.cellsOf t) 0 ((List.range m).map fun i => (i * P.cellsOf e, e)) && plainTy P n e
  | _ => false
def S0 (w : World) : Nat → Prop := fun b => b < w.heap.size
def PRow (w : World) (cs : List Value) (ps : List PV) : Prop := ps.length = cs.length ∧ ∀ j, j < cs.length → (cs.getD j undef).oneCell' = true ∧ PRep w (S0 w) (cs.getD j undef) (ps.getD j .dead)
theorem PRow.append {w : World} {a b : List Value} {p q : List PV} (h : PRow w a p) (k : PRow w b q) : PRow w (a ++ b) (p ++ q) := by
 obtain ⟨h1, h2⟩ := h
 obtain ⟨k1, k2⟩ := k
 refine ⟨by simp [h1, k1], fun j hj => ?_⟩
 by_cases hja : j < a.length
 ·have e1 : (a ++ b).getD j undef = a.getD j undef := by simp [List.getD_eq_getElem?_getD, List.getElem?_append_left hja]
  have e2 : (p ++ q).getD j .dead = p.getD j .dead := by simp [List.getD_eq_getElem?_getD, List.getElem?_append_left (show j < p.length by omega)]
  rw [e1, e2]; exact h2 j hja
 ·have e1 : (a ++ b).getD j undef = b.getD (j - a.length) undef := by simp [List.getD_eq_getElem?_getD, List.getElem?_append_right (show a.length ≤ j by omega)]
  have e2 : (p ++ q).getD j .dead = q.getD (j - a.length) .dead := by rw [List.getD_eq_getElem?_getD, List.getElem?_append_right (show p.length ≤ j by omega), h1, List.getD_eq_getElem?_getD]
  rw [e1, e2]; exact k2 _ (by simp at hj; omega)
theorem one_row {w : World} {v : Value} {p : PV} (h1 : v.oneCell' = true) (h : PRep w (S0 w) v p) : PRow w [v] [p] :=
  ⟨rfl, fun j hj => by have : j = 0 := by simpa using hj
                       subst this; exact ⟨h1, h⟩⟩
section
variable {P : Program} {w : World}
theorem parts_open (n : Nat) {cs : List Value} : ∀ (l : List (Nat × TypeId)) (o : Nat), consec P cs.length o l = true →
    (∀ x ∈ l, ∃ ps, PRow w ((cs.drop x.1).take (P.cellsOf x.2)) ps ∧ Shp P n x.2 ps) →
    o ≤ cs.length ∧ ∃ ps, PRow w (cs.drop o) ps ∧ ∀ x ∈ l, o ≤ x.1 ∧ Shp P n x.2 ((ps.drop (x.1 - o)).take (P.cellsOf x.2))
  | [], o, hc, h => by
    simp only [consec, beq_iff_eq] at hc
    subst hc
    exact ⟨Nat.le_refl _, [], by simp [PRow], by simp⟩
  | (off, t) :: r, o, hc, h => by
    simp only [consec, Bool.and_eq_true, beq_iff_eq] at hc
    obtain ⟨rfl, hc⟩ := hc
    obtain ⟨hle, ps, h1, h2⟩ := parts_open n r _ hc (fun x hx => h x (List.mem_cons_of_mem _ hx))
    obtain ⟨p, q1, q2⟩ := h (off, t) (List.mem_cons_self ..)
    simp only at q1 q2
    have hpl : p.length = P.cellsOf t := by rw [q1.1, List.length_take, List.length_drop]; omega
    refine ⟨by omega, p ++ ps, ?_, fun x hx => ?_⟩
    · have := q1.append h1
      rw [← List.drop_drop, List.take_append_drop] at this
      exact this
    · rcases List.mem_cons.1 hx with rfl | hx
      · refine ⟨Nat.le_refl _, ?_⟩
        simp only [Nat.sub_self, List.drop_zero]
        rw [← hpl, List.take_left]
        exact q2
      · obtain ⟨g1, g2⟩ := h2 x hx
        refine ⟨by omega, ?_⟩
        have e : (p ++ ps).drop (x.1 - off) = ps.drop (x.1 - (off + P.cellsOf t)) := by
          rw [List.drop_append, List.drop_of_length_le (by omega), List.nil_append, hpl, Nat.sub_sub]
        rw [e]; exact g2
theorem open_plain {H : Type} {enc : TypeId × Value → H} : ∀ (n : Nat) (t : TypeId) (fuel : Nat) (cs : List Value) (x : DataW H × List MemPlace), plainTy P n t = true →
    DataW.trod enc P w 0 (fun _ => true) true fuel t cs = some x → ∃ ps, PRow w cs ps ∧ Shp P n t ps := by
  intro n
  induction n with
  | zero => intro t fuel cs x h; simp [plainTy] at h
  | succ n ih =>
    intro t fuel cs x h hx
    unfold plainTy at h
    unfold Shp
    split at h
    · rename_i ht
      obtain ⟨b, rfl, _⟩ := DataW.trod_bool ht hx
      exact ⟨[.bool b], one_row rfl (.bool b), b, rfl⟩
    · rename_i k ht
      obtain ⟨m, rfl, _, hw⟩ := DataW.trod_int ht hx
      exact ⟨[.int k m], one_row rfl (.int k m), m, hw, rfl⟩
    · rename_i ht
      obtain ⟨s, rfl, _, hs⟩ := DataW.trod_string ht hx
      exact ⟨[.str s.data.toList], one_row rfl (.str s), _, by simpa using hs, rfl⟩
    · rename_i e ht
      simp only [Bool.and_eq_true, decide_eq_true_eq] at h
      obtain ⟨he, hp⟩ := h
      rcases DataW.trod_slice ht hx with ⟨rfl, _⟩ | ⟨a, len, cap, elems, rest, m, _, rfl, _, hb, hl, hm, hlen, hel, _, _⟩
      · exact ⟨[.slice []], one_row rfl (.slice0 none 0), [], by simp, by simp, rfl⟩
      · by_cases h0 : len = 0
        · subst h0
          exact ⟨[.slice []], one_row rfl (.slice0 _ _), [], by simp, by simp, rfl⟩
        · have each : ∀ i, i < len → ∃ c ps, w.cells? 0 (a.add (i * P.cellsOf e)) (P.cellsOf e) = some c ∧ PRow w c ps ∧ Shp P n e ps := by
            intro i hi
            have h1 := hel i hi
            rw [List.getElem?_eq_getElem (show i < elems.length by omega), Option.bind_eq_some_iff] at h1
            obtain ⟨c, h1, h2⟩ := h1
            obtain ⟨ps, h3, h4⟩ := ih e m c _ hp h2
            exact ⟨c, ps, h1, h3, h4⟩
          have ch : ∃ fc : Nat → List Value, ∃ fp : Nat → List PV, ∀ i, i < len → w.cells? 0 (a.add (i * P.cellsOf e)) (P.cellsOf e) = some (fc i) ∧ PRow w (fc i) (fp i) ∧ Shp P n e (fp i) := by
            refine ⟨fun i => if h : i < len then Classical.choose (each i h) else [], fun i => if h : i < len then Classical.choose (Classical.choose_spec (each i h)) else [], fun i hi => ?_⟩
            simp only [hi, ↓reduceDIte]
            exact Classical.choose_spec (Classical.choose_spec (each i hi))
          obtain ⟨fc, fp, hf⟩ := ch
          have hcell : ∀ i j, i < len → j < P.cellsOf e → w.cell? (a.add (i * P.cellsOf e + j)) = some ((fc i).getD j undef) := by
            intro i j hi hj
            obtain ⟨h1, _⟩ := hf i hi
            obtain ⟨_, g1, g2⟩ := World.cells?_some h1
            have := g2 j hj
            rw [List.getElem?_eq_getElem (by omega)] at this
            have e1 : (a.add (i * P.cellsOf e)).add j = a.add (i * P.cellsOf e + j) := by
              unfold Addr.add
              by_cases c1 : i * P.cellsOf e = 0 <;> by_cases c2 : j = 0 <;> simp_all [Nat.add_assoc]
            rw [e1] at this
            rw [this, List.getD_eq_getElem?_getD, List.getElem?_eq_getElem (by omega)]; rfl
          obtain ⟨b, off, spot⟩ := a
          have hsp : spot = none := by
            have := World.cell?_spot (hcell 0 0 (by omega) he)
            simpa [Addr.add] using this
          subst hsp
          have hcell' : ∀ i j, i < len → j < P.cellsOf e → w.cell? ⟨b, off + (i * P.cellsOf e + j), none⟩ = some ((fc i).getD j undef) := by
            intro i j hi hj
            have := hcell i j hi hj
            unfold Addr.add at this
            split at this
            · rename_i c; rw [c, Nat.add_zero]; exact this
            · exact this
          have hfl : ∀ i, i < len → (fp i).length = P.cellsOf e ∧ (fc i).length = P.cellsOf e := by
            intro i hi
            obtain ⟨h1, h2, _⟩ := hf i hi
            obtain ⟨_, g1, _⟩ := World.cells?_some h1
            exact ⟨h2.1.trans g1, g1⟩
          have hrows : ((List.range len).map fp).length = len := by simp
          refine ⟨[.slice ((List.range len).map fp)], one_row rfl ?_, _, by rw [hrows]; omega, fun r hr => ?_, rfl⟩
          · have := PRep.slice (w := w) (S := S0 w) b off cap (P.cellsOf e) ((List.range len).map fp) (fun i j => (fc i).getD j undef) (by
                have := hcell' 0 0 (by omega) he
                unfold S0
                refine Classical.byContradiction fun hn => ?_
                have hz : w.heap[b]? = none := Array.getElem?_eq_none (by omega)
                simp [World.cell?, hz] at this) he
              (fun r hr => by obtain ⟨i, hi, rfl⟩ := List.mem_map.1 hr; exact (hfl i (by simpa using hi)).1)
              (fun i j hi hj => hcell' i j (by simpa using hi) hj)
              (fun i j hi hj => by
                have hi' : i < len := by simpa using hi
                exact ((hf i hi').2.1.2 j (by rw [(hfl i hi').2]; exact hj)).1)
              (fun i j hi hj => by
                have hi' : i < len := by simpa using hi
                have e1 : ((List.range len).map fp).getD i [] = fp i := by simp [List.getD_eq_getElem?_getD, hi']
                rw [e1]
                exact ((hf i hi').2.1.2 j (by rw [(hfl i hi').2]; exact hj)).2)
              (by rw [hrows]; exact hl)
            rw [hrows] at this
            exact this
          · obtain ⟨i, hi, rfl⟩ := List.mem_map.1 hr
            have hi' : i < len := by simpa using hi
            exact ⟨(hfl i hi').1, (hf i hi').2.2⟩
    · rename_i fs ht
      simp only [Bool.and_eq_true, List.all_eq_true] at h
      obtain ⟨hc, hp⟩ := h
      obtain ⟨xs, m, _, _, hl, hlen, hfld⟩ := DataW.trod_struct ht hx
      rw [← hl] at hc
      obtain ⟨_, ps, h1, h2⟩ := parts_open (w := w) n _ 0 hc (fun y hy => by
        obtain ⟨f, hf, rfl⟩ := List.mem_map.1 hy
        obtain ⟨i, hi, e⟩ := List.getElem_of_mem hf
        have hi' : i < fs.size := by simpa using hi
        have h3 := hfld i f (by rw [Array.getElem?_eq_getElem hi']; rw [← e]; simp)
        rw [List.getElem?_eq_getElem (by omega)] at h3
        obtain ⟨p, q1, q2⟩ := ih f.type m _ _ (hp f hf) h3
        exact ⟨p, q1, q2⟩)
      rw [List.drop_zero] at h1
      refine ⟨ps, h1, by rw [h1.1, hl], fun f hf => ?_⟩
      exact (h2 (f.offset, f.type) (List.mem_map.2 ⟨f, hf, rfl⟩)).2
    · rename_i k e ht
      simp only [Bool.and_eq_true] at h
      obtain ⟨hc, hp⟩ := h
      obtain ⟨xs, m, _, _, hl, hlen, hfld⟩ := DataW.trod_array ht hx
      rw [← hl] at hc
      obtain ⟨_, ps, h1, h2⟩ := parts_open (w := w) n _ 0 hc (fun y hy => by
        obtain ⟨i, hi, rfl⟩ := List.mem_map.1 hy
        have hi' : i < k := by simpa using hi
        have h3 := hfld i hi'
        rw [List.getElem?_eq_getElem (by omega)] at h3
        obtain ⟨p, q1, q2⟩ := ih e m _ _ hp h3
        exact ⟨p, q1, q2⟩)
      rw [List.drop_zero] at h1
      refine ⟨ps, h1, by rw [h1.1, hl], fun i hi => ?_⟩
      exact (h2 (i * P.cellsOf e, e) (List.mem_map.2 ⟨i, by simpa using hi, rfl⟩)).2
    · cases h
def ArgP (P : Program) (n : Nat) (t : TypeId) (p : PV) : Prop :=
 match P.underlying t with
 | some (.struct _) | some (.array _ _) => ∃ ps, p = .agg ps ∧ Shp P n t ps
 | _ => Shp P n t [p]
def ArgsP (P : Program) (n : Nat) : List TypeId → List PV → Prop
 | [], [] => True
 | t :: ts, p :: ps => ArgP P n t p ∧ ArgsP P n ts ps
 | _, _ => False
def mu0 : Mu := fun _ _ => none
theorem shp_one {n : Nat} {t : TypeId} {ps : List PV} (h : Shp P n t ps) (hs : ∀ fs, P.underlying t ≠ some (.struct fs)) (ha : ∀ m e, P.underlying t ≠ some (.array m e)) : ∃ p, ps = [p] := by
 cases n with
 | zero => exact h.elim
 | succ n =>
  unfold Shp at h
  split at h
  ·obtain ⟨b, rfl⟩ := h; exact ⟨_, rfl⟩
  ·obtain ⟨m, _, rfl⟩ := h; exact ⟨_, rfl⟩
  ·obtain ⟨m, _, rfl⟩ := h; exact ⟨_, rfl⟩
  ·obtain ⟨m, _, _, rfl⟩ := h; exact ⟨_, rfl⟩
  ·rename_i ht; exact absurd ht (hs _)
  ·rename_i ht; exact absurd ht (ha _ _)
  ·exact h.elim
theorem arg_rel {H : Type} {enc : TypeId × Value → H} {n : Nat} {t : TypeId} {v : Value} {d : DataW H} {ps0 : List MemPlace} {base : Nat} (hp : plainTy P n t = true) (hok : Value.okWide P w .any base t v)
  (h : DataW.Trod enc P w 0 (fun _ => true) true t v d ps0) : ∃ p, VRel w (S0 w) mu0 0 v (.pure p) ∧ ArgP P n t p := by
 obtain ⟨fuel, hf⟩ := h
 obtain ⟨ps, h1, h2⟩ := open_plain n t fuel _ _ hp hf
 have agg : ∀ cs, v = .agg cs → ∃ p, VRel w (S0 w) mu0 0 v (.pure p) ∧ ∃ ps, p = .agg ps ∧ Shp P n t ps := by
  intro cs e
  subst e
  simp only [Value.cells] at h1
  refine ⟨.agg ps, .pure _ _ (.agg cs ps (by simpa using h1.1.symm) (fun j hj => ?_) (fun j hj => ?_)), ps, rfl, h2⟩
  ·have := (h1.2 j (by rw [← h1.1]; exact hj)).1
   simpa [List.getD_eq_getElem?_getD] using this
  ·have := (h1.2 j (by rw [← h1.1]; exact hj)).2
   simpa [List.getD_eq_getElem?_getD] using this
 unfold ArgP
 split
 ·rename_i fs ht
  obtain ⟨cs, e, _⟩ := okWide_struct ht hok
  exact agg cs e
 ·rename_i m e ht
  simp only [Value.okWide, ht] at hok
  obtain ⟨cs, e, _⟩ := hok
  exact agg cs e
 ·rename_i hs ha
  obtain ⟨p, rfl⟩ := shp_one h2 (fun fs e => hs fs e) (fun m e e' => ha m e e')
  have hv : v.cells.toList = [v] := by
   have hl := h1.1
   cases v <;> first | rfl | skip
   ·exfalso
    rename_i cs
    cases n with
    | zero => exact h2.elim
    | succ n =>
     unfold plainTy at hp
     simp only [Value.okWide] at hok
     split at hp <;> rename_i ht <;> first | (simp [Cell.okWide, Cell.ok, ht] at hok; done) | (exact absurd ht (hs _)) | (exact absurd ht (ha _ _)) | (cases hp; done) | skip
  rw [hv] at h1
  exact ⟨p, .pure _ _ (h1.2 0 (by simp)).2, h2⟩
end
end
end Go.Gh

/- A fire of some of the coals: only of the program. -/
import Derived.Test.YtldhcphijclmdaaFf
namespace Go.Gh
open Go.Proofs
set_option linter.unusedSimpArgs false
set_option linter.unusedVariables false
set_option maxRecDepth 100000
set_option maxHeartbeats 4000000

variable {keep : Nat → Bool} (hk : ∀ f, kept f = false → keep f = false) {c : Nat} {H : Heap}

/-- The places of the first i chosen. -/
def posI (ch : List Int) : Nat → List (Int × Int)
  | 0 => []
  | i + 1 => mset (posI ch i) (ch.getD i 0) i
def coal0 : Coal := ⟨⟨0, 0⟩, ⟨0, 0⟩, ⟨0, 0⟩, false⟩
def coalAt (cs : List Coal) (c : Int) : Coal := cs.getD c.toNat coal0
def touchO (m : List (Int × Int)) (t : Touch) : List Touch := match mget m t.a, mget m t.b with | some a, some b => [⟨a, b⟩] | _, _ => []
def touchesO (m : List (Int × Int)) (ts : List Touch) : List Touch := ts.flatMap (touchO m)
noncomputable def onlyF : List Coal → List Touch → List Int → Fire := hid fun cs ts ch => ⟨ch.map (coalAt cs), touchesO (posI ch ch.length) ts⟩
theorem onlyF_def (cs : List Coal) (ts : List Touch) (ch : List Int) : onlyF cs ts ch = ⟨ch.map (coalAt cs), touchesO (posI ch ch.length) ts⟩ := by rw [onlyF, hid_eq]
theorem ent_mset' (m : List (Int × Int)) (a b : Int) : ent (mset m a b) = match mfind m a 0 with | some (j, _) => (ent m).set j (.int .i64 a, .pure (.int .i64 b)) | none => ent m ++ [(.int .i64 a, .pure (.int .i64 b))] := by
  unfold mset ent
  cases mfind m a 0 with
  | none => simp
  | some x => simp [List.map_set]

def ofr (cs : List Coal) (ts : List Touch) (L : Nat) (m : List (Int × Int)) (rows trows : List (List PV)) : Fr :=
  apF 68 2 trows (apF 34 7 rows [(2, .box [.pure (.slice (cs.map Coal.row)), .pure (.slice (ts.map Touch.row))]), (4, .box [.nils, .nils]), (5, .box [apS (L, 34) 7 rows, apS (L, 68) 2 trows]), (15, .map (ent m))])
theorem only_loop0 (cs : List Coal) (ts : List Touch) (ch : List Int) (hch : ∀ x ∈ ch, 0 ≤ x ∧ x < cs.length) (hn : ch.length ≤ 1000) (Q : GX → GSt → Prop) (hH : 0 < H.length) : ∀ (j i : Nat), i + j = ch.length →
    Q (.exit 0) ⟨[(2, .bptr (H.length, 2) 0), (4, .bptr (H.length, 4) 0), (5, .bptr (H.length, 5) 0), (6, .map (H.length, 15))], ofr cs ts H.length (posI ch ch.length) ((ch.map (coalAt cs)).map Coal.row) [] :: H, 72⟩ →
    WPL (KC keep) needT 88 (lp Try.f88 0) [2, 4, 5, 6, 16, 17, 18] [2, 4, 5, 6] Q [(2, .bptr (H.length, 2) 0), (4, .bptr (H.length, 4) 0), (5, .bptr (H.length, 5) 0), (6, .map (H.length, 15)), (16, .pure (.slice (ch.map irow))), (17, .pure (.int .i64 ch.length)), (18, .pure (.int .i64 i))]
      (ofr cs ts H.length (posI ch i) (((ch.take i).map (coalAt cs)).map Coal.row) [] :: H) 72 := by
  intro j
  induction j with
  | zero =>
    intro i hi h1
    have e : i = ch.length := by omega
    subst e
    rw [List.take_of_length_le (Nat.le_refl _)]
    have hia : ¬ ch.length < ch.length := by omega
    generalize ((ch.map (coalAt cs)).map Coal.row) = rows at *
    apply WPL_step
    conv => arg 4; whnf
    simp [hia, hH, ofr, apS_nil, apF_nil]
    simpa [ofr, apS_nil, apF_nil] using h1
  | succ j ih =>
    intro i hi h1
    have hia : i < ch.length := by omega
    have hw := w64 (x := (i : Int) + 1) (by omega) (by omega)
    have hx := hch ch[i] (List.getElem_mem hia)
    obtain ⟨a, ha⟩ : ∃ a : Nat, ch[i] = a := ⟨ch[i].toNat, by omega⟩
    have han : a < cs.length := by omega
    have ih' := ih (i + 1) (by omega) h1
    have e1 : posI ch (i + 1) = mset (posI ch i) a i := by
      show mset (posI ch i) (ch.getD i 0) i = _
      rw [List.getD_eq_getElem?_getD, List.getElem?_eq_getElem hia, Option.getD_some, ha]
    have e2 : (((ch.take (i + 1)).map (coalAt cs)).map Coal.row) = (((ch.take i).map (coalAt cs)).map Coal.row) ++ [cs[a].row] := by
      rw [List.take_succ_eq_append_getElem hia, List.map_append, List.map_append, ha]
      simp [coalAt, List.getD_eq_getElem?_getD, han]
    have hlen : ((((ch.take i).map (coalAt cs)).map Coal.row)).length = i := by simp; omega
    rw [e1, e2] at ih'
    generalize ((ch.take i).map (coalAt cs)).map Coal.row = rows at *
    generalize posI ch i = m at *
    have hb : (rows.length + 1) * 56 ≤ 1099511627776 := by omega
    apply WPL_step
    conv => arg 4; whnf
    cases hf : mfind m a 0 with
    | none =>
      simp [ofr, apS_nil, apF_nil, ent_mset', hf, Coal.row] at ih'
      simp [hia, hH, hw, irow, ha, han, hb, ofr, apS_nil, apF_nil, findEntry_ent, hf, Coal.row]
      exact ih'
    | some y =>
      simp [ofr, apS_nil, apF_nil, ent_mset', hf, Coal.row] at ih'
      simp [hia, hH, hw, irow, ha, han, hb, ofr, apS_nil, apF_nil, findEntry_ent, hf, Coal.row]
      exact ih'

theorem touchesO_drop (m : List (Int × Int)) (ts : List Touch) (i : Nat) (h : i < ts.length) : touchesO m (ts.take (i + 1)) = touchesO m (ts.take i) ++ touchO m ts[i] := by
  unfold touchesO
  rw [List.take_succ_eq_append_getElem h, List.flatMap_append]
  simp
theorem touchesO_len (m : List (Int × Int)) : ∀ ts : List Touch, (touchesO m ts).length ≤ ts.length
  | [] => by simp [touchesO]
  | t :: r => by
    have := touchesO_len m r
    have h : (touchO m t).length ≤ 1 := by unfold touchO; split <;> simp
    simp only [touchesO, List.flatMap_cons, List.length_append, List.length_cons] at this ⊢
    omega
theorem only_loop1 (cs : List Coal) (ts : List Touch) (m : List (Int × Int)) (hn : ts.length ≤ 1000) (crows : List (List PV)) (Q : GX → GSt → Prop) (hH : 0 < H.length) : ∀ (j i : Nat), i + j = ts.length →
    Q (.exit 2) ⟨[(4, .bptr (H.length, 4) 0), (5, .bptr (H.length, 5) 0)], ofr cs ts H.length m crows ((touchesO m ts).map Touch.row) :: H, 72⟩ →
    WPL (KC keep) needT 88 (lp Try.f88 1) [4, 5, 6, 38, 39, 40] [4, 5] Q [(4, .bptr (H.length, 4) 0), (5, .bptr (H.length, 5) 0), (6, .map (H.length, 15)), (38, .pure (.slice (ts.map Touch.row))), (39, .pure (.int .i64 ts.length)), (40, .pure (.int .i64 i))]
      (ofr cs ts H.length m crows ((touchesO m (ts.take i)).map Touch.row) :: H) 72 := by
  intro j
  induction j with
  | zero =>
    intro i hi h1
    have e : i = ts.length := by omega
    subst e
    rw [List.take_of_length_le (Nat.le_refl _)]
    have hia : ¬ ts.length < ts.length := by omega
    generalize (touchesO m ts).map Touch.row = trows at *
    apply WPL_step
    conv => arg 4; whnf
    simp [hia, hH, ofr]
    simpa [ofr] using h1
  | succ j ih =>
    intro i hi h1
    have hia : i < ts.length := by omega
    have hw := w64 (x := (i : Int) + 1) (by omega) (by omega)
    have ih' := ih (i + 1) (by omega) h1
    have hlen := touchesO_len m (ts.take i)
    rw [touchesO_drop m ts i hia, List.map_append] at ih'
    have hb : (((touchesO m (ts.take i)).map Touch.row).length + 1) * 16 ≤ 1099511627776 := by simp at hlen ⊢; omega
    unfold touchO at ih'
    generalize (touchesO m (ts.take i)).map Touch.row = rows at *
    apply WPL_step
    conv => arg 4; whnf
    cases ea : mget m ts[i].a with
    | none =>
      have fa := mget_none ea
      rw [ea] at ih'
      simp [ofr] at ih'
      cases eb : mget m ts[i].b with
      | none =>
        have fb := mget_none eb
        simp [hia, hH, hw, Touch.row, hb, ofr, findEntry_ent, fa, fb]
        exact ih'
      | some b =>
        obtain ⟨jb, fb⟩ := mget_some eb
        simp [hia, hH, hw, Touch.row, hb, ofr, findEntry_ent, fa, fb]
        exact ih'
    | some a =>
      obtain ⟨ja, fa⟩ := mget_some ea
      rw [ea] at ih'
      cases eb : mget m ts[i].b with
      | none =>
        rw [eb] at ih'
        simp [ofr] at ih'
        have fb := mget_none eb
        simp [hia, hH, hw, Touch.row, hb, ofr, findEntry_ent, fa, fb]
        exact ih'
      | some b =>
        rw [eb] at ih'
        simp [ofr, Touch.row] at ih'
        obtain ⟨jb, fb⟩ := mget_some eb
        simp [hia, hH, hw, Touch.row, hb, ofr, findEntry_ent, fa, fb]
        exact ih'

include hk in
theorem only_ok (cs : List Coal) (ts : List Touch) (ch : List Int) (hch : ∀ x ∈ ch, 0 ≤ x ∧ x < cs.length) (hn : ch.length ≤ 1000) (ht : ts.length ≤ 1000) (hH : 0 < H.length) :
    gcall (KC keep) (geval (KC keep)) 88 [.pure (.agg [.slice (cs.map Coal.row), .slice (ts.map Touch.row)]), .pure (.slice (ch.map irow))] c H = some (.pure (.agg (onlyF cs ts ch).row), H) := by
  refine WPv_eq (call_enter (KC keep) needT Try.func88 rfl rfl good88 rfl (by simp) hH ?_)
  have hlt : H.length - 1 < H.length := by omega
  have hE : ent [] = [] := rfl
  have h0 := fun Q hq => only_loop0 (keep := keep) (H := H) cs ts ch hch hn Q hH ch.length 0 (by omega) hq
  rw [onlyF_def]
  have hz : touchesO (posI ch ch.length) (ts.take 0) = [] := rfl
  have h1 := fun crows Q hq => only_loop1 (keep := keep) (H := H) cs ts (posI ch ch.length) ht crows Q hH ts.length 0 (by omega) hq
  rw [hz] at h1
  generalize touchesO (posI ch ch.length) ts = tt at *
  have hp0 : posI ch 0 = [] := rfl
  rw [hp0] at h0
  generalize posI ch ch.length = m at *
  rw [List.take_zero] at h0
  generalize ch.map (coalAt cs) = cc at *
  simp [ofr, apS_nil, apF_nil, hE] at h0
  simp [ofr, apS_nil, apF_nil] at h1
  simp [hH]
  refine h0 _ ?_
  simp [hH]
  refine h1 _ _ ?_
  have hcc : ∀ (F : Fr) (h1 : cc.map Coal.row ≠ [] → F.get 34 = some (.arr 7 (cc.map Coal.row) 0 false)) (h2 : tt.map Touch.row ≠ [] → F.get 68 = some (.arr 2 (tt.map Touch.row) 0 false)),
      canon (clean (F :: H) (H.length - 1) (.agg [apS (H.length, 34) 7 (cc.map Coal.row), apS (H.length, 68) 2 (tt.map Touch.row)])) = .pure (.agg [.slice (cc.map Coal.row), .slice (tt.map Touch.row)]) :=
    fun F h1 h2 => cc_agg2 rfl hlt h1 h2
  simp [gleave_free, hk, kept, Fire.row, -clean_agg]
  refine hcc _ (fun h => ?_) (fun h => ?_)
  · simp
    exact apF_self h
  · exact apF_self h
end Go.Gh


/- A fire of some of the coals: Only of the reference. -/
namespace Go.Gh
open Go.Proofs
set_option linter.unusedSimpArgs false
set_option linter.unusedVariables false
set_option maxRecDepth 100000
set_option maxHeartbeats 4000000

variable {keep : Nat → Bool} (hk : ∀ f, kept f = false → keep f = false) {c : Nat} {H : Heap}

/-- The list of places: -1 where there is none. -/
def posA (n : Nat) (m : List (Int × Int)) : List Int := (List.range n).map fun v : Nat => (mget m (v : Int)).getD (-1)
theorem posA_len (n : Nat) (m : List (Int × Int)) : (posA n m).length = n := by simp [posA]
theorem posA_set (n : Nat) (m : List (Int × Int)) (a : Nat) (v : Int) (ha : a < n) : (posA n m).set a v = posA n (mset m a v) := by
  refine List.ext_getElem (by simp [posA]) (fun i h1 h2 => ?_)
  have hi : i < n := by simpa [posA] using h2
  by_cases e : a = i
  · subst e
    simp [posA, mget_mset]
  · rw [List.getElem_set_ne e]
    have e' : ¬ (i : Int) = (a : Int) := by omega
    simp [posA, mget_mset, e']
theorem posA_get (n : Nat) (m : List (Int × Int)) (a : Nat) (ha : a < n) (h : a < (posA n m).length) : (posA n m)[a] = (mget m a).getD (-1) := by simp [posA]
def posB (n i : Nat) : List Int := List.replicate i (-1) ++ List.replicate (n - i) 0
theorem posB_len (n i : Nat) (h : i ≤ n) : (posB n i).length = n := by simp [posB]; omega
theorem posB_set (n i : Nat) (h : i < n) : (posB n i).set i (-1) = posB n (i + 1) := by
  unfold posB
  rw [List.set_append_right _ _ (by simp), List.length_replicate, Nat.sub_self, show n - i = (n - (i + 1)) + 1 by omega, List.replicate_succ, List.set_cons_zero, List.replicate_succ', List.append_assoc]
  rfl
theorem posB_done (n : Nat) : posB n n = posA n [] := by
  refine List.ext_getElem (by simp [posB, posA]) (fun i h1 h2 => ?_)
  simp [posB, posA, mget, mfind]

def pfr (cs : List Coal) (ts : List Touch) (vf : Nat) (t : List Int) : Fr := [(2, .box [.pure (.slice (cs.map Coal.row)), .pure (.slice (ts.map Touch.row))]), (4, .box [.nils, .nils]), (15, .arr 1 (t.map irow) vf false)]
theorem onlyR_loop0 (cs : List Coal) (ts : List Touch) (ch : List Int) (n : Nat) (hn : n ≤ 1000) (Q : GX → GSt → Prop) (hH : 0 < H.length) : ∀ (j i vf : Nat), i + j = n → vf ≤ n →
    (∀ vf', vf' ≤ n → Q (.exit 0) ⟨[(1, .pure (.slice (ch.map irow))), (2, .bptr (H.length, 2) 0), (4, .bptr (H.length, 4) 0), (5, .hdr (H.length, 15) 1 n 0 n)], pfr cs ts vf' (posA n []) :: H, 91⟩) →
    WPL (KC keep) needT 60 (lp Try.f60 0) [1, 2, 4, 5, 6] [1, 2, 4, 5] Q [(1, .pure (.slice (ch.map irow))), (2, .bptr (H.length, 2) 0), (4, .bptr (H.length, 4) 0), (5, .hdr (H.length, 15) 1 n 0 n), (6, .pure (.int .i64 i))]
      (pfr cs ts vf (posB n i) :: H) 91 := by
  intro j
  induction j with
  | zero =>
    intro i vf hi hv h1
    have e : i = n := by omega
    subst e
    rw [posB_done]
    apply WPL_step
    conv => arg 4; whnf
    simp [hH, pfr]
    simpa [pfr] using h1 vf hv
  | succ j ih =>
    intro i vf hi hv h1
    have hia : i < n := by omega
    have hw := w64 (x := (i : Int) + 1) (by omega) (by omega)
    have ih' := ih (i + 1) n (by omega) (Nat.le_refl _) h1
    have hlen := posB_len n i (by omega)
    rw [← posB_set n i hia] at ih'
    generalize posB n i = t at *
    apply WPL_step
    conv => arg 4; whnf
    simp [hia, hH, hw, pfr, hlen, hv, irow]
    simp [pfr, irow] at ih'
    exact ih'

def qfr (cs : List Coal) (ts : List Touch) (L : Nat) (vf : Nat) (t : List Int) (rows trows : List (List PV)) : Fr :=
  apF 88 2 trows (apF 49 7 rows [(2, .box [.pure (.slice (cs.map Coal.row)), .pure (.slice (ts.map Touch.row))]), (4, .box [.nils, .nils]), (7, .box [apS (L, 49) 7 rows, apS (L, 88) 2 trows]), (15, .arr 1 (t.map irow) vf false)])
theorem onlyR_loop1 (cs : List Coal) (ts : List Touch) (ch : List Int) (hch : ∀ x ∈ ch, 0 ≤ x ∧ x < cs.length) (hn : ch.length ≤ 1000) (hnc : cs.length ≤ 1000) (Q : GX → GSt → Prop) (hH : 0 < H.length) : ∀ (j i vf : Nat), i + j = ch.length → vf ≤ cs.length →
    (∀ vf', vf' ≤ cs.length → Q (.exit 2) ⟨[(2, .bptr (H.length, 2) 0), (4, .bptr (H.length, 4) 0), (5, .hdr (H.length, 15) 1 cs.length 0 cs.length), (7, .bptr (H.length, 7) 0)], qfr cs ts H.length vf' (posA cs.length (posI ch ch.length)) ((ch.map (coalAt cs)).map Coal.row) [] :: H, 91⟩) →
    WPL (KC keep) needT 60 (lp Try.f60 1) [1, 2, 4, 5, 7, 8] [2, 4, 5, 7] Q [(1, .pure (.slice (ch.map irow))), (2, .bptr (H.length, 2) 0), (4, .bptr (H.length, 4) 0), (5, .hdr (H.length, 15) 1 cs.length 0 cs.length), (7, .bptr (H.length, 7) 0), (8, .pure (.int .i64 i))]
      (qfr cs ts H.length vf (posA cs.length (posI ch i)) (((ch.take i).map (coalAt cs)).map Coal.row) [] :: H) 91 := by
  intro j
  induction j with
  | zero =>
    intro i vf hi hv h1
    have e : i = ch.length := by omega
    subst e
    rw [List.take_of_length_le (Nat.le_refl _)]
    have hia : ¬ ch.length < ch.length := by omega
    have h1' := h1 vf hv
    generalize ((ch.map (coalAt cs)).map Coal.row) = rows at *
    apply WPL_step
    conv => arg 4; whnf
    simp [hia, hH, qfr, apS_nil, apF_nil]
    simpa [qfr, apS_nil, apF_nil] using h1'
  | succ j ih =>
    intro i vf hi hv h1
    have hia : i < ch.length := by omega
    have hw := w64 (x := (i : Int) + 1) (by omega) (by omega)
    have hx := hch ch[i] (List.getElem_mem hia)
    obtain ⟨a, ha⟩ : ∃ a : Nat, ch[i] = a := ⟨ch[i].toNat, by omega⟩
    have han : a < cs.length := by omega
    have ih' := ih (i + 1) cs.length (by omega) (Nat.le_refl _) h1
    have e1 : posI ch (i + 1) = mset (posI ch i) a i := by
      show mset (posI ch i) (ch.getD i 0) i = _
      rw [List.getD_eq_getElem?_getD, List.getElem?_eq_getElem hia, Option.getD_some, ha]
    have e2 : (((ch.take (i + 1)).map (coalAt cs)).map Coal.row) = (((ch.take i).map (coalAt cs)).map Coal.row) ++ [cs[a].row] := by
      rw [List.take_succ_eq_append_getElem hia, List.map_append, List.map_append, ha]
      simp [coalAt, List.getD_eq_getElem?_getD, han]
    have hlen : ((((ch.take i).map (coalAt cs)).map Coal.row)).length = i := by simp; omega
    rw [e1, e2, ← posA_set _ _ a i han] at ih'
    have hpl := posA_len cs.length (posI ch i)
    generalize ((ch.take i).map (coalAt cs)).map Coal.row = rows at *
    generalize posA cs.length (posI ch i) = t at *
    have hb : (rows.length + 1) * 56 ≤ 1099511627776 := by omega
    apply WPL_step
    conv => arg 4; whnf
    simp [qfr, apS_nil, apF_nil, Coal.row, irow] at ih'
    simp [hia, hH, hw, irow, ha, han, hb, hpl, hv, qfr, apS_nil, apF_nil, Coal.row]
    exact ih'

theorem posI_nn (ch : List Int) : ∀ (i : Nat) (v p : Int), mget (posI ch i) v = some p → 0 ≤ p
  | 0, v, p, h => by simp [posI, mget, mfind] at h
  | i + 1, v, p, h => by
    simp only [posI, mget_mset] at h
    split at h
    · simp only [Option.some.injEq] at h; omega
    · exact posI_nn ch i v p h
theorem onlyR_loop2 (cs : List Coal) (ts : List Touch) (m : List (Int × Int)) (hm : ∀ v p, mget m v = some p → 0 ≤ p) (hts : ∀ x ∈ ts, 0 ≤ x.a ∧ x.a < cs.length ∧ 0 ≤ x.b ∧ x.b < cs.length) (hn : ts.length ≤ 1000) (crows : List (List PV)) (vf : Nat) (hv : vf ≤ cs.length) (Q : GX → GSt → Prop) (hH : 0 < H.length) : ∀ (j i : Nat), i + j = ts.length →
    Q (.exit 4) ⟨[(4, .bptr (H.length, 4) 0), (7, .bptr (H.length, 7) 0)], qfr cs ts H.length vf (posA cs.length m) crows ((touchesO m ts).map Touch.row) :: H, 91⟩ →
    WPL (KC keep) needT 60 (lp Try.f60 2) [2, 4, 5, 7, 9] [4, 7] Q [(2, .bptr (H.length, 2) 0), (4, .bptr (H.length, 4) 0), (5, .hdr (H.length, 15) 1 cs.length 0 cs.length), (7, .bptr (H.length, 7) 0), (9, .pure (.int .i64 i))]
      (qfr cs ts H.length vf (posA cs.length m) crows ((touchesO m (ts.take i)).map Touch.row) :: H) 91 := by
  intro j
  induction j with
  | zero =>
    intro i hi h1
    have e : i = ts.length := by omega
    subst e
    rw [List.take_of_length_le (Nat.le_refl _)]
    have hia : ¬ ts.length < ts.length := by omega
    generalize (touchesO m ts).map Touch.row = trows at *
    apply WPL_step
    conv => arg 4; whnf
    simp [hia, hH, qfr]
    simpa [qfr] using h1
  | succ j ih =>
    intro i hi h1
    have hia : i < ts.length := by omega
    have hw := w64 (x := (i : Int) + 1) (by omega) (by omega)
    have ih' := ih (i + 1) (by omega) h1
    have hlen := touchesO_len m (ts.take i)
    rw [touchesO_drop m ts i hia, List.map_append] at ih'
    have hb : (((touchesO m (ts.take i)).map Touch.row).length + 1) * 16 ≤ 1099511627776 := by simp at hlen ⊢; omega
    unfold touchO at ih'
    have hx := hts ts[i] (List.getElem_mem hia)
    obtain ⟨a, ha⟩ : ∃ a : Nat, ts[i].a = a := ⟨ts[i].a.toNat, by omega⟩
    obtain ⟨b, hbb⟩ : ∃ b : Nat, ts[i].b = b := ⟨ts[i].b.toNat, by omega⟩
    have han : a < cs.length := by omega
    have hbn : b < cs.length := by omega
    rw [ha, hbb] at ih'
    have hpl := posA_len cs.length m
    have ha2 : a < (posA cs.length m).length := by omega
    have hb2 : b < (posA cs.length m).length := by omega
    have ga := posA_get cs.length m a han ha2
    have gb := posA_get cs.length m b hbn hb2
    have hma := hm a
    have hmb := hm b
    generalize (touchesO m (ts.take i)).map Touch.row = rows at *
    clear ih
    generalize posA cs.length m = t at *
    apply WPL_step
    conv => arg 4; whnf
    cases ea : mget m a with
    | none =>
      rw [ea] at ih' ga
      simp [qfr] at ih'
      simp only [Option.getD_none] at ga
      cases eb : mget m b with
      | none =>
        rw [eb] at gb
        simp only [Option.getD_none] at gb
        simp [hia, hH, hw, Touch.row, irow, ha, hbb, hb, ha2, hb2, hpl, hv, qfr, ga, gb, han, hbn]
        exact ih'
      | some q =>
        rw [eb] at gb
        simp only [Option.getD_some] at gb
        have := hmb q eb
        simp [hia, hH, hw, Touch.row, irow, ha, hbb, hb, ha2, hb2, hpl, hv, qfr, ga, gb, han, hbn, this]
        exact ih'
    | some p =>
      rw [ea] at ih' ga
      simp only [Option.getD_some] at ga
      have hp0 := hma p ea
      cases eb : mget m b with
      | none =>
        rw [eb] at gb ih'
        simp [qfr] at ih'
        simp only [Option.getD_none] at gb
        simp [hia, hH, hw, Touch.row, irow, ha, hbb, hb, ha2, hb2, hpl, hv, qfr, ga, gb, hp0, han, hbn]
        exact ih'
      | some q =>
        rw [eb] at gb ih'
        simp [qfr, Touch.row] at ih'
        simp only [Option.getD_some] at gb
        have := hmb q eb
        simp [hia, hH, hw, Touch.row, irow, ha, hbb, hb, ha2, hb2, hpl, hv, qfr, ga, gb, hp0, this, han, hbn]
        exact ih'
include hk in
theorem onlyR_ok (cs : List Coal) (ts : List Touch) (ch : List Int) (hch : ∀ x ∈ ch, 0 ≤ x ∧ x < cs.length) (hts : ∀ x ∈ ts, 0 ≤ x.a ∧ x.a < cs.length ∧ 0 ≤ x.b ∧ x.b < cs.length) (hn : ch.length ≤ 1000) (ht : ts.length ≤ 1000) (hc : cs.length ≤ 1000) (hH : 0 < H.length) :
    gcall (KC keep) (geval (KC keep)) 60 [.pure (.agg [.slice (cs.map Coal.row), .slice (ts.map Touch.row)]), .pure (.slice (ch.map irow))] c H = some (.pure (.agg (onlyF cs ts ch).row), H) := by
  refine WPv_eq (call_enter (KC keep) needT Try.func60 rfl rfl good60 rfl (by simp) hH ?_)
  have hlt : H.length - 1 < H.length := by omega
  have h0 := fun Q hq => onlyR_loop0 (keep := keep) (H := H) cs ts ch cs.length hc Q hH cs.length 0 0 (by omega) (by omega) hq
  have h1 := fun vf hv Q hq => onlyR_loop1 (keep := keep) (H := H) cs ts ch hch hn hc Q hH ch.length 0 vf (by omega) hv hq
  rw [onlyF_def]
  have hz : touchesO (posI ch ch.length) (ts.take 0) = [] := rfl
  have h2 := fun vf hv crows Q hq => onlyR_loop2 (keep := keep) (H := H) cs ts (posI ch ch.length) (posI_nn ch ch.length) hts ht crows vf hv Q hH ts.length 0 (by omega) hq
  rw [hz] at h2
  generalize touchesO (posI ch ch.length) ts = tt at *
  have hp0 : posI ch 0 = [] := rfl
  rw [hp0] at h1
  generalize posA cs.length (posI ch ch.length) = t1 at *
  generalize posA cs.length [] = t0 at *
  rw [List.take_zero] at h1
  generalize ch.map (coalAt cs) = cc at *
  have hB : posB cs.length 0 = List.replicate cs.length 0 := by simp [posB]
  rw [hB] at h0
  simp [pfr, List.map_replicate, irow] at h0
  simp [qfr, apS_nil, apF_nil, irow] at h1
  simp [qfr, apS_nil, apF_nil] at h2
  have hb : (cs.length : Int) * 8 ≤ 1099511627776 := by omega
  simp [hH, hb]
  refine h0 _ (fun vf hv => ?_)
  simp [hH]
  refine h1 vf hv _ (fun vf' hv' => ?_)
  simp [hH]
  refine h2 vf' hv' _ _ ?_
  have hcc : ∀ (F : Fr) (h1 : cc.map Coal.row ≠ [] → F.get 49 = some (.arr 7 (cc.map Coal.row) 0 false)) (h2 : tt.map Touch.row ≠ [] → F.get 88 = some (.arr 2 (tt.map Touch.row) 0 false)),
      canon (clean (F :: H) (H.length - 1) (.agg [apS (H.length, 49) 7 (cc.map Coal.row), apS (H.length, 88) 2 (tt.map Touch.row)])) = .pure (.agg [.slice (cc.map Coal.row), .slice (tt.map Touch.row)]) :=
    fun F h1 h2 => cc_agg2 rfl hlt h1 h2
  simp [gleave_free, hk, kept, Fire.row, -clean_agg]
  refine hcc _ (fun h => ?_) (fun h => ?_)
  · simp
    exact apF_self h
  · exact apF_self h
end Go.Gh

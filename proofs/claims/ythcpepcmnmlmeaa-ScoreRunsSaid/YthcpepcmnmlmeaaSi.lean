/- Valid tables: what a deed keeps; deeds one after the other. -/
import Derived.Test.YthcpepcmnmlmeaaSh
namespace Go.Gh
set_option linter.unusedSimpArgs false
set_option linter.unusedVariables false
theorem firstE_ansok : ∀ {a : List Int}, firstE ansE a = 0 → AnsOk a
  | [], _ => fun x hx => by simp at hx
  | y :: r, h => by
    unfold firstE at h
    split at h
    · rename_i e; exact absurd h e
    · rename_i e
      have e : ansE y = 0 := by simpa using e
      intro x hx
      rcases List.mem_cons.1 hx with rfl | hx
      · unfold ansE at e
        split at e
        · rename_i e2; exact inB_iff.1 e2
        · simp at e
      · exact firstE_ansok h x hx
theorem lateOk_get {a : List Int} (h : lateOk a = true) : ∀ k, (hk : k < a.length) → a[k] = -1 := fun k hk => by
  unfold lateOk at h
  have := List.all_eq_true.1 h _ (List.getElem_mem hk)
  simpa using this
theorem chkT_tok {t : Tab} (h : chkT t = 0) : TOk t := by
  have hv := chkT_vd h
  have h1 := hv.pk; have h2 := hv.ps; have h3 := hv.n
  unfold chkT at h
  rw [inB_iff.2 ⟨by omega, by omega⟩, inB_iff.2 ⟨by omega, by omega⟩, if_neg (by simp), if_neg (by simp)] at h
  split at h
  · simp at h
  · rename_i hst
    rw [if_neg (by omega), if_neg (by omega)] at h
    split at h
    · rename_i e; exact absurd h e
    · rename_i hr
      split at h
      · simp at h
      · rename_i hc
        have hst := inB_iff.1 (by simpa using hst : inB t.state 1 4 = true)
        refine ⟨h1, h2, hst, fun h => ?_, h3, fun a ha => ⟨hv.row a ha, ?_⟩⟩
        · have : ¬ t.passed < t.packets := fun h' => hc ⟨h, h'⟩
          omega
        · have hra := rowsE_all (by simpa using hr) a ha
          have hwf : wrF a t.packets = 0 := by
            unfold rowE at hra
            split at hra
            · rename_i e; exact absurd hra e
            · rename_i e; simpa using e
          have hlen := hv.row a ha
          rw [rowE_late hlen hwf h2] at hra
          have hl : lateOk (a.drop t.passed.toNat) = true := by
            split at hra
            · assumption
            · simp at hra
          refine ⟨?_, fun k hk hq => ?_⟩
          · unfold wrF at hwf
            rw [if_neg (by omega)] at hwf
            exact firstE_ansok hwf
          · have := lateOk_get hl (k - t.passed.toNat) (by simp; omega)
            have e : t.passed.toNat + (k - t.passed.toNat) = k := by omega
            simpa [e] using this
theorem TOk.vd {t : Tab} (h : TOk t) : Vd t := ⟨h.pk, h.ps, h.n, fun a ha => (h.row a ha).1⟩
theorem wrE_zero {t : Tab} {d : Deed} (h : wrE t d = 0) : t.state = 1 ∧ (0 ≤ d.guest ∧ d.guest ≤ (t.answers.length : Int) - 1) ∧ (0 ≤ d.packet ∧ d.packet ≤ t.packets - 1) ∧ d.packet < t.passed ∧ (-1 ≤ d.number ∧ d.number ≤ 8) := by
  unfold wrE at h
  split at h
  · simp at h
  · rename_i a
    split at h
    · simp at h
    · rename_i b
      split at h
      · simp at h
      · rename_i c
        split at h
        · simp at h
        · rename_i e
          split at h
          · simp at h
          · rename_i f
            exact ⟨by simpa using a, inB_iff.1 (by simpa using b), inB_iff.1 (by simpa using c), by omega, inB_iff.1 (by simpa using f)⟩
theorem RowOk.set {q : Int} {a : List Int} (h : RowOk q a) {k : Nat} {x : Int} (h1 : -1 ≤ x) (h2 : x ≤ 8) (hk : (k : Int) < q) : RowOk q (a.set k x) := by
  refine ⟨fun y hy => ?_, fun j hj hq => ?_⟩
  · rcases List.mem_or_eq_of_mem_set hy with hy | rfl
    · exact h.1 y hy
    · exact ⟨h1, h2⟩
  · have hj' : j < a.length := by simpa using hj
    rw [List.getElem_set, if_neg (by omega)]
    exact h.2 j hj' hq
theorem RowOk.more {q q' : Int} {a : List Int} (h : RowOk q a) (hq : q ≤ q') : RowOk q' a := ⟨h.1, fun k hk hk' => h.2 k hk (by omega)⟩
theorem wrT_tok {t : Tab} {d : Deed} (h : TOk t) (he : wrE t d = 0) : TOk (wrT t d) := by
  obtain ⟨h1, h2, h3, h4, h5⟩ := wrE_zero he
  refine ⟨h.pk, h.ps, h.st, h.cl, by simpa [wrT] using h.n, fun a ha => ?_⟩
  simp only [wrT] at ha ⊢
  rcases List.mem_or_eq_of_mem_set ha with ha | rfl
  · exact h.row a ha
  · have hg : d.guest.toNat < t.answers.length := by omega
    rw [getD_lt hg]
    have := h.row _ (List.getElem_mem hg)
    exact ⟨by rw [List.length_set]; exact this.1, this.2.set h5.1 h5.2 (by omega)⟩
theorem doT_tok {t : Tab} (h : TOk t) (d : Deed) : TOk (doT t d) := by
  have hps := h.ps
  have hcl := h.cl
  unfold doT
  split
  · exact h
  · rename_i he
    have he : doE t d = 0 := by simpa using he
    unfold doE at he
    unfold doN
    split at he
    · rename_i k
      rw [if_pos k]
      have hs : t.state = 1 := by
        by_cases e : t.state = 1
        · exact e
        · rw [if_pos e] at he; simp at he
      rw [if_neg (by simpa using hs)] at he
      have hp : t.passed ≠ t.packets := fun e => by rw [if_pos e] at he; simp at he
      exact ⟨h.pk, ⟨by simp only; omega, by simp only; omega⟩, h.st, fun h' => by simp only at h'; omega, h.n, fun a ha => ⟨(h.row a ha).1, (h.row a ha).2.more (by simp only; omega)⟩⟩
    · rename_i k1
      rw [if_neg k1]
      split at he
      · rename_i k
        rw [if_pos k]
        exact wrT_tok h he
      · rename_i k2
        rw [if_neg k2]
        split at he
        · rename_i k
          rw [if_pos k]
          exact ⟨h.pk, h.ps, ⟨by simp, by simp⟩, fun h' => by simp at h', h.n, h.row⟩
        · rename_i k3
          rw [if_neg k3]
          split at he
          · rename_i k
            rw [if_pos k]
            exact ⟨h.pk, h.ps, ⟨by simp, by simp⟩, fun h' => by simp at h', h.n, h.row⟩
          · rename_i k4
            rw [if_neg k4]
            split at he
            · rename_i k
              rw [if_pos k]
              have hs : ¬ (t.state = 1 ∧ t.passed < t.packets) := fun e => by rw [if_pos e] at he; simp at he
              rw [if_neg hs] at he
              have hs1 : t.state = 1 := by
                by_cases e : t.state = 1
                · exact e
                · rw [if_pos e] at he; simp at he
              have hlt : ¬ t.passed < t.packets := fun e => hs ⟨hs1, e⟩
              exact ⟨h.pk, h.ps, ⟨by simp, by simp⟩, fun _ => by simp only; omega, h.n, h.row⟩
            · rename_i k5
              rw [if_neg k5]
              split at he
              · have hs3 : t.state = 3 := by
                  by_cases e : t.state = 3
                  · exact e
                  · rw [if_pos e] at he; simp at he
                exact ⟨h.pk, h.ps, ⟨by simp, by simp⟩, fun _ => hcl (by omega), h.n, h.row⟩
              · simp at he
def runT : Tab → List Deed → Tab
  | t, [] => t
  | t, d :: r => runT (doT t d) r
def runE : Tab → List Deed → List Int
  | _, [] => []
  | t, d :: r => doE t d :: runE (doT t d) r
theorem runT_tok : ∀ {t : Tab} (ds : List Deed), TOk t → TOk (runT t ds)
  | t, [], h => h
  | t, d :: r, h => runT_tok r (doT_tok h d)
theorem runE_len : ∀ (t : Tab) (ds : List Deed), (runE t ds).length = ds.length
  | _, [] => rfl
  | t, d :: r => by simp [runE, runE_len _ r]
theorem runT_app : ∀ (t : Tab) (a b : List Deed), runT t (a ++ b) = runT (runT t a) b
  | _, [], _ => rfl
  | t, d :: r, b => by simp only [List.cons_append, runT]; exact runT_app _ r b
theorem runE_app : ∀ (t : Tab) (a b : List Deed), runE t (a ++ b) = runE t a ++ runE (runT t a) b
  | _, [], _ => rfl
  | t, d :: r, b => by simp only [List.cons_append, runE, runT]; rw [runE_app _ r b]
/-- What Run tells. -/
def runV (t : Tab) (ds : List Deed) : Tab × List Int × Int := if chkT t ≠ 0 then (zeroT, [], chkT t) else if 200 < ds.length then (zeroT, [], 8) else (runT t ds, runE t ds, 0)
end Go.Gh


/- Deeds one after the other, by the program. -/
namespace Go.Gh
open Go.Proofs
set_option linter.unusedSimpArgs false
set_option linter.unusedVariables false
set_option linter.unnecessarySimpa false
set_option maxRecDepth 100000
set_option maxHeartbeats 4000000
variable {c : Nat} {H : Heap}
theorem apK_two {key es l bytes : Nat} {rows : List (List PV)} {r : List PV} {f1 f0 fr : Fr} (hl : H.length = l) (hf : fr.get key = none) (hb : (rows.length + 1) * bytes ≤ 1099511627776) :
    apK l key (apS (l, key) es rows) es bytes [r] (f1 :: f0 :: apF key es rows fr :: H) = some (apS (l, key) es (rows ++ [r]), f1 :: f0 :: apF key es (rows ++ [r]) fr :: H) := by
  subst hl
  have n1 : ¬ H.length = H.length + 1 := by omega
  have n2 : ¬ H.length = H.length + 1 + 1 := by omega
  rw [apK_apS (fun h => ?_) (fun h => ?_) (by simp; omega) hb]
  · unfold apF
    by_cases h : rows = []
    · subst h; simp [n1, n2]
    · simp [n1, n2, h, Fr.ins_ins]
  · subst h; simp [n1, n2, apF_nil, hf]
  · simp [n1, n2, apF_self h]
theorem tell_ok {f0 fr : Fr} {es : List Int} (e : Int) (h6 : fr.get 6 = none) (h9 : fr.get 9 = some (.box [apS (H.length, 6) 1 (es.map irow)])) (hb : es.length ≤ 1000000) :
    gcall KC (geval KC) 88 [.pure (.int .i64 e), .bptr (H.length, 9) 0] c (f0 :: apF 6 1 (es.map irow) fr :: H) =
      some (.pure (.tuple []), f0 :: apF 6 1 ((es ++ [e]).map irow) (fr.ins 9 (.box [apS (H.length, 6) 1 ((es ++ [e]).map irow)])) :: H) := by
  refine WPv_eq (call_enter KC needT Try.func88 rfl rfl good88 rfl rfl rfl (by simp) (by simp) ?_)
  have hbb : (es.length + 1) * 8 ≤ 1099511627776 := by omega
  have A := apK_two (H := H) (key := 6) (es := 1) (l := H.length) (bytes := 8) (rows := es.map irow) (r := irow e) (f1 := []) (f0 := f0) (fr := fr) rfl h6 (by simpa using hbb)
  simp only [irow] at A
  simp [h9, A, irow, gleave_free]
/-- The frame of Run. -/
def rFr (L : Nat) (t0 t : Tab) (es : List Int) : Fr := apF 6 1 (es.map irow) [(2, tb t0), (4, zb64), (9, .box [apS (L, 6) 1 (es.map irow)]), (32793, wBox L 315417 t), (315417, wMat t)]
theorem isW_rFr {f0 : Fr} {t0 t : Tab} {es : List Int} : isW (f0 :: rFr H.length t0 t es :: H) H.length 32793 315417 t :=
  ⟨by simp [rFr], by simp [rFr], by simp [rFr], by simp [rFr], by decide, by simp; omega⟩
theorem wSet_rFr {f0 : Fr} {t0 t t' : Tab} {es : List Int} : wSet (f0 :: rFr H.length t0 t es :: H) H.length 32793 315417 t' = f0 :: rFr H.length t0 t' es :: H := by
  simp [wSet, rFr]
theorem tell_rFr {f0 : Fr} {t0 t : Tab} {es : List Int} (e : Int) (hb : es.length ≤ 1000000) : gcall KC (geval KC) 88 [.pure (.int .i64 e), .bptr (H.length, 9) 0] c (f0 :: rFr H.length t0 t es :: H) = some (.pure (.tuple []), f0 :: rFr H.length t0 t (es ++ [e]) :: H) := by
  have := tell_ok (c := c) (H := H) (f0 := f0) (fr := [(2, tb t0), (4, zb64), (9, .box [apS (H.length, 6) 1 (es.map irow)]), (32793, wBox H.length 315417 t), (315417, wMat t)]) (es := es) e (by simp) (by simp) hb
  unfold rFr
  rw [this]
  simp
theorem runs_loop (t0 : Tab) (h0 : TOk t0) (ds : List Deed) (hn : ds.length ≤ 1000) (Q : GX → GSt → Prop)
    (hQ : Q (.exit 0) ⟨[(4, .bptr (H.length, 4) 0), (8, .bptr (H.length, 32793) 0), (9, .bptr (H.length, 9) 0)], rFr H.length t0 (runT t0 ds) (runE t0 ds) :: H, 43⟩) : ∀ k i : Nat, i + k = ds.length →
    WPL KC needT 48 (lp Try.f48 0) [4, 8, 9, 10, 26, 27, 28] [4, 8, 9] Q [(4, .bptr (H.length, 4) 0), (8, .bptr (H.length, 32793) 0), (9, .bptr (H.length, 9) 0), (10, .func 88 [] [.bptr (H.length, 9) 0]), (26, .pure (.slice (ds.map Deed.row))), (27, .pure (.int .i64 ds.length)), (28, .pure (.int .i64 (i : Nat)))]
      (rFr H.length t0 (runT t0 (ds.take i)) (runE t0 (ds.take i)) :: H) 43 := by
  intro k
  induction k with
  | zero =>
    intro i hi
    rw [List.take_of_length_le (show ds.length ≤ i by omega)]
    apply WPL_step
    conv => arg 4; whnf
    have : ¬ i < ds.length := by omega
    simp [this]
    exact hQ
  | succ k ih =>
    intro i hi
    have hia : i < ds.length := by omega
    have hw := w64 (x := (i : Int) + 1) (by omega) (by omega)
    have ih' := ih (i + 1) (by omega)
    obtain ⟨d, hd⟩ : ∃ d, ds[i] = d := ⟨_, rfl⟩
    have htk : ds.take (i + 1) = ds.take i ++ [d] := by rw [List.take_succ_eq_append_getElem hia, hd]
    rw [htk, runT_app, runE_app] at ih'
    have hV := (runT_tok (ds.take i) h0).vd
    have hel : (runE t0 (ds.take i)).length ≤ 1000000 := by rw [runE_len]; simp; omega
    generalize hT : runT t0 (ds.take i) = t at *
    generalize hE : runE t0 (ds.take i) = es at *
    simp only [runT, runE] at ih'
    have D := fun c (f0 : Fr) => do_ok (c := c) (isW_rFr (H := H) (f0 := f0) (t0 := t0) (t := t) (es := es)) d hV (by simp)
    simp only [wSet_rFr, Deed.row] at D
    have T := fun c (f0 : Fr) (t' : Tab) (e : Int) => tell_rFr (c := c) (H := H) (f0 := f0) (t0 := t0) (t := t') (es := es) e hel
    apply WPL_step
    conv => arg 4; whnf
    simp [hia, hd, Deed.row, D, T, hw]
    simpa [Deed.row] using ih'
end Go.Gh


/- score.Run, the whole. -/
namespace Go.Gh
open Go.Proofs
set_option linter.unusedSimpArgs false
set_option linter.unusedVariables false
set_option linter.unnecessarySimpa false
set_option maxRecDepth 100000
set_option maxHeartbeats 4000000
variable {c : Nat} {H : Heap}
def runTup (t : Tab) (ds : List Deed) : GV := .pure (.tuple [.agg (runV t ds).1.row, .slice ((runV t ds).2.1.map irow), .int .i64 (runV t ds).2.2])
theorem Run_ok0 (t : Tab) (hs : Sm t) (ds : List Deed) (hn : ds.length ≤ 1000000) (hH : 0 < H.length) : gcall0 KC (geval KC) 48 [.pure (.agg t.row), .pure (.slice (ds.map Deed.row))] c H = some (runTup t ds, H) := by
  refine WPv_eq (call_enter0 KC needT Try.func48 rfl rfl good48 (by simp) hH ?_)
  have C := fun c (H : Heap) (hH : 0 < H.length) => chkT_ok (c := c) (H := H) t hs hH
  simp only [Tab.row] at C
  unfold runTup runV
  by_cases h1 : chkT t = 0
  · by_cases h2 : 200 < ds.length
    · have h2' : (200 : Int) < ds.length := by omega
      simp [h1, h2, h2', Tab.row, C, zeroT, gleave_free]
    have h2' : ¬ (200 : Int) < ds.length := by omega
    have hT := chkT_tok h1
    have hV := hT.vd
    have W := fun F => workOf_ok (c := 24) (H := F :: H) t hs hV.ne hV.ne' (by simp)
    have k1 : newKey 24 8 = 32793 := by decide
    have k2 : newKey 24 77 = 315417 := by decide
    simp only [k1, k2] at W
    have W2 := W [(2, tb t), (4, zb64)] (by simp) (by simp)
    simp [tb, Tab.row, zb64] at W2
    have L := fun Q hQ => runs_loop (H := H) t hT ds (by omega) Q hQ ds.length 0 (by omega)
    simp [rFr, tb, zb64, apF_nil, apS_nil, runT, runE] at L
    simp [h1, h2, h2', Tab.row, C, W2, zb64]
    refine L _ ?_
    generalize hR : runT t ds = r
    generalize hE : runE t ds = es
    have hnl : ¬ H.length ≤ H.length - 1 := by omega
    have hcm : ((fun r => [PV.slice r]) ∘ mrow) = arow := rfl
    have htk : (r.answers.map arow).take r.answers.length = r.answers.map arow := List.take_of_length_le (by simp)
    simp [wBox, wMat]
    rw [gleave_free]
    · rw [WPv_some, clean_tuple]
      simp only [List.map_cons, List.map_nil, clean2_agg, clean2_pure, clean2_apS, clean1_pure]
      rw [clean1_apS rfl (by omega) (fun hne => apF_self hne)]
      by_cases he : es = []
      · subst he
        simp [hnl, hcm, htk, apF_nil]
      · have he' : es.map irow ≠ [] := by simpa using he
        rw [if_neg he']
        simp [hnl, hcm, htk]
    · simp
  · have h1' : (chkT t != 0) = true := by simpa using h1
    simp [h1, h1', Tab.row, C, zeroT, gleave_free]
end Go.Gh


/- Deeds one after the other, by the reference. -/
namespace Go.Gh
open Go.Proofs
set_option linter.unusedSimpArgs false
set_option linter.unusedVariables false
set_option linter.unnecessarySimpa false
set_option maxRecDepth 100000
set_option maxHeartbeats 4000000
variable {c : Nat} {H : Heap}
def qFr (L : Nat) (t : Tab) (es : List Int) : Fr := apF 43 1 (es.map irow) [(2, tb t), (4, zb64)]
theorem runR_loop (t0 : Tab) (h0 : TOk t0) (ds : List Deed) (hn : ds.length ≤ 1000) (Q : GX → GSt → Prop)
    (hQ : Q (.exit 0) ⟨[(2, .bptr (H.length, 2) 0), (4, .bptr (H.length, 4) 0), (8, apS (H.length, 43) 1 ((runE t0 ds).map irow))], qFr H.length (runT t0 ds) (runE t0 ds) :: H, 47⟩) : ∀ k i : Nat, i + k = ds.length →
    WPL KC needT 50 (lp Try.f50 0) [1, 2, 4, 8, 9] [2, 4, 8] Q [(1, .pure (.slice (ds.map Deed.row))), (2, .bptr (H.length, 2) 0), (4, .bptr (H.length, 4) 0), (8, apS (H.length, 43) 1 ((runE t0 (ds.take i)).map irow)), (9, .pure (.int .i64 (i : Nat)))]
      (qFr H.length (runT t0 (ds.take i)) (runE t0 (ds.take i)) :: H) 47 := by
  intro k
  induction k with
  | zero =>
    intro i hi
    rw [List.take_of_length_le (show ds.length ≤ i by omega)]
    apply WPL_step
    conv => arg 4; whnf
    have : ¬ i < ds.length := by omega
    simp [this]
    exact hQ
  | succ k ih =>
    intro i hi
    have hia : i < ds.length := by omega
    have hw := w64 (x := (i : Int) + 1) (by omega) (by omega)
    have ih' := ih (i + 1) (by omega)
    obtain ⟨d, hd⟩ : ∃ d, ds[i] = d := ⟨_, rfl⟩
    have htk : ds.take (i + 1) = ds.take i ++ [d] := by rw [List.take_succ_eq_append_getElem hia, hd]
    rw [htk, runT_app, runE_app] at ih'
    have hT' := runT_tok (ds.take i) h0
    have hel : (runE t0 (ds.take i)).length ≤ 1000000 := by rw [runE_len]; simp; omega
    generalize hT : runT t0 (ds.take i) = t at *
    generalize hE : runE t0 (ds.take i) = es at *
    simp only [runT, runE] at ih'
    have hbb : (es.length + 1) * 8 ≤ 1099511627776 := by omega
    have D := fun c (H : Heap) (hH : 0 < H.length) => DoR_ok (c := c) (H := H) t d hT'.sm hH
    unfold DoV at D
    simp only [hT'.chk, ne_eq, not_true_eq_false, if_false] at D
    have A := fun f0 fr (hf : Fr.get fr 43 = none) e => apK_1 (H := H) (l := H.length) (key := 43) (es := 1) (bytes := 8) (rows := es.map irow) (r := irow e) (fr := fr) (f0 := f0) rfl hf (by simpa using hbb)
    simp only [irow] at A
    apply WPL_step
    conv => arg 4; whnf
    by_cases he : doE t d = 0
    · simp only [he, not_true_eq_false, if_false, Tab.row, Deed.row] at D
      have e2 : doT t d = doN t d := by unfold doT; rw [if_neg (not_not_intro he)]
      rw [e2, he] at ih'
      simp [qFr, tb, hia, hd, Deed.row, D, A, hw]
      simpa [qFr, tb, irow, Deed.row] using ih'
    · simp only [he, not_false_eq_true, if_true, Tab.row, Deed.row] at D
      have e2 : doT t d = t := by unfold doT; rw [if_pos he]
      rw [e2] at ih'
      have he' : (doE t d == 0) = false := by simpa using he
      simp [qFr, tb, hia, hd, Deed.row, D, he', A, hw]
      simpa [qFr, tb, irow, Deed.row] using ih'
theorem RunR_ok0 (t : Tab) (hs : Sm t) (ds : List Deed) (hn : ds.length ≤ 1000000) (hH : 0 < H.length) : gcall0 KC (geval KC) 50 [.pure (.agg t.row), .pure (.slice (ds.map Deed.row))] c H = some (runTup t ds, H) := by
  refine WPv_eq (call_enter0 KC needT Try.func50 rfl rfl good50 (by simp) hH ?_)
  have C := fun c (H : Heap) (hH : 0 < H.length) => chkTR_ok (c := c) (H := H) t hs hH
  simp only [Tab.row] at C
  unfold runTup runV
  by_cases h1 : chkT t = 0
  · by_cases h2 : 200 < ds.length
    · have h2' : (200 : Int) < ds.length := by omega
      simp [h1, h2, h2', Tab.row, C, zeroT, gleave_free]
    have h2' : ¬ (200 : Int) < ds.length := by omega
    have hT := chkT_tok h1
    have L := fun Q hQ => runR_loop (H := H) t hT ds (by omega) Q hQ ds.length 0 (by omega)
    simp [qFr, tb, zb64, apF_nil, apS_nil, runT, runE] at L
    simp [h1, h2, h2', Tab.row, C, zb64]
    refine L _ ?_
    have hR' := (runT_tok ds hT).vd
    have hRs := (runT_tok ds hT).sm
    generalize hR : runT t ds = r at *
    generalize hE : runE t ds = es
    have k1 : newKey 45 77 = 315438 := by decide
    have O := fun F => ownR_ok (c := 45) (H := F :: H) r hRs hR'.ne hR'.ne' (by simp)
    simp only [k1] at O
    have O2 := O (apF 43 1 (es.map irow) [(2, tb r), (4, zb64)]) (by simp)
    simp [tb, Tab.row, zb64, wMat] at O2
    have hnl : ¬ H.length ≤ H.length - 1 := by omega
    have hcm : ((fun r => [PV.slice r]) ∘ mrow) = arow := rfl
    have htk : (r.answers.map arow).take r.answers.length = r.answers.map arow := List.take_of_length_le (by simp)
    simp [O2]
    rw [gleave_free]
    · rw [WPv_some, clean_tuple]
      simp only [List.map_cons, List.map_nil, clean2_agg, clean2_pure, clean2_apS, clean1_pure]
      rw [clean1_apS rfl (by omega) (fun hne => apF_self hne)]
      by_cases he : es = []
      · subst he
        simp [hnl, hcm, htk, apF_nil]
      · have he' : es.map irow ≠ [] := by simpa using he
        rw [if_neg he']
        simp [hnl, hcm, htk]
    · simp
  · have h1' : (chkT t != 0) = true := by simpa using h1
    simp [h1, h1', Tab.row, C, zeroT, gleave_free]
end Go.Gh


/- Run on deeds that lie in a block; deeds without errors. -/
namespace Go.Gh
open Go.Proofs
set_option linter.unusedSimpArgs false
set_option linter.unusedVariables false
set_option linter.unnecessarySimpa false
set_option maxRecDepth 100000
set_option maxHeartbeats 4000000
variable {c : Nat} {H : Heap}
theorem Run_p (t : Tab) (hs : Sm t) (ds : List Deed) (hn : ds.length ≤ 1000000) (hH : 0 < H.length) : gcall KC (geval KC) 48 [.pure (.agg t.row), .pure (.slice (ds.map Deed.row))] c H = some (runTup t ds, H) := by
  rw [gcall_frz' rfl rfl rfl]
  exact Run_ok0 t hs ds hn hH
theorem RunR_p (t : Tab) (hs : Sm t) (ds : List Deed) (hn : ds.length ≤ 1000000) (hH : 0 < H.length) : gcall KC (geval KC) 50 [.pure (.agg t.row), .pure (.slice (ds.map Deed.row))] c H = some (runTup t ds, H) := by
  rw [gcall_frz' rfl rfl rfl]
  exact RunR_ok0 t hs ds hn hH
end Go.Gh


/- Lists of errors that are equal; results of tables. -/
namespace Go.Gh
open Go.Proofs
set_option linter.unusedSimpArgs false
set_option linter.unusedVariables false
set_option linter.unnecessarySimpa false
set_option maxRecDepth 100000
set_option maxHeartbeats 4000000
variable {c : Nat} {H : Heap}
theorem eqE_loop (l : List Int) (hn : l.length ≤ 1000000) (Q : GX → GSt → Prop) (hH : 0 < H.length) : ∀ k i : Nat, i + k = l.length →
    Q (.exit 0) ⟨[(4, gdead)], H, 26⟩ →
    WPL KC needT 51 (lp Try.f51 0) [0, 1, 5] [4] Q [(0, .pure (.slice (l.map irow))), (1, .pure (.slice (l.map irow))), (5, .pure (.int .i64 i))] H 26 := by
  intro k
  induction k with
  | zero =>
    intro i hi h1
    apply WPL_step
    conv => arg 4; whnf
    have : ¬ i < l.length := by omega
    simp [this, hH]
    exact h1
  | succ k ih =>
    intro i hi h1
    have hia : i < l.length := by omega
    have hw := w64 (x := (i : Int) + 1) (by omega) (by omega)
    have ih' := ih (i + 1) (by omega) h1
    apply WPL_step
    conv => arg 4; whnf
    simp [hia, hH, irow, hw]
    simpa [irow] using ih'
theorem eqE_ok (l : List Int) (hn : l.length ≤ 1000000) (hH : 0 < H.length) :
    gcall KC (geval KC) 51 [.pure (.slice (l.map irow)), .pure (.slice (l.map irow))] c H = some (.pure (.bool true), H) := by
  refine WPv_eq (call_enter KC needT Try.func51 rfl rfl good51 rfl rfl rfl (by simp) hH ?_)
  simp
  refine eqE_loop (H := [] :: H) l hn _ (by simp) l.length 0 (by omega) ?_
  simp [gleave_free]
/-- What Result tells. -/
def resT (s : Scoring) (p : List Int) (t : Tab) : List PV :=
  if chkS s ≠ 0 then [.slice [], .slice [], .int .i64 (chkS s)] else if chkP p ≠ 0 then [.slice [], .slice [], .int .i64 (chkP p)] else if chkT t ≠ 0 then [.slice [], .slice [], .int .i64 (chkT t)]
  else if (p.length : Int) ≠ t.packets then [.slice [], .slice [], .int .i64 3] else if t.state ≠ 4 then [.slice [], .slice [], .int .i64 10] else rankT s p t.answers
theorem resT_three (s : Scoring) (p : List Int) (t : Tab) (hA : t.answers.length ≤ 1000000) : ∃ (L : List Score) (P : List Int) (e : Int), L.length ≤ 1000000 ∧ P.length ≤ 1000000 ∧ resT s p t = [.slice (L.map Score.row), .slice (P.map irow), .int .i64 e] := by
  unfold resT
  repeat' split
  all_goals first | exact ⟨[], [], _, by simp, by simp, rfl⟩ | exact rankT_three s p t.answers hA
theorem Res_ok (s : Scoring) (hs : s.keys.length ≤ 1000000) (p : List Int) (hp : p.length ≤ 1000000) (t : Tab) (ht : Sm t) (hH : 0 < H.length) :
    gcall KC (geval KC) 52 [.pure (.agg s.row), .pure (.slice (p.map irow)), .pure (.agg t.row)] c H = some (.pure (.tuple (resT s p t)), H) := by
  refine WPv_eq (call_enter KC needT Try.func52 rfl rfl good52 rfl rfl rfl (by simp) hH ?_)
  have C1 := fun c (H : Heap) (hH : 0 < H.length) => chkS_ok (c := c) (H := H) s hs hH
  have C2 := fun c (H : Heap) (hH : 0 < H.length) => chk_ok (c := c) (H := H) p hp hH
  have C3 := fun c (H : Heap) (hH : 0 < H.length) => chkT_ok (c := c) (H := H) t ht hH
  have R := fun c (H : Heap) (hH : 0 < H.length) => Rank_p (c := c) (H := H) s hs p hp t.answers ht.2 ht.1 hH
  obtain ⟨L, P, e, _, _, hr⟩ := rankT_three s p t.answers ht.1
  rw [hr] at R
  unfold resT
  rw [hr]
  generalize chkS s = a at *
  generalize chkP p = b at *
  generalize chkT t = d at *
  rw [rowS] at *
  simp only [Tab.row] at C3
  by_cases h1 : a = 0
  · by_cases h2 : b = 0
    · by_cases h3 : d = 0
      · by_cases h4 : (p.length : Int) = t.packets
        · by_cases h5 : t.state = 4
          · have h4' : ((p.length : Int) != t.packets) = false := by simpa using h4
            have h5' : (t.state != 4) = false := by simpa using h5
            simp [Tab.row, C1, C2, C3, R, h1, h2, h3, h4', h5', gleave_free]
            rw [if_pos h4, if_pos h5]
          · have h4' : ((p.length : Int) != t.packets) = false := by simpa using h4
            have h5' : (t.state != 4) = true := by simpa using h5
            simp [Tab.row, C1, C2, C3, h1, h2, h3, h4', h5', gleave_free]
            rw [if_pos h4, if_neg h5]
        · have h4' : ((p.length : Int) != t.packets) = true := by simpa using h4
          simp [Tab.row, C1, C2, C3, h1, h2, h3, h4', gleave_free]
          exact fun h => absurd h h4
      · have h3' : (d != 0) = true := by simpa using h3
        simp [Tab.row, C1, C2, C3, h1, h2, h3, h3', gleave_free]
    · have h2' : (b != 0) = true := by simpa using h2
      simp [Tab.row, C1, C2, h1, h2, h2', gleave_free]
  · have h1' : (a != 0) = true := by simpa using h1
    simp [Tab.row, C1, h1, h1', gleave_free]
theorem ResR_ok (s : Scoring) (hs : s.keys.length ≤ 1000000) (p : List Int) (hp : p.length ≤ 1000000) (t : Tab) (ht : Sm t) (hH : 0 < H.length) :
    gcall KC (geval KC) 53 [.pure (.agg s.row), .pure (.slice (p.map irow)), .pure (.agg t.row)] c H = some (.pure (.tuple (resT s p t)), H) := by
  refine WPv_eq (call_enter KC needT Try.func53 rfl rfl good53 rfl rfl rfl (by simp) hH ?_)
  have C1 := fun c (H : Heap) (hH : 0 < H.length) => chkSR_ok (c := c) (H := H) s hs hH
  have C2 := fun c (H : Heap) (hH : 0 < H.length) => chkR_ok (c := c) (H := H) p hp hH
  have C3 := fun c (H : Heap) (hH : 0 < H.length) => chkTR_ok (c := c) (H := H) t ht hH
  have R := fun c (H : Heap) (hH : 0 < H.length) => RankR_p (c := c) (H := H) s hs p hp t.answers ht.2 ht.1 hH
  obtain ⟨L, P, e, _, _, hr⟩ := rankT_three s p t.answers ht.1
  rw [hr] at R
  unfold resT
  rw [hr]
  generalize chkS s = a at *
  generalize chkP p = b at *
  generalize chkT t = d at *
  rw [rowS] at *
  simp only [Tab.row] at C3
  by_cases h1 : a = 0
  · by_cases h2 : b = 0
    · by_cases h3 : d = 0
      · by_cases h4 : (p.length : Int) = t.packets
        · by_cases h5 : t.state = 4
          · have h4' : ((p.length : Int) != t.packets) = false := by simpa using h4
            have h5' : (t.state != 4) = false := by simpa using h5
            simp [Tab.row, C1, C2, C3, R, h1, h2, h3, h4', h5', gleave_free]
            rw [if_pos h4, if_pos h5]
          · have h4' : ((p.length : Int) != t.packets) = false := by simpa using h4
            have h5' : (t.state != 4) = true := by simpa using h5
            simp [Tab.row, C1, C2, C3, h1, h2, h3, h4', h5', gleave_free]
            rw [if_pos h4, if_neg h5]
        · have h4' : ((p.length : Int) != t.packets) = true := by simpa using h4
          simp [Tab.row, C1, C2, C3, h1, h2, h3, h4', gleave_free]
          exact fun h => absurd h h4
      · have h3' : (d != 0) = true := by simpa using h3
        simp [Tab.row, C1, C2, C3, h1, h2, h3, h3', gleave_free]
    · have h2' : (b != 0) = true := by simpa using h2
      simp [Tab.row, C1, C2, h1, h2, h2', gleave_free]
  · have h1' : (a != 0) = true := by simpa using h1
    simp [Tab.row, C1, h1, h1', gleave_free]
end Go.Gh

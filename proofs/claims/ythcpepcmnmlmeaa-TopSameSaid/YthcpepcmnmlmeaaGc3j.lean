/- Texts joined: the evaluator over ghost values, its soundness, the walks. Spaces struck and names made short by a program, for the size. -/
import Derived.Test.YthcpepcmnmlmeaaGc3i
import Derived.Test.YthcpepcmnmlmeaaGc3e
import Derived.ProofKit
import Derived.OpenShut
import Derived.ChangeOld
import Derived.Below
import Derived.Carry
import Derived.Handed
import Derived.Stop.Joined
import Derived.Shelf.Vars
import Derived.Lib.LaidTab
import Derived.LaidMore
import Derived.Test.YthcpepcmnmlmeaaGc3b
import Derived.ChangeKeysEq
import Derived.Test.YthcpepcmnmlmeaaGc3f
import Derived.Test.YthcpepcmnmlmeaaProg
import Derived.Test.YthcpepcmnmlmeaaGc3g
namespace Go.Gh
open Go.Proofs
set_option linter.unusedVariables false
set_option linter.unusedSimpArgs false
set_option linter.unnecessarySimpa false
set_option maxRecDepth 100000
set_option maxHeartbeats 8000000
theorem scored_ok {c : Nat} {H : Heap} (hH : 0 < H.length) : gcall KC (geval KC) 22 [] c H = some (.pure (.bool true), H) := by
 refine (gcall_ext KC (e := extTold [([], .bool true)]) (by kernel_rfl) (by rfl) hH).trans ?_
 rfl
theorem law3 (nums : List Int) (hnums : nums.length ≤ 9223372036854775807) :
  ∃ H', gcall KC (geval KC) 3 [.pure (.slice (nums.map irow))] 0 [[]] = some (.pure (.bool true), H') := by
 suffices hs : WPv (gcall KC (geval KC) 3 [.pure (.slice (nums.map irow))] 0 [[]]) (fun x => x.1 = .pure (.bool true)) by
  obtain ⟨⟨v, H'⟩, h1, rfl⟩ := hs
  exact ⟨H', h1⟩
 refine call_enter KC needT Try.func3 rfl rfl good3 rfl rfl rfl (by simp) (by simp) ?_
 obtain ⟨w, eB⟩ := BoxOf_ok (c := 21) (H := [[], []]) nums hnums (by simp) (by simp [newKey]) (by decide)
 have k8 : newKey 21 6 = 24598 := by decide
 simp [k8] at eB
 obtain ⟨ws, ds, w1, hG, hwl, hcc, eG⟩ := game_ok0 (c := 23) (H := [[(24598, wbox 0)], []]) (nm := (1, 24598)) (most := 4) (dr := 5) (ce := 6) (by omega) (by omega) (by omega) (by omega) (by omega) (by omega) (by simp) w
 obtain ⟨s, w2, hS, eS⟩ := scoring_ok (c := 25) (H := [[(4, gbox ws ds), (24598, wbox w1)], []]) (nm := (1, 24598)) ⟨_, rfl, rfl⟩
 have hcd : ∀ d ∈ ds, 0 ≤ d.count ∧ d.count ≤ 12 := fun d hd => ⟨(hG.DR d hd).c0, (hG.DR d hd).c12⟩
 obtain ⟨ps, w3, hps, eP⟩ := picks_ok (c := 30) (H := [[(4, gbox ws ds), (5, .box (s.row.map .pure)), (24598, wbox 0)], []]) (nm := (1, 24598)) (ws := ws.map Wood.row) hG.l hcd hG.acts (by simp) w2
 obtain ⟨qs, w4, hqs, eQ⟩ := picks_ok (c := 38) (H := [[(4, gbox ws ds), (5, .box (s.row.map .pure)), (24598, wbox 0)], []]) (nm := (1, 24598)) (ws := ws.map Wood.row) hG.l hcd hG.acts (by simp) w3
 obtain ⟨co, hcl, hcn, eC⟩ := play_ok (c := 31) (H := [[(4, gbox ws ds), (5, .box (s.row.map .pure)), (24598, wbox w3)], []]) hG hG.DR hG.acts hps (by simp)
 obtain ⟨ot, hol, hon, eO⟩ := play_ok (c := 39) (H := [[(4, gbox ws ds), (5, .box (s.row.map .pure)), (24598, wbox w4)], []]) hG hG.DR hG.acts hqs (by simp)
 have h9 := hG.cens
 have D1 := fun c (H : Heap) (hH : 0 < H.length) => Due_ok (c := c) (H := H) hG hcl hcn hH
 have D2 := fun c (H : Heap) (hH : 0 < H.length) => Due_ok (c := c) (H := H) hG hol hon hH
 have hw6 : ws.length ≤ 4 := hwl
 have hco0 : co ≠ [] := fun e => by rw [e] at hcn; simp at hcn; omega
 have hot0 : ot ≠ [] := fun e => by rw [e] at hon; simp at hon; omega
 have hP := numL_part hco0 (by omega)
 have hP2 := numL_part hot0 (by omega)
 have hp2l : (numL ot []).length = ot.length := numL_len _ _
 have hpl : (numL co []).length = co.length := numL_len _ _
 have hac : AnsOk co := fun x hx => by have := hcl x hx; omega
 have hao : AnsOk ot := fun x hx => by have := hol x hx; omega
 have hks : s.keys.length ≤ 1000000 := by have := hS.len; omega
 have hlo : ot.length = (numL co []).length := by omega
 have e1 := mark_same s (a := co) (p := numL co []) hpl.symm (fun x hx => (hcl x hx).1) rfl
 have hfs := fun h => found_same (s := s) hP hao hlo h
 have hsm := fun h => mark_same s (a := ot) (p := numL co []) hlo (fun x hx => (hol x hx).1) h
 have hb := best_of hS hP hao hlo
 have ew := hb.wh
 have eh := hb.ho
 generalize hpp : numL co [] = p at *
 generalize hqq : numL ot [] = q at *
 have hap : AnsOk p := fun x hx => by have := hP.rng x hx; have := hP.le; omega
 have M1 := fun c (H : Heap) (hH : 0 < H.length) => Mark_ok (c := c) (H := H) s p p hks (by omega) (by omega) hH
 have M2 := fun c (H : Heap) (hH : 0 < H.length) => Mark_ok (c := c) (H := H) s p co hks (by omega) (by omega) hH
 have M3 := fun c (H : Heap) (hH : 0 < H.length) => Mark_ok (c := c) (H := H) s p ot hks (by omega) (by omega) hH
 rw [markT_good hS.chk hP (hap.wr rfl)] at M1
 rw [markT_good hS.chk hP (hac.wr (by omega)), ← e1] at M2
 rw [markT_good hS.chk hP (hao.wr (by omega))] at M3
 have E1 := fun c (H : Heap) (hH : 0 < H.length) => eqD_ok (c := c) (H := H) p q (by omega) (by omega) hH
 have hz : ((markF s p ot).whole = 1 ↔ p = q) ∧ ((markF s p ot).honour = 3 ↔ (markF s p ot).whole = 1) := by
  have back : q = p → markF s p ot = markF s p p := fun e => (hsm e).symm
  refine ⟨⟨fun h => (hfs (.inl h)).1.symm, fun e => by rw [back e.symm]; exact ew⟩, fun h => ?_, fun h => ?_⟩
  ·rw [(hfs (.inr h)).2.2]; exact ew
  ·rw [(hfs (.inl h)).2.2]; exact eh
 rw [rowS] at *
 rw [rowX] at M1 M2 M3
 unfold gbox at eS eP eQ eC eO
 simp at eG eS eP eQ eC eO
 clear hb hfs hsm e1
 generalize markF s p p = y at *
 generalize markF s p ot = x at *
 obtain ⟨y0, y1, y2, y3, y4, y5, y6, y7⟩ := y
 obtain ⟨x0, x1, x2, x3, x4, x5, x6, x7⟩ := x
 simp only at M1 M2 M3 ew eh hz
 subst ew eh
 obtain ⟨z1, z2⟩ := hz
 by_cases g : p = q
 ·have g1 := z1.2 g
  have g2 := z2.2 g1
  subst g1 g2
  subst g
  simp [eB, eG, eS, eP, eQ, eC, eO, D1, D2, M1, M2, M3, E1, scored_ok, gleave_free]
 ·have g1 : ¬ x5 = 1 := fun h => g (z1.1 h)
  have g2 : ¬ x7 = 3 := fun h => g1 (z2.1 h)
  have g3 : (x7 == 3) = false := by simpa using g2
  have g4 : (x5 == 1) = false := by simpa using g1
  simp [eB, eG, eS, eP, eQ, eC, eO, D1, D2, M1, M2, M3, E1, g, g1, g2, g3, g4, scored_ok, gleave_free]
section
theorem equalIn_nilnil (P : Program) (w : World) (d : Nat) {t e : TypeId} {b : Option Addr} {len cap : Nat} (hu : P.underlying t = some (.slice e)) : (Op.equalIn (d + 1) t (.slice b len cap) (.slice none 0 0)).run P w = .ok b.isNone w := by
 cases b <;> simp [Op.equalIn, r_underlying w hu]
theorem eql_nil' (P : Program) (w : World) {t e : TypeId} {b : Option Addr} {len cap : Nat} (hu : P.underlying t = some (.slice e)) : (binOp .eql t (.slice b len cap) (.slice none 0 0)).run P w = .ok (.bool b.isNone) w := by
 have := equalIn_nilnil P w 9999 (b := b) (len := len) (cap := cap) hu
 simp only [binOp]
 simp only [Op.equal, Op.maxDepth, Sem.run_bind, this, Result.andThen_ok, Sem.run_pure]
section
variable {w : World}
theorem clone_ok (K : Ctx) (hK : CtxOk K) {n id : Nat} {f : FuncId} {g : Func} {A X D : Code} {t0 t1 t2 : TypeId} {p3 p4 : String} {a3 a4 : Array Edge} {t t' e : TypeId} {st1 stX stD : GSt}
  (hf : K.P.funcs[f]? = some g)
  (hb : g.body = some (.seq A (.seq (.seq (.region id #[⟨some 3, .move (.tmp 0), t0, p3, a3, none⟩, ⟨some 4, .binOp .eql t (.tmp 3) (.const (.slice none 0 0)) t', t1, p4, a4, none⟩] false) (.cond (.tmp 4) X .skip)) D)))
  (hname : (g.name == "runtime.NumGoroutine") = false) (hnt : g.ntmps = 8) (ht : K.P.underlying t = some (.slice e))
  (hA : gexec K n f A ⟨[(0, .pure (.slice []))], [[], []], 8⟩ = some (.normal, st1)) (h0 : look st1.s 0 = .pure (.slice []))
  (hX : gexec K n f X ⟨(4, .pure (.bool true)) :: (3, .pure (.slice [])) :: st1.s, st1.h, 8⟩ = some (.ret, stX)) (hD : gexec K n f D ⟨(4, .pure (.bool false)) :: (3, .pure (.slice [])) :: st1.s, st1.h, 8⟩ = some (.ret, stD))
  (rX : gresults K g stX = some [.nils]) (rD : gresults K g stD = some [.nils]) : CloneOk K.P f := by
 intro w av cap hGl
 have hS : HRel w (fun b => b < w.heap.size) (fun _ _ => none) ([[], []] : Heap) := ⟨fun nm x hx t b hb => by simp at hb, fun nm t b hb => by simp at hb, fun nm nm' t t' b h1 h2 => by simp at h1, fun nm t b hb => by simp at hb, fun b hb => hb, hGl⟩
 have hst : StOk w.heap.size none w (fun b => b < w.heap.size) (fun _ _ => none) ⟨[(0, .pure (.slice []))], [[], []], 8⟩ { tmps := #[.slice av 0 cap] ++ Array.replicate 7 undef, defers := [] } := by
  refine ⟨hS, fun q => ?_, by simp, by simp, Nat.le_refl _, ⟨fun d hd => by simp at hd, .nil⟩, fun l hl => by cases hl⟩
  rw [args_getD]
  simp only [look]
  split
  ·rename_i e; subst e
   exact .pure _ _ (.slice0 _ _)
  ·exact vdead _
 refine ⟨by simp only [callFunc, Sem.run_bind, run_program, Result.andThen, hf, hname, hb]; rfl, ?_⟩
 have fin : ∀ (st : GSt), gresults K g st = some [.nils] → ∀ (e' : Exit) (a' : Act) (w' : World), Post w.heap.size none ⟨[(0, .pure (.slice []))], [[], []], 8⟩ w (fun b => b < w.heap.size) (fun _ _ => none) .ret st e' a' w' →
   e' = .ret ∧ LeavesInM (Fw none) 0 K.P g a'.tmps (fun e w' => (∃ a', e = .returned (.slice a' 0 0)) ∧ w'.os = w.os ∧ w'.tape = w.tape ∧ w'.output = w.output ∧ w.heap.size ≤ w'.heap.size ∧ ∀ b, b < w.heap.size → w'.heap[b]? = w.heap[b]?) a'.defers .returning w' := by
  intro st hres e' a' w' hq
  obtain ⟨q1, q2, q3, S', μ', q4, q5⟩ := hq
  refine ⟨q1, marks_ok (s := st.s) (k := st.h.length - 1) a'.defers w' q4.defs q4.heap q5 (Nat.le_refl _) q4.slots fun w2 h2 e2 s2 => ?_⟩
  obtain ⟨u, u1, u2⟩ := results_run K h2 s2 hres
  refine ⟨u, u1, ?_, e2.os, e2.tape, e2.out, e2.size, fun b hb => e2.same b hb (.inl hb)⟩
  have u3 : VRel w2 S' μ' (st.h.length - 1) u .nils := u2
  cases u3 with
  | nils a => exact ⟨a, rfl⟩
 have hn8 : g.ntmps - (#[Value.slice av 0 cap] : Array Value).size = 7 := by rw [hnt]; rfl
 refine callsIn_of_wp_marks hf hb trivial ?_
 rw [hn8]
 refine wpIn_seq (wpIn_mono (gexec_sound K hK n f A _ _ _ hA _ none w _ _ _ hst) fun e' a1 w1 hq1 => ?_)
 obtain ⟨q1, q2, q3, S1, μ1, q4, q5⟩ := hq1
 simp only [exitOf] at q1; subst q1
 simp only [Exit.then]
 have hv := q4.slots 0
 rw [h0] at hv
 obtain ⟨base, cap1, hbase, _⟩ := hv.pv.slice_inv
 have hlen : st1.h.length = 2 := q2
 refine wpIn_seq (wpIn_seq (wpIn_region ?_))
 have hsz : a1.tmps.size = 8 := q4.nt.trans q3
 have hr : List.range (#[(⟨some 3, .move (.tmp 0), t0, p3, a3, none⟩ : Oper), ⟨some 4, .binOp .eql t (.tmp 3) (.const (.slice none 0 0)) t', t1, p4, a4, none⟩] : Array Oper).size = [0, 1] := rfl
 rw [hr]
 simp only [wpOpsIn]
 simp only [List.getElem?_toArray, List.getElem?_cons_zero, List.getElem?_cons_succ, Region.wanted, if_true]
 refine step_ok K hK (gexec_sound K hK n) q4.heap q4.pos q4.slots (v := .pure (.slice [])) (H' := st1.h) (fn := f) (o := ⟨some 3, .move (.tmp 0), t0, p3, a3, none⟩) (s := st1.s) (by simp [gstep, goCalls, gop, ev, h0]) fun u3 w2 S2 μ2 hv3 hh3 he3 hl3 => ?_
 obtain ⟨base3, cap3, hu3, _⟩ := hv3.pv.slice_inv
 have hu3 : u3 = .slice base3 0 cap3 := hu3
 subst hu3
 have hs1 : ∀ q, VRel w2 S2 μ2 (st1.h.length - 1) (a1.tmps.getD q undef) (look st1.s q) := slots_ev q4.slots q4.heap he3 (Nat.le_refl _) (Nat.le_refl _)
 obtain ⟨z1, z2, z3, z4, z5⟩ := put_slots (st := ⟨st1.s, st1.h, 8⟩) (st' := ⟨(3, .pure (.slice [])) :: st1.s, st1.h, 8⟩) hs1 hsz hv3 rfl rfl (dst := some 3) (by simp [GSt.put])
 refine ⟨fun _ _ => trivial, ?_⟩
 rw [Oper.semAt_eq _ _ _ (fun c e => by cases e)]
 have he0 : (a1.put (some 3) (.slice base3 0 cap3)).eval (.tmp 3) = .slice base3 0 cap3 := by
  show (a1.put (some 3) (.slice base3 0 cap3)).tmps.getD 3 undef = _
  rw [put_getD _ _ _ _ (by omega)]; simp
 have hrun : (execOp (a1.put (some 3) (.slice base3 0 cap3)).eval ⟨some 4, .binOp .eql t (.tmp 3) (.const (.slice none 0 0)) t', t1, p4, a4, none⟩).run K.P w2 = .ok (.value (.bool base3.isNone)) w2 := by
  have hc : (a1.put (some 3) (.slice base3 0 cap3)).eval (.const (.slice none 0 0)) = .slice none 0 0 := rfl
  have hg : (eqGuard .eql t (.tmp 3) (.const (.slice none 0 0)) (.slice base3 0 cap3) (.slice none 0 0)).run K.P w2 = .ok () w2 := by simp [eqGuard]
  simp only [execOp, he0, hc, Sem.run_bind, hg, Result.andThen_ok, eql_nil' K.P w2 ht, Sem.run_pure]
 rw [hrun, Oper.uponIn_value]
 simp only
 have hb4 : VRel w2 S2 μ2 (st1.h.length - 1) (.bool base3.isNone) (.pure (.bool base3.isNone)) := .pure _ _ (.bool _)
 obtain ⟨y1, y2, y3, y4, y5⟩ := put_slots (st := ⟨(3, .pure (.slice [])) :: st1.s, st1.h, 8⟩) (st' := ⟨(4, .pure (.bool base3.isNone)) :: (3, .pure (.slice [])) :: st1.s, st1.h, 8⟩) z1 (z2.trans rfl) hb4 rfl rfl (dst := some 4) (by simp [GSt.put])
 have hst2 : StOk w.heap.size none w2 S2 μ2 ⟨(4, .pure (.bool base3.isNone)) :: (3, .pure (.slice [])) :: st1.s, st1.h, 8⟩ ((a1.put (some 3) (.slice base3 0 cap3)).put (some 4) (.bool base3.isNone)) :=
  ⟨hh3, y1, y2.trans rfl, q4.pos, Nat.le_trans q4.low he3.size, by rw [y5, z5]; exact q4.defs.ev he3, fun l hl => by cases hl⟩
 have hc4 : ((a1.put (some 3) (.slice base3 0 cap3)).put (some 4) (.bool base3.isNone)).eval (.tmp 4) = .bool base3.isNone := by
  show ((a1.put (some 3) (.slice base3 0 cap3)).put (some 4) (.bool base3.isNone)).tmps.getD 4 undef = _
  rw [put_getD _ _ _ _ (by rw [z2]; simp)]; simp
 have hE := q5.trans (he3.level (by simp [hlen]))
 simp only [Exit.then]
 refine wpIn_cond hc4 ?_
 have out : ∀ (st : GSt) (e' : Exit) (a' : Act) (w' : World), Post w.heap.size none ⟨(4, .pure (.bool base3.isNone)) :: (3, .pure (.slice [])) :: st1.s, st1.h, 8⟩ w2 S2 μ2 .ret st e' a' w' →
   Post w.heap.size none ⟨[(0, .pure (.slice []))], [[], []], 8⟩ w (fun b => b < w.heap.size) (fun _ _ => none) .ret st e' a' w' := fun st e' a' w' hq => by
  obtain ⟨k1, k2, k3, S', μ', k4, k5⟩ := hq
  exact ⟨k1, k2.trans hlen, k3, S', μ', k4, hE.trans (k5.level (by simp [hlen]))⟩
 cases hbn : base3.isNone with
 | true =>
  simp only [if_true]
  rw [hbn] at hst2 out
  refine wpIn_mono (gexec_sound K hK n f X _ _ _ hX _ none w2 _ _ _ hst2) fun e' a' w' hq => ?_
  obtain ⟨k1, k2⟩ := fin stX rX e' a' w' (out _ _ _ _ hq)
  subst k1
  exact k2
 | false =>
  simp only [Bool.false_eq_true, if_false]
  rw [hbn] at hst2 out
  refine wpIn_skip ?_
  simp only [Exit.then]
  refine wpIn_mono (gexec_sound K hK n f D _ _ _ hD _ none w2 _ _ _ hst2) fun e' a' w' hq => ?_
  obtain ⟨k1, k2⟩ := fin stD rD e' a' w' (out _ _ _ _ hq)
  subst k1
  exact k2
def isNils1 : Option (List GV) → Bool
 | some [.nils] => true
 | _ => false
def isE : GV → Bool
 | .pure (.slice []) => true
 | _ => false
def clnChk (K : Ctx) (n : Nat) (f : FuncId) (g : Func) (A X D : Code) (t : TypeId) : Bool :=
 match gexec K n f A ⟨[(0, .pure (.slice []))], [[], []], 8⟩ with
 | some (.normal, st1) =>
  isE (look st1.s 0) && (telem K.P t).isSome &&
  (match gexec K n f X ⟨(4, .pure (.bool true)) :: (3, .pure (.slice [])) :: st1.s, st1.h, 8⟩ with | some (.ret, st) => isNils1 (gresults K g st) | _ => false) &&
  (match gexec K n f D ⟨(4, .pure (.bool false)) :: (3, .pure (.slice [])) :: st1.s, st1.h, 8⟩ with | some (.ret, st) => isNils1 (gresults K g st) | _ => false)
 | _ => false
theorem isNils1_eq {x : Option (List GV)} (h : isNils1 x = true) : x = some [.nils] := by
 unfold isNils1 at h
 split at h
 ·rfl
 ·cases h
theorem clone_chk (K : Ctx) (hK : CtxOk K) {n id : Nat} {f : FuncId} {g : Func} {A X D : Code} {t0 t1 : TypeId} {p3 p4 : String} {a3 a4 : Array Edge} {t t' : TypeId}
  (hf : K.P.funcs[f]? = some g)
  (hb : g.body = some (.seq A (.seq (.seq (.region id #[⟨some 3, .move (.tmp 0), t0, p3, a3, none⟩, ⟨some 4, .binOp .eql t (.tmp 3) (.const (.slice none 0 0)) t', t1, p4, a4, none⟩] false) (.cond (.tmp 4) X .skip)) D)))
  (hname : (g.name == "runtime.NumGoroutine") = false) (hnt : g.ntmps = 8) (h : clnChk K n f g A X D t = true) : CloneOk K.P f := by
 unfold clnChk at h
 split at h
 ·rename_i st1 hA
  simp only [Bool.and_eq_true] at h
  obtain ⟨⟨⟨h0, ht⟩, hX⟩, hD⟩ := h
  obtain ⟨e, he⟩ := Option.isSome_iff_exists.1 ht
  have h0' : look st1.s 0 = .pure (.slice []) := by
   unfold isE at h0
   split at h0
   ·assumption
   ·cases h0
  split at hX
  ·rename_i stX eX
   split at hD
   ·rename_i stD eD
    exact clone_ok K hK (t2 := 0) hf hb hname hnt (telem_some he) hA h0' eX eD (isNils1_eq hX) (isNils1_eq hD)
   ·cases hD
  ·cases hX
 ·cases h
end
end
section
open Go.ChangeShapes Go.WideShapes Go.RowKit Go.ChangeAt
def Shp (P : Program) : Nat → TypeId → List PV → Prop
 | 0, _, _ => False
 | n + 1, t, ps =>
  match P.underlying t with
  | some .bool => ∃ b, ps = [.bool b]
  | some (.int k) => ∃ m, (Lit.int k m).wf = true ∧ ps = [.int k m]
  | some .string => ∃ l : List UInt8, l.length ≤ maxLen ∧ ps = [.str l]
  | some (.slice e) => ∃ rows, rows.length ≤ maxLen ∧ (∀ r ∈ rows, r.length = P.cellsOf e ∧ Shp P n e r) ∧ ps = [.slice rows]
  | some (.struct fs) => ps.length = P.cellsOf t ∧ ∀ f ∈ fs.toList, Shp P n f.type ((ps.drop f.offset).take (P.cellsOf f.type))
  | some (.array m e) => ps.length = P.cellsOf t ∧ ∀ i, i < m → Shp P n e ((ps.drop (i * P.cellsOf e)).take (P.cellsOf e))
  | _ => False
def consec (P : Program) (tot : Nat) : Nat → List (Nat × TypeId) → Bool
 | o, [] => o == tot
 | o, (off, t) :: r => off == o && consec P tot (o + P.cellsOf t) r
def plainTy (P : Program) : Nat → TypeId → Bool
 | 0, _ => false
 | n + 1, t =>
  match P.underlying t with
  | some .bool | some (.int _) | some .string => true
  | some (.slice e) => decide (0 < P.cellsOf e) && plainTy P n e
  | some (.struct fs) => consec P (P.cellsOf t) 0 (fs.toList.map fun f => (f.offset, f.type)) && fs.toList.all fun f => plainTy P n f.type
  | some (.array m e) => consec P (P.cellsOf t) 0 ((List.range m).map fun i => (i * P.cellsOf e, e)) && plainTy P n e
  | _ => false
def S0 (w : World) : Nat → Prop := fun b => b < w.heap.size
def PRow (w : World) (cs : List Value) (ps : List PV) : Prop := ps.length = cs.length ∧ ∀ j, j < cs.length → (cs.getD j undef).oneCell' = true ∧ PRep w (S0 w) (cs.getD j undef) (ps.getD j .dead)
theorem PRow.append {w : World} {a b : List Value} {p q : List PV} (h : PRow w a p) (k : PRow w b q) : PRow w (a ++ b) (p ++ q) := by
 obtain ⟨h1, h2⟩ := h
 obtain ⟨k1, k2⟩ := k
 refine ⟨by simp [h1, k1], fun j hj => ?_⟩
 by_cases hja : j < a.length
 ·have e1 : (a ++ b).getD j undef = a.getD j undef := by simp [List.getD_eq_getElem?_getD, List.getElem?_append_left hja]
  have e2 : (p ++ q).getD j .dead = p.getD j .dead := by simp [List.getD_eq_getElem?_getD, List.getElem?_append_left (show j < p.length by omega)]
  rw [e1, e2]; exact h2 j hja
 ·have e1 : (a ++ b).getD j undef = b.getD (j - a.length) undef := by simp [List.getD_eq_getElem?_getD, List.getElem?_append_right (show a.length ≤ j by omega)]
  have e2 : (p ++ q).getD j .dead = q.getD (j - a.length) .dead := by rw [List.getD_eq_getElem?_getD, List.getElem?_append_right (show p.length ≤ j by omega), h1, List.getD_eq_getElem?_getD]
  rw [e1, e2]; exact k2 _ (by simp at hj; omega)
theorem one_row {w : World} {v : Value} {p : PV} (h1 : v.oneCell' = true) (h : PRep w (S0 w) v p) : PRow w [v] [p] :=
  ⟨rfl, fun j hj => by have : j = 0 := by simpa using hj
                       subst this; exact ⟨h1, h⟩⟩
section
variable {P : Program} {w : World}
theorem parts_open (n : Nat) {cs : List Value} : ∀ (l : List (Nat × TypeId)) (o : Nat), consec P cs.length o l = true →
    (∀ x ∈ l, ∃ ps, PRow w ((cs.drop x.1).take (P.cellsOf x.2)) ps ∧ Shp P n x.2 ps) →
    o ≤ cs.length ∧ ∃ ps, PRow w (cs.drop o) ps ∧ ∀ x ∈ l, o ≤ x.1 ∧ Shp P n x.2 ((ps.drop (x.1 - o)).take (P.cellsOf x.2))
  | [], o, hc, h => by
    simp only [consec, beq_iff_eq] at hc
    subst hc
    exact ⟨Nat.le_refl _, [], by simp [PRow], by simp⟩
  | (off, t) :: r, o, hc, h => by
    simp only [consec, Bool.and_eq_true, beq_iff_eq] at hc
    obtain ⟨rfl, hc⟩ := hc
    obtain ⟨hle, ps, h1, h2⟩ := parts_open n r _ hc (fun x hx => h x (List.mem_cons_of_mem _ hx))
    obtain ⟨p, q1, q2⟩ := h (off, t) (List.mem_cons_self ..)
    simp only at q1 q2
    have hpl : p.length = P.cellsOf t := by rw [q1.1, List.length_take, List.length_drop]; omega
    refine ⟨by omega, p ++ ps, ?_, fun x hx => ?_⟩
    · have := q1.append h1
      rw [← List.drop_drop, List.take_append_drop] at this
      exact this
    · rcases List.mem_cons.1 hx with rfl | hx
      · refine ⟨Nat.le_refl _, ?_⟩
        simp only [Nat.sub_self, List.drop_zero]
        rw [← hpl, List.take_left]
        exact q2
      · obtain ⟨g1, g2⟩ := h2 x hx
        refine ⟨by omega, ?_⟩
        have e : (p ++ ps).drop (x.1 - off) = ps.drop (x.1 - (off + P.cellsOf t)) := by
          rw [List.drop_append, List.drop_of_length_le (by omega), List.nil_append, hpl, Nat.sub_sub]
        rw [e]; exact g2
theorem open_plain {H : Type} {enc : TypeId × Value → H} : ∀ (n : Nat) (t : TypeId) (fuel : Nat) (cs : List Value) (x : DataW H × List MemPlace), plainTy P n t = true →
    DataW.trod enc P w 0 (fun _ => true) true fuel t cs = some x → ∃ ps, PRow w cs ps ∧ Shp P n t ps := by
  intro n
  induction n with
  | zero => intro t fuel cs x h; simp [plainTy] at h
  | succ n ih =>
    intro t fuel cs x h hx
    unfold plainTy at h
    unfold Shp
    split at h
    · rename_i ht
      obtain ⟨b, rfl, _⟩ := DataW.trod_bool ht hx
      exact ⟨[.bool b], one_row rfl (.bool b), b, rfl⟩
    · rename_i k ht
      obtain ⟨m, rfl, _, hw⟩ := DataW.trod_int ht hx
      exact ⟨[.int k m], one_row rfl (.int k m), m, hw, rfl⟩
    · rename_i ht
      obtain ⟨s, rfl, _, hs⟩ := DataW.trod_string ht hx
      exact ⟨[.str s.data.toList], one_row rfl (.str s), _, by simpa using hs, rfl⟩
    · rename_i e ht
      simp only [Bool.and_eq_true, decide_eq_true_eq] at h
      obtain ⟨he, hp⟩ := h
      rcases DataW.trod_slice ht hx with ⟨rfl, _⟩ | ⟨a, len, cap, elems, rest, m, _, rfl, _, hb, hl, hm, hlen, hel, _, _⟩
      · exact ⟨[.slice []], one_row rfl (.slice0 none 0), [], by simp, by simp, rfl⟩
      · by_cases h0 : len = 0
        · subst h0
          exact ⟨[.slice []], one_row rfl (.slice0 _ _), [], by simp, by simp, rfl⟩
        · have each : ∀ i, i < len → ∃ c ps, w.cells? 0 (a.add (i * P.cellsOf e)) (P.cellsOf e) = some c ∧ PRow w c ps ∧ Shp P n e ps := by
            intro i hi
            have h1 := hel i hi
            rw [List.getElem?_eq_getElem (show i < elems.length by omega), Option.bind_eq_some_iff] at h1
            obtain ⟨c, h1, h2⟩ := h1
            obtain ⟨ps, h3, h4⟩ := ih e m c _ hp h2
            exact ⟨c, ps, h1, h3, h4⟩
          have ch : ∃ fc : Nat → List Value, ∃ fp : Nat → List PV, ∀ i, i < len → w.cells? 0 (a.add (i * P.cellsOf e)) (P.cellsOf e) = some (fc i) ∧ PRow w (fc i) (fp i) ∧ Shp P n e (fp i) := by
            refine ⟨fun i => if h : i < len then Classical.choose (each i h) else [], fun i => if h : i < len then Classical.choose (Classical.choose_spec (each i h)) else [], fun i hi => ?_⟩
            simp only [hi, ↓reduceDIte]
            exact Classical.choose_spec (Classical.choose_spec (each i hi))
          obtain ⟨fc, fp, hf⟩ := ch
          have hcell : ∀ i j, i < len → j < P.cellsOf e → w.cell? (a.add (i * P.cellsOf e + j)) = some ((fc i).getD j undef) := by
            intro i j hi hj
            obtain ⟨h1, _⟩ := hf i hi
            obtain ⟨_, g1, g2⟩ := World.cells?_some h1
            have := g2 j hj
            rw [List.getElem?_eq_getElem (by omega)] at this
            have e1 : (a.add (i * P.cellsOf e)).add j = a.add (i * P.cellsOf e + j) := by
              unfold Addr.add
              by_cases c1 : i * P.cellsOf e = 0 <;> by_cases c2 : j = 0 <;> simp_all [Nat.add_assoc]
            rw [e1] at this
            rw [this, List.getD_eq_getElem?_getD, List.getElem?_eq_getElem (by omega)]; rfl
          obtain ⟨b, off, spot⟩ := a
          have hsp : spot = none := by
            have := World.cell?_spot (hcell 0 0 (by omega) he)
            simpa [Addr.add] using this
          subst hsp
          have hcell' : ∀ i j, i < len → j < P.cellsOf e → w.cell? ⟨b, off + (i * P.cellsOf e + j), none⟩ = some ((fc i).getD j undef) := by
            intro i j hi hj
            have := hcell i j hi hj
            unfold Addr.add at this
            split at this
            · rename_i c; rw [c, Nat.add_zero]; exact this
            · exact this
          have hfl : ∀ i, i < len → (fp i).length = P.cellsOf e ∧ (fc i).length = P.cellsOf e := by
            intro i hi
            obtain ⟨h1, h2, _⟩ := hf i hi
            obtain ⟨_, g1, _⟩ := World.cells?_some h1
            exact ⟨h2.1.trans g1, g1⟩
          have hrows : ((List.range len).map fp).length = len := by simp
          refine ⟨[.slice ((List.range len).map fp)], one_row rfl ?_, _, by rw [hrows]; omega, fun r hr => ?_, rfl⟩
          · have := PRep.slice (w := w) (S := S0 w) b off cap (P.cellsOf e) ((List.range len).map fp) (fun i j => (fc i).getD j undef) (by
                have := hcell' 0 0 (by omega) he
                unfold S0
                refine Classical.byContradiction fun hn => ?_
                have hz : w.heap[b]? = none := Array.getElem?_eq_none (by omega)
                simp [World.cell?, hz] at this) he
              (fun r hr => by obtain ⟨i, hi, rfl⟩ := List.mem_map.1 hr; exact (hfl i (by simpa using hi)).1)
              (fun i j hi hj => hcell' i j (by simpa using hi) hj)
              (fun i j hi hj => by
                have hi' : i < len := by simpa using hi
                exact ((hf i hi').2.1.2 j (by rw [(hfl i hi').2]; exact hj)).1)
              (fun i j hi hj => by
                have hi' : i < len := by simpa using hi
                have e1 : ((List.range len).map fp).getD i [] = fp i := by simp [List.getD_eq_getElem?_getD, hi']
                rw [e1]
                exact ((hf i hi').2.1.2 j (by rw [(hfl i hi').2]; exact hj)).2)
              (by rw [hrows]; exact hl)
            rw [hrows] at this
            exact this
          · obtain ⟨i, hi, rfl⟩ := List.mem_map.1 hr
            have hi' : i < len := by simpa using hi
            exact ⟨(hfl i hi').1, (hf i hi').2.2⟩
    · rename_i fs ht
      simp only [Bool.and_eq_true, List.all_eq_true] at h
      obtain ⟨hc, hp⟩ := h
      obtain ⟨xs, m, _, _, hl, hlen, hfld⟩ := DataW.trod_struct ht hx
      rw [← hl] at hc
      obtain ⟨_, ps, h1, h2⟩ := parts_open (w := w) n _ 0 hc (fun y hy => by
        obtain ⟨f, hf, rfl⟩ := List.mem_map.1 hy
        obtain ⟨i, hi, e⟩ := List.getElem_of_mem hf
        have hi' : i < fs.size := by simpa using hi
        have h3 := hfld i f (by rw [Array.getElem?_eq_getElem hi']; rw [← e]; simp)
        rw [List.getElem?_eq_getElem (by omega)] at h3
        obtain ⟨p, q1, q2⟩ := ih f.type m _ _ (hp f hf) h3
        exact ⟨p, q1, q2⟩)
      rw [List.drop_zero] at h1
      refine ⟨ps, h1, by rw [h1.1, hl], fun f hf => ?_⟩
      exact (h2 (f.offset, f.type) (List.mem_map.2 ⟨f, hf, rfl⟩)).2
    · rename_i k e ht
      simp only [Bool.and_eq_true] at h
      obtain ⟨hc, hp⟩ := h
      obtain ⟨xs, m, _, _, hl, hlen, hfld⟩ := DataW.trod_array ht hx
      rw [← hl] at hc
      obtain ⟨_, ps, h1, h2⟩ := parts_open (w := w) n _ 0 hc (fun y hy => by
        obtain ⟨i, hi, rfl⟩ := List.mem_map.1 hy
        have hi' : i < k := by simpa using hi
        have h3 := hfld i hi'
        rw [List.getElem?_eq_getElem (by omega)] at h3
        obtain ⟨p, q1, q2⟩ := ih e m _ _ hp h3
        exact ⟨p, q1, q2⟩)
      rw [List.drop_zero] at h1
      refine ⟨ps, h1, by rw [h1.1, hl], fun i hi => ?_⟩
      exact (h2 (i * P.cellsOf e, e) (List.mem_map.2 ⟨i, by simpa using hi, rfl⟩)).2
    · cases h
def ArgP (P : Program) (n : Nat) (t : TypeId) (p : PV) : Prop :=
 match P.underlying t with
 | some (.struct _) | some (.array _ _) => ∃ ps, p = .agg ps ∧ Shp P n t ps
 | _ => Shp P n t [p]
def ArgsP (P : Program) (n : Nat) : List TypeId → List PV → Prop
 | [], [] => True
 | t :: ts, p :: ps => ArgP P n t p ∧ ArgsP P n ts ps
 | _, _ => False
def mu0 : Mu := fun _ _ => none
theorem shp_one {n : Nat} {t : TypeId} {ps : List PV} (h : Shp P n t ps) (hs : ∀ fs, P.underlying t ≠ some (.struct fs)) (ha : ∀ m e, P.underlying t ≠ some (.array m e)) : ∃ p, ps = [p] := by
 cases n with
 | zero => exact h.elim
 | succ n =>
  unfold Shp at h
  split at h
  ·obtain ⟨b, rfl⟩ := h; exact ⟨_, rfl⟩
  ·obtain ⟨m, _, rfl⟩ := h; exact ⟨_, rfl⟩
  ·obtain ⟨m, _, rfl⟩ := h; exact ⟨_, rfl⟩
  ·obtain ⟨m, _, _, rfl⟩ := h; exact ⟨_, rfl⟩
  ·rename_i ht; exact absurd ht (hs _)
  ·rename_i ht; exact absurd ht (ha _ _)
  ·exact h.elim
theorem arg_rel {H : Type} {enc : TypeId × Value → H} {n : Nat} {t : TypeId} {v : Value} {d : DataW H} {ps0 : List MemPlace} {base : Nat} (hp : plainTy P n t = true) (hok : Value.okWide P w .any base t v)
  (h : DataW.Trod enc P w 0 (fun _ => true) true t v d ps0) : ∃ p, VRel w (S0 w) mu0 0 v (.pure p) ∧ ArgP P n t p := by
 obtain ⟨fuel, hf⟩ := h
 obtain ⟨ps, h1, h2⟩ := open_plain n t fuel _ _ hp hf
 have agg : ∀ cs, v = .agg cs → ∃ p, VRel w (S0 w) mu0 0 v (.pure p) ∧ ∃ ps, p = .agg ps ∧ Shp P n t ps := by
  intro cs e
  subst e
  simp only [Value.cells] at h1
  refine ⟨.agg ps, .pure _ _ (.agg cs ps (by simpa using h1.1.symm) (fun j hj => ?_) (fun j hj => ?_)), ps, rfl, h2⟩
  ·have := (h1.2 j (by rw [← h1.1]; exact hj)).1
   simpa [List.getD_eq_getElem?_getD] using this
  ·have := (h1.2 j (by rw [← h1.1]; exact hj)).2
   simpa [List.getD_eq_getElem?_getD] using this
 unfold ArgP
 split
 ·rename_i fs ht
  obtain ⟨cs, e, _⟩ := okWide_struct ht hok
  exact agg cs e
 ·rename_i m e ht
  simp only [Value.okWide, ht] at hok
  obtain ⟨cs, e, _⟩ := hok
  exact agg cs e
 ·rename_i hs ha
  obtain ⟨p, rfl⟩ := shp_one h2 (fun fs e => hs fs e) (fun m e e' => ha m e e')
  have hv : v.cells.toList = [v] := by
   have hl := h1.1
   cases v <;> first | rfl | skip
   ·exfalso
    rename_i cs
    cases n with
    | zero => exact h2.elim
    | succ n =>
     unfold plainTy at hp
     simp only [Value.okWide] at hok
     split at hp <;> rename_i ht <;> first | (simp [Cell.okWide, Cell.ok, ht] at hok; done) | (exact absurd ht (hs _)) | (exact absurd ht (ha _ _)) | (cases hp; done) | skip
  rw [hv] at h1
  exact ⟨p, .pure _ _ (h1.2 0 (by simp)).2, h2⟩
end
end
section
open Go.ChangeShapes Go.WideShapes Go.RowKit Go.ChangeAt
section
variable {P : Program} {H : Type} {enc : TypeId × Value → H}
theorem trodAll_below (hl : laidOutB P = true) {W W' : World} (hb : Below W.heap.size W W') : ∀ (ts : List TypeId) (vs : List Value) (ds : List (DataW H)) (ps : List MemPlace), (∀ t ∈ ts, P.readableRec t = true ∧ t < P.types.size) →
  DataW.TrodAll enc P W 0 (fun _ => true) true ts vs ds ps → DataW.TrodAll enc P W' 0 (fun b => decide (b < W.heap.size)) true ts vs ds ps
 | [], vs, ds, ps, _, h => by
  obtain ⟨rfl, rfl, rfl⟩ := trodAll_nil h
  exact trodAll_mk0
 | t :: ts, vs, ds, ps, ht, h => by
  obtain ⟨v, vs', d, ds', p, q, rfl, rfl, rfl, h1, h2⟩ := trodAll_cons h
  obtain ⟨a1, a2⟩ := ht t (List.mem_cons_self ..)
  have hlt : ∀ x ∈ p, x.block < W.heap.size := by obtain ⟨m, hm⟩ := h1; exact DataW.trod_lt m _ _ _ hm
  exact trodAll_cons_mk (Below.trod hl a1 a2 h1 hb hlt) (trodAll_below hl hb ts vs' ds' q (fun t ht' => ht t (List.mem_cons_of_mem _ ht')) h2)
theorem args_rel {w : World} {base : Nat} {n : Nat} : ∀ (ts : List TypeId) (vs : List Value) (ds : List (DataW H)) (ps : List MemPlace), (∀ t ∈ ts, plainTy P n t = true) →
  (∀ (j : Nat) t v, ts[j]? = some t → vs[j]? = some v → Value.okWide P w .any base t v) →
  DataW.TrodAll enc P w 0 (fun _ => true) true ts vs ds ps → ds.length = ts.length ∧ ∃ pvs, ArgsP P n ts pvs ∧ pvs.length = vs.length ∧ ∀ j, j < vs.length → VRel w (S0 w) mu0 0 (vs.getD j undef) (.pure (pvs.getD j .dead))
 | [], vs, ds, ps, _, _, h => by
  obtain ⟨rfl, rfl, rfl⟩ := trodAll_nil h
  exact ⟨rfl, [], trivial, rfl, by simp⟩
 | t :: ts, vs, ds, ps, ht, hok, h => by
  obtain ⟨v, vs', d, ds', p, q, rfl, rfl, rfl, h1, h2⟩ := trodAll_cons h
  obtain ⟨hl, pvs, a1, a2, a3⟩ := args_rel ts vs' ds' q (fun t ht' => ht t (List.mem_cons_of_mem _ ht')) (fun j t v h1 h2 => hok (j + 1) t v (by simpa using h1) (by simpa using h2)) h2
  obtain ⟨pv, b1, b2⟩ := arg_rel (ht t (List.mem_cons_self ..)) (hok 0 t v rfl rfl) h1
  refine ⟨by simp [hl], pv :: pvs, ⟨b2, a1⟩, by simp [a2], fun j hj => ?_⟩
  cases j with
  | zero => exact b1
  | succ j => exact a3 j (by simpa using hj)
end
theorem hrel0 (w : World) (hG : GlbRel w (S0 w)) : HRel w (S0 w) mu0 [[]] :=
 ⟨fun nm x hx => by simp [Heap.get, Fr.get] at hx, fun nm t b h => by simp [mu0] at h, fun nm nm' t t' b h => by simp [mu0] at h, fun nm t b h => by simp [mu0] at h, fun b h => h, hG⟩
theorem below_of_ev {w w' : World} {S' : Nat → Prop} {μ' : Mu} {l : Nat} (h : Ev l w (S0 w) mu0 w' S' μ') : Below w.heap.size w w' :=
 ⟨h.os, h.tape, h.out, h.size, fun k hk => h.same k hk (.inl hk)⟩
theorem law_calls {K : Ctx} (hK : CtxOk K) {rec : Rec} (hrec : RecOk K.P rec) {f : FuncId} {pvs : List PV} {H' : Heap} (h : gcall K rec f (pvs.map .pure) 0 [[]] = some (.pure (.bool true), H')) {w : World} (hG : GlbRel w (S0 w)) {vs : Array Value}
  (hl : pvs.length = vs.size) (hrel : ∀ j, j < vs.size → VRel w (S0 w) mu0 0 (vs.getD j undef) (.pure (pvs.getD j .dead))) :
  Calls K.P f vs w fun e w' => e = .returned (.bool true) ∧ Below w.heap.size w w' := by
 obtain ⟨_, h2⟩ := call_ok K hK hrec h (hrel0 w hG) (vs := vs) (by simp [hl]) (fun j hj => by
  have hj' : j < pvs.length := by simpa using hj
  have e : (pvs.map GV.pure).getD j gdead = .pure (pvs.getD j .dead) := by simp [List.getD_eq_getElem?_getD, hj']
  rw [e]
  exact hrel j (by omega))
 refine (callsIn_wide (n := 0).1 h2).mono fun e w' hd => ?_
 obtain ⟨u, S', μ', rfl, hv, _, hev, _⟩ := hd
 cases hv with
 | pure _ _ hp =>
  cases hp
  exact ⟨rfl, below_of_ev hev⟩
end
section
open Go.WideShapes
def flatL (f : TypeId → Option (List SK)) : List TypeId → Option (List SK)
 | [] => some []
 | t :: r => match f t, flatL f r with | some a, some b => some (a ++ b) | _, _ => none
def flatK (P : Program) : Nat → TypeId → Option (List SK)
 | 0, _ => none
 | n + 1, t =>
  match P.underlying t with
  | some .bool => if P.cellsOf t = 1 then some [.bool] else none
  | some (.int k) => if P.cellsOf t = 1 then some [.int k] else none
  | some .string => if P.cellsOf t = 1 then some [.str] else none
  | some (.struct fs) => if consec P (P.cellsOf t) 0 (fs.toList.map fun f => (f.offset, f.type)) && fs.toList.all (·.name != "_") && !P.stoodInHeld t then flatL (flatK P n) (fs.toList.map (·.type)) else none
  | some (.array m e) => if decide (0 < m) && consec P (P.cellsOf t) 0 ((List.range m).map fun i => (i * P.cellsOf e, e)) then flatL (flatK P n) ((List.range m).map fun _ => e) else none
  | _ => none
def valOf (P : Program) (t : TypeId) (l : List Value) : Value :=
 match P.underlying t with
 | some (.struct _) | some (.array _ _) => .agg l.toArray
 | _ => l.headD undef
theorem eqRow_append : ∀ (k1 k2 : List SK) (a b : List PV) (q : Bool), eqRow (k1 ++ k2) a b = some q →
  ∃ q1 q2, eqRow k1 (a.take k1.length) (b.take k1.length) = some q1 ∧ eqRow k2 (a.drop k1.length) (b.drop k1.length) = some q2 ∧ q = (q1 && q2)
 | [], k2, a, b, q, h => ⟨true, q, rfl, h, by simp⟩
 | s :: ks, k2, [], b, q, h => by cases s <;> cases b <;> simp [eqRow] at h
 | s :: ks, k2, x :: a, [], q, h => by cases s <;> cases x <;> simp [eqRow] at h
 | s :: ks, k2, x :: a, y :: b, q, h => by
  have key : ∀ q', eqRow (ks ++ k2) a b = some q' → ∃ q1 q2, eqRow ks (a.take ks.length) (b.take ks.length) = some q1 ∧ eqRow k2 (a.drop ks.length) (b.drop ks.length) = some q2 ∧ q' = (q1 && q2) :=
   fun q' h => eqRow_append ks k2 a b q' h
  cases s with
  | int k =>
   cases x <;> cases y <;> simp only [List.cons_append, eqRow] at h
   all_goals first | (cases h; done) | skip
   split at h
   ·rename_i hk
    split at h
    ·rename_i q' hq'
     obtain ⟨q1, q2, e1, e2, rfl⟩ := key q' hq'
     simp only [Option.some.injEq] at h
     exact ⟨_, q2, by simp only [List.length_cons, List.take_succ_cons, eqRow, hk, and_self, if_true, e1]; rfl, by simpa using e2, by rw [← h, Bool.and_assoc]⟩
    ·cases h
   ·cases h
  | bool =>
   cases x <;> cases y <;> simp only [List.cons_append, eqRow] at h
   all_goals first | (cases h; done) | skip
   split at h
   ·rename_i q' hq'
    obtain ⟨q1, q2, e1, e2, rfl⟩ := key q' hq'
    simp only [Option.some.injEq] at h
    exact ⟨_, q2, by simp only [List.length_cons, List.take_succ_cons, eqRow, e1]; rfl, by simpa using e2, by rw [← h, Bool.and_assoc]⟩
   ·cases h
  | str =>
   cases x <;> cases y <;> simp only [List.cons_append, eqRow] at h
   all_goals first | (cases h; done) | skip
   split at h
   ·rename_i q' hq'
    obtain ⟨q1, q2, e1, e2, rfl⟩ := key q' hq'
    simp only [Option.some.injEq] at h
    exact ⟨_, q2, by simp only [List.length_cons, List.take_succ_cons, eqRow, e1]; rfl, by simpa using e2, by rw [← h, Bool.and_assoc]⟩
   ·cases h
theorem eqRow_len : ∀ (k : List SK) (a b : List PV) (q : Bool), eqRow k a b = some q → a.length = k.length ∧ b.length = k.length
 | [], a, b, q, h => by cases a <;> cases b <;> simp_all [eqRow]
 | s :: ks, [], b, q, h => by cases s <;> cases b <;> simp [eqRow] at h
 | s :: ks, x :: a, [], q, h => by cases s <;> cases x <;> simp [eqRow] at h
 | s :: ks, x :: a, y :: b, q, h => by
  have key : ∀ q', eqRow ks a b = some q' → (x :: a).length = (s :: ks).length ∧ (y :: b).length = (s :: ks).length := fun q' h => by
   have := eqRow_len ks a b q' h
   simp [this.1, this.2]
  cases s with
  | int k =>
   cases x <;> cases y <;> simp only [eqRow] at h
   all_goals first | (cases h; done) | skip
   split at h
   ·split at h
    ·rename_i q' hq'; exact key q' hq'
    ·cases h
   ·cases h
  | bool =>
   cases x <;> cases y <;> simp only [eqRow] at h
   all_goals first | (cases h; done) | skip
   split at h
   ·rename_i q' hq'; exact key q' hq'
   ·cases h
  | str =>
   cases x <;> cases y <;> simp only [eqRow] at h
   all_goals first | (cases h; done) | skip
   split at h
   ·rename_i q' hq'; exact key q' hq'
   ·cases h
section
variable {P : Program}
theorem flatL_cons {f : TypeId → Option (List SK)} {t : TypeId} {r : List TypeId} {ks : List SK} (h : flatL f (t :: r) = some ks) : ∃ a b, f t = some a ∧ flatL f r = some b ∧ ks = a ++ b := by
 simp only [flatL] at h
 split at h
 ·rename_i a b h1 h2; simp only [Option.some.injEq] at h; exact ⟨a, b, h1, h2, h.symm⟩
 ·cases h
theorem consec_len {n : Nat} (hf : ∀ t ks, flatK P n t = some ks → ks.length = P.cellsOf t) : ∀ (l : List (Nat × TypeId)) (o tot : Nat) (ks : List SK), consec P tot o l = true → flatL (flatK P n) (l.map (·.2)) = some ks → o + ks.length = tot
  | [], o, tot, ks, h, hk => by
    simp only [List.map_nil, flatL, Option.some.injEq] at hk
    subst hk
    simpa [consec] using h
  | (off, t) :: r, o, tot, ks, h, hk => by
    simp only [consec, Bool.and_eq_true, beq_iff_eq] at h
    obtain ⟨a, b, h1, h2, rfl⟩ := flatL_cons (by simpa using hk)
    have := consec_len hf r _ _ _ h.2 h2
    rw [List.length_append, hf t a h1]
    omega
theorem consec_le : ∀ (l : List (Nat × TypeId)) (o tot : Nat), consec P tot o l = true → o ≤ tot
  | [], o, tot, h => by simp only [consec, beq_iff_eq] at h; omega
  | (off, t) :: r, o, tot, h => by
    simp only [consec, Bool.and_eq_true, beq_iff_eq] at h
    have := consec_le r _ _ h.2
    omega
theorem flatK_len : ∀ (n : Nat) (t : TypeId) (ks : List SK), flatK P n t = some ks → ks.length = P.cellsOf t
 | 0, t, ks, h => by simp [flatK] at h
 | n + 1, t, ks, h => by
  unfold flatK at h
  split at h
  ·split at h
   ·rename_i e; simp at h; subst h; simp [e]
   ·cases h
  ·split at h
   ·rename_i e; simp at h; subst h; simp [e]
   ·cases h
  ·split at h
   ·rename_i e; simp at h; subst h; simp [e]
   ·cases h
  ·split at h
   ·rename_i hc
    simp only [Bool.and_eq_true] at hc
    have := consec_len (flatK_len n) _ 0 _ ks hc.1.1 (by rw [List.map_map]; exact h)
    omega
   ·cases h
  ·split at h
   ·rename_i hc
    simp only [Bool.and_eq_true] at hc
    have := consec_len (flatK_len n) _ 0 _ ks hc.2 (by rw [List.map_map]; exact h)
    omega
   ·cases h
  ·cases h
theorem flatK_und {n : Nat} {t : TypeId} {ks : List SK} (h : flatK P n t = some ks) : ∃ kd, P.underlying t = some kd := by
 cases n with
 | zero => simp [flatK] at h
 | succ n =>
  cases hu : P.underlying t with
  | none => simp [flatK, hu] at h
  | some kd => exact ⟨kd, rfl⟩
theorem run_part_val (w : World) {n : Nat} {t : TypeId} {ks : List SK} (h : flatK P n t = some ks) (xs : List Value) (off : Nat) (hlen : off + P.cellsOf t ≤ xs.length) :
  (part t xs.toArray off).run P w = .ok (valOf P t ((xs.drop off).take (P.cellsOf t))) w := by
 cases n with
 | zero => simp [flatK] at h
 | succ n =>
  unfold flatK at h
  have hone : P.cellsOf t = 1 → ((xs.drop off).take (P.cellsOf t)).headD undef = xs.getD off undef ∧ off < xs.length := by
   intro e
   rw [e] at hlen ⊢
   refine ⟨?_, by omega⟩
   simp [List.headD_eq_head?_getD, List.head?_take, List.head?_drop, List.getD_eq_getElem?_getD]
  have hagg : ∀ kd, P.underlying t = some kd → (∃ fs, kd = .struct fs) ∨ (∃ m e, kd = .array m e) → (part t xs.toArray off).run P w = .ok (.agg ((xs.drop off).take (P.cellsOf t)).toArray) w := by
   intro kd hu hk
   obtain ⟨i, hi⟩ := info_of_underlying hu
   have e : xs.toArray.extract off (off + P.cellsOf t) = ((xs.drop off).take (P.cellsOf t)).toArray := by
    apply Array.toList_inj.1
    simp [Array.toList_extract, List.extract]
   rcases hk with ⟨fs, rfl⟩ | ⟨m, e', rfl⟩ <;> simp [part, isAgg, run_underlying hu, run_sizeOf w hi, e]
  unfold valOf
  split at h
  ·rename_i ht
   split at h
   ·rename_i e
    rw [(hone e).1]
    have := (hone e).2
    simp [part, isAgg, run_underlying ht, this, List.getD_eq_getElem?_getD, ht]
   ·cases h
  ·rename_i ht
   split at h
   ·rename_i e
    rw [(hone e).1]
    have := (hone e).2
    simp [part, isAgg, run_underlying ht, this, List.getD_eq_getElem?_getD, ht]
   ·cases h
  ·rename_i ht
   split at h
   ·rename_i e
    rw [(hone e).1]
    have := (hone e).2
    simp [part, isAgg, run_underlying ht, this, List.getD_eq_getElem?_getD, ht]
   ·cases h
  ·rename_i fs ht
   simp only [ht]
   exact hagg _ ht (.inl ⟨_, rfl⟩)
  ·rename_i m e ht
   simp only [ht]
   exact hagg _ ht (.inr ⟨_, _, rfl⟩)
  ·cases h
def EqAt' (P : Program) (n d : Nat) (t : TypeId) : Prop := ∀ ks, flatK P n t = some ks → ∀ (a b : List PV) (q : Bool), eqRow ks a b = some q →
 ∀ w, (Op.equalIn d t (valOf P t (a.map scalV)) (valOf P t (b.map scalV))).run P w = .ok q w
def CkAt (P : Program) (n d : Nat) (t : TypeId) : Prop := ∀ ks, flatK P n t = some ks → ∀ (a : List PV), a.length = ks.length → ∀ e w, (Instr.checkKey e d t (valOf P t (a.map scalV))).run P w = .ok () w
theorem run_eqFields_flat {n d : Nat} (ih : ∀ t, EqAt' P n d t) : ∀ (fs : List Field) (o : Nat) (ks : List SK) (a b : List PV) (q : Bool), consec P a.length o (fs.map fun f => (f.offset, f.type)) = true → (fs.all (·.name != "_")) = true →
  flatL (flatK P n) (fs.map (·.type)) = some ks → a.length = b.length → eqRow ks (a.drop o) (b.drop o) = some q → ∀ w, (Op.eqFields d (a.map scalV).toArray (b.map scalV).toArray fs).run P w = .ok q w
 | [], o, ks, a, b, q, hc, hn, hk, hl, he, w => by
  simp only [List.map_nil, flatL, Option.some.injEq] at hk
  subst hk
  have hl1 := eqRow_len _ _ _ _ he
  have e1 : a.drop o = [] := List.length_eq_zero_iff.1 hl1.1
  have e2 : b.drop o = [] := List.length_eq_zero_iff.1 hl1.2
  rw [e1, e2] at he
  simp only [eqRow, Option.some.injEq] at he
  subst he
  simp [Op.eqFields]
 | f :: fs, o, ks, a, b, q, hc, hn, hk, hl, he, w => by
  simp only [List.map_cons, consec, Bool.and_eq_true, beq_iff_eq] at hc
  obtain ⟨rfl, hc⟩ := hc
  simp only [List.all_cons, Bool.and_eq_true, bne_iff_ne, ne_eq] at hn
  obtain ⟨k1, k2, h1, h2, rfl⟩ := flatL_cons (by simpa using hk)
  obtain ⟨q1, q2, g1, g2, rfl⟩ := eqRow_append k1 k2 _ _ q he
  have hk1 := flatK_len n _ _ h1
  have hle := consec_le _ _ _ hc
  have hkl := eqRow_len _ _ _ _ he
  simp only [List.length_drop, List.length_append] at hkl
  rw [List.drop_drop, List.drop_drop] at g2
  rw [hk1] at g1 g2
  have p1 := run_part_val w h1 (a.map scalV) f.offset (by simp; omega)
  have p2 := run_part_val w h1 (b.map scalV) f.offset (by simp; omega)
  rw [← List.map_drop, ← List.map_take] at p1 p2
  have p3 := ih f.type k1 h1 _ _ q1 g1 w
  have rest := run_eqFields_flat ih fs _ k2 a b q2 hc (by simpa using hn.2) h2 hl g2 w
  simp only [Op.eqFields, hn.1, ne_eq, not_false_eq_true, if_true, Sem.run_bind, p1, p2, p3, Result.andThen_ok]
  cases q1
  ·simp
  ·simpa using rest
theorem run_eqItems_flat {n d : Nat} {e : TypeId} (ih : ∀ t, EqAt' P n d t) : ∀ (is : List Nat) (o : Nat) (ks : List SK) (a b : List PV) (q : Bool), consec P a.length o (is.map fun i => (i * P.cellsOf e, e)) = true →
  flatL (flatK P n) (is.map fun _ => e) = some ks → a.length = b.length → eqRow ks (a.drop o) (b.drop o) = some q → ∀ w, (Op.eqItems d e (P.cellsOf e) (a.map scalV).toArray (b.map scalV).toArray is).run P w = .ok q w
 | [], o, ks, a, b, q, hc, hk, hl, he, w => by
  simp only [List.map_nil, flatL, Option.some.injEq] at hk
  subst hk
  have hl1 := eqRow_len _ _ _ _ he
  have e1 : a.drop o = [] := List.length_eq_zero_iff.1 hl1.1
  have e2 : b.drop o = [] := List.length_eq_zero_iff.1 hl1.2
  rw [e1, e2] at he
  simp only [eqRow, Option.some.injEq] at he
  subst he
  simp [Op.eqItems]
 | i :: is, o, ks, a, b, q, hc, hk, hl, he, w => by
  simp only [List.map_cons, consec, Bool.and_eq_true, beq_iff_eq] at hc
  obtain ⟨rfl, hc⟩ := hc
  obtain ⟨k1, k2, h1, h2, rfl⟩ := flatL_cons (by simpa using hk)
  obtain ⟨q1, q2, g1, g2, rfl⟩ := eqRow_append k1 k2 _ _ q he
  have hk1 := flatK_len n _ _ h1
  have hle := consec_le _ _ _ hc
  have hkl := eqRow_len _ _ _ _ he
  simp only [List.length_drop, List.length_append] at hkl
  rw [List.drop_drop, List.drop_drop] at g2
  rw [hk1] at g1 g2
  have p1 := run_part_val w h1 (a.map scalV) (i * P.cellsOf e) (by simp; omega)
  have p2 := run_part_val w h1 (b.map scalV) (i * P.cellsOf e) (by simp; omega)
  rw [← List.map_drop, ← List.map_take] at p1 p2
  have p3 := ih e k1 h1 _ _ q1 g1 w
  have rest := run_eqItems_flat ih is _ k2 a b q2 hc h2 hl g2 w
  simp only [Op.eqItems, Sem.run_bind, p1, p2, p3, Result.andThen_ok]
  cases q1
  ·simp
  ·simpa using rest
theorem eqAt_flat (d : Nat) : ∀ (n : Nat) (t : TypeId), EqAt' P n (d + n) t
 | 0, t => fun ks h => by simp [flatK] at h
 | n + 1, t => fun ks h a b q he w => by
  have ih := fun t => eqAt_flat d n t
  have hl := flatK_len _ _ _ h
  have hl2 := eqRow_len _ _ _ _ he
  unfold flatK at h
  unfold valOf
  rw [show d + (n + 1) = (d + n) + 1 from rfl]
  split at h
  ·rename_i ht
   split at h
   ·simp only [Option.some.injEq] at h
    subst h
    match a, b, he with
    | [.bool x], [.bool y], he =>
     simp only [eqRow, Option.some.injEq, Bool.and_true] at he
     simp only [List.map_cons, List.map_nil, List.headD_cons, scalV, ht]
     rw [run_equalIn_bool' w _ _ _ _ ht, he]
   ·cases h
  ·rename_i k ht
   split at h
   ·simp only [Option.some.injEq] at h
    subst h
    match a, b, he with
    | [.int k1 x], [.int k2 y], he =>
     simp only [eqRow] at he
     split at he
     ·rename_i hk
      simp only [Option.some.injEq, Bool.and_true] at he
      obtain ⟨rfl, rfl⟩ := hk
      simp only [List.map_cons, List.map_nil, List.headD_cons, scalV, ht]
      rw [run_equalIn_int w _ _ _ _ _ _ ht, ‹(x == y) = q›]
     ·cases he
   ·cases h
  ·rename_i ht
   split at h
   ·simp only [Option.some.injEq] at h
    subst h
    match a, b, he with
    | [.str x], [.str y], he =>
     simp only [eqRow, Option.some.injEq, Bool.and_true] at he
     simp only [List.map_cons, List.map_nil, List.headD_cons, scalV, ht]
     rw [run_equalIn_string w _ _ _ _ ht]
     simp [ByteArray.toList_eq, he]
   ·cases h
  ·rename_i fs ht
   split at h
   ·rename_i hc
    simp only [Bool.and_eq_true, Bool.not_eq_true'] at hc
    have hfo : P.fieldsOf t = fs := by simp [Program.fieldsOf, ht]
    simp only [ht]
    rw [run_equalIn_struct w _ _ _ _ (by rw [hfo]; exact ht) hc.2, hfo]
    exact run_eqFields_flat ih fs.toList 0 ks a b q (by rw [hl2.1, hl]; exact hc.1.1) hc.1.2 h (by omega) (by simpa using he) w
   ·cases h
  ·rename_i m e ht
   split at h
   ·rename_i hc
    simp only [Bool.and_eq_true, decide_eq_true_eq] at hc
    have hinf : ∃ i, P.info? e = some i := by
     obtain ⟨m, rfl⟩ : ∃ m', m = m' + 1 := ⟨m - 1, by omega⟩
     rw [List.range_succ_eq_map, List.map_cons] at h
     obtain ⟨k1, _, h1, _⟩ := flatL_cons h
     obtain ⟨kd, hu⟩ := flatK_und h1
     exact info_of_underlying hu
    obtain ⟨i, hi⟩ := hinf
    simp only [ht]
    rw [run_equalIn_array w _ _ _ ht hi]
    exact run_eqItems_flat ih (List.range m) 0 ks a b q (by rw [hl2.1, hl]; exact hc.2) h (by omega) (by simpa using he) w
   ·cases h
  ·cases h
theorem ckAt_flat (d : Nat) : ∀ (n : Nat) (t : TypeId), CkAt P n (d + n) t
 | 0, t => fun ks h => by simp [flatK] at h
 | n + 1, t => fun ks h a hal e w => by
  have ih := fun t => ckAt_flat d n t
  have hl := flatK_len _ _ _ h
  unfold flatK at h
  unfold valOf
  rw [show d + (n + 1) = (d + n) + 1 from rfl, Instr.checkKey]
  split at h
  ·rename_i ht
   simp only [ht, Sem.run_bind, run_underlying ht, Result.andThen_ok, Sem.run_pure]
  ·rename_i k ht
   simp only [ht, Sem.run_bind, run_underlying ht, Result.andThen_ok, Sem.run_pure]
  ·rename_i ht
   simp only [ht, Sem.run_bind, run_underlying ht, Result.andThen_ok, Sem.run_pure]
  ·rename_i fs ht
   split at h
   ·rename_i hc
    simp only [Bool.and_eq_true, Bool.not_eq_true'] at hc
    simp only [ht, Sem.run_bind, run_underlying ht, Result.andThen_ok]
    rw [← Array.forIn_toList]
    have key : ∀ (L : List Field) (o : Nat) (ks : List SK), consec P a.length o (L.map fun f => (f.offset, f.type)) = true → (L.all (·.name != "_")) = true → flatL (flatK P n) (L.map (·.type)) = some ks →
      (forIn L PUnit.unit (fun f (_ : PUnit) => if f.name ≠ "_" then (do
       let p ← part f.type (a.map scalV).toArray f.offset
       Instr.checkKey e (d + n) f.type p
       pure (ForInStep.yield PUnit.unit)) else pure (ForInStep.yield PUnit.unit)) : Sem PUnit).run P w = .ok PUnit.unit w := by
     intro L
     induction L with
     | nil => intro o ks _ _ _; simp
     | cons f L ihL =>
      intro o ks hc hn hk
      simp only [List.map_cons, consec, Bool.and_eq_true, beq_iff_eq] at hc
      obtain ⟨rfl, hc⟩ := hc
      simp only [List.all_cons, Bool.and_eq_true, bne_iff_ne, ne_eq] at hn
      obtain ⟨k1, k2, h1, h2, rfl⟩ := flatL_cons (by simpa using hk)
      have hk1 := flatK_len n _ _ h1
      have hle := consec_le _ _ _ hc
      have p1 := run_part_val w h1 (a.map scalV) f.offset (by simp; omega)
      rw [← List.map_drop, ← List.map_take] at p1
      have p2 := ih f.type k1 h1 ((a.drop f.offset).take (P.cellsOf f.type)) (by simp; omega) e w
      have := ihL _ _ hc (by simpa using hn.2) h2
      simp only [List.forIn_cons, Sem.run_bind, hn.1, ne_eq, not_false_eq_true, if_true, p1, p2, Result.andThen_ok, Sem.run_pure]
      exact this
    have := key fs.toList 0 ks (by rw [hal, hl]; exact hc.1.1) hc.1.2 h
    rw [this]; rfl
   ·cases h
  ·rename_i m el ht
   split at h
   ·rename_i hc
    simp only [Bool.and_eq_true, decide_eq_true_eq] at hc
    have hinf : ∃ i, P.info? el = some i := by
     obtain ⟨m, rfl⟩ : ∃ m', m = m' + 1 := ⟨m - 1, by omega⟩
     rw [List.range_succ_eq_map, List.map_cons] at h
     obtain ⟨k1, _, h1, _⟩ := flatL_cons h
     obtain ⟨kd, hu⟩ := flatK_und h1
     exact info_of_underlying hu
    obtain ⟨i, hi⟩ := hinf
    simp only [ht, Sem.run_bind, run_underlying ht, Result.andThen_ok]
    simp only [Std.Legacy.Range.forIn_eq_forIn_range', Std.Legacy.Range.size, Nat.sub_zero, Nat.add_one_sub_one, Nat.div_one]
    rw [← List.range_eq_range']
    have key : ∀ (L : List Nat) (o : Nat) (ks : List SK), consec P a.length o (L.map fun i => (i * P.cellsOf el, el)) = true → flatL (flatK P n) (L.map fun _ => el) = some ks →
      (forIn L PUnit.unit (fun i (_ : PUnit) => do
       Instr.checkKey e (d + n) el (← part el (a.map scalV).toArray (i * (← sizeOf el)))
       pure (ForInStep.yield PUnit.unit)) : Sem PUnit).run P w = .ok PUnit.unit w := by
     intro L
     induction L with
     | nil => intro o ks _ _; simp
     | cons j L ihL =>
      intro o ks hc hk
      simp only [List.map_cons, consec, Bool.and_eq_true, beq_iff_eq] at hc
      obtain ⟨rfl, hc⟩ := hc
      obtain ⟨k1, k2, h1, h2, rfl⟩ := flatL_cons (by simpa using hk)
      have hk1 := flatK_len n _ _ h1
      have hle := consec_le _ _ _ hc
      have p1 := run_part_val w h1 (a.map scalV) (j * P.cellsOf el) (by simp; omega)
      rw [← List.map_drop, ← List.map_take] at p1
      have p2 := ih el k1 h1 ((a.drop (j * P.cellsOf el)).take (P.cellsOf el)) (by simp; omega) e w
      have := ihL _ _ hc h2
      simp only [List.forIn_cons, Sem.run_bind, run_sizeOf w hi, p1, p2, Result.andThen_ok, Sem.run_pure]
      exact this
    have := key (List.range m) 0 ks (by rw [hal, hl]; exact hc.2) h
    rw [this]; rfl
   ·cases h
  ·cases h
theorem eqOk_of {t : TypeId} {ks : List SK} (n : Nat) (hn : n ≤ 10000) (hg : P.eqGuardType P.depth t = false) (hk : flatK P n t = some ks) (ha : tagg P t = some true) : EqOk P t ks := by
 refine ⟨hg, fun a b q h w => ⟨?_, fun e => ?_⟩⟩
 ·have h1 := eqAt_flat (P := P) (10000 - n) n t ks hk a b q h w
  rw [Nat.sub_add_cancel hn] at h1
  unfold valOf at h1
  unfold tagg at ha
  split at ha <;> rename_i hu <;> first | (rw [hu] at h1; exact h1) | (cases ha)
 ·have h1 := ckAt_flat (P := P) (10000 - n) n t ks hk a (eqRow_len _ _ _ _ h).1 e w
  rw [Nat.sub_add_cancel hn] at h1
  unfold valOf at h1
  unfold tagg at ha
  split at ha <;> rename_i hu <;> first | (rw [hu] at h1; exact h1) | (cases ha)
end
end
def annH (f r : Nat) : Option (List Nat × List Nat) :=
 match f, r with
 | 29, 3 => some ([1, 17, 18], [1, 2])
 | 29, 11 => some ([1, 30, 31, 32], [2])
 | 66, 8 => some ([3, 14, 15, 16], [2])
 | 67, 5 => some ([11, 12, 13], [4])
 | 68, 5 => some ([2, 3, 4, 5, 6, 7, 17, 18], [2, 3, 4, 5, 6])
 | 68, 10 => some ([2, 3, 4, 5, 6, 7, 8, 9, 17, 18, 28, 29], [2, 3, 4, 5, 6, 7, 8, 9, 17, 18])
 | 69, 7 => some ([0, 1, 7, 24, 25], [0, 1, 7])
 | 69, 13 => some ([0, 1, 7, 9, 48, 49], [0, 1, 7, 9])
 | 69, 19 => some ([0, 1, 7, 9, 59, 60], [0, 9])
 | 69, 23 => some ([0, 1, 7, 11, 12, 59, 60, 65, 66, 67], [0, 1, 7, 12, 59, 60])
 | 69, 27 => some ([0, 1, 7, 11, 12, 13, 14, 59, 60, 65, 66, 67, 75, 76], [0, 1, 7, 11, 12, 59, 60, 65, 66, 67])
 | 85, 4 => some ([1, 5, 8, 9, 10], [5])
 | 87, 5 => some ([3, 4, 10, 11, 12], [4])
 | 113, 6 => some ([0, 3, 4], [3])
 | 119, 3 => some ([0, 1, 7, 8], [4])
 | _, _ => none
def upH (f d : Nat) : Up :=
 match f, d with
 | 87, 32 => .scopes 1
 | 108, 7 => .scopes 0
 | _, _ => .scopes 0
def keepH (f : Nat) : Bool :=
 match f with
 | 92 => true
 | 108 => true
 | _ => false
def frzH (f : Nat) : Bool :=
 match f with
 | 108 => true
 | _ => false
def borH (f : Nat) : Bool :=
 match f with
 | _ => false
def clnH (f : Nat) : Bool :=
 match f with
 | _ => false
def ownH (f d : Nat) : Bool :=
 match f, d with
 | _, _ => false
def extH : Nat → Option (List GV → Heap → Option (GV × Heap))
 | _ => none
def eqsH (t : Nat) : Option (List SK) :=
 match t with
 | _ => none
def typH (t : Nat) : Bool :=
 match t with
 | _ => false
def liftH (f d : Nat) : Option Nat :=
 match f, d with
 | _, _ => none
def rowH (f d : Nat) : Option Nat :=
 match f, d with
 | _, _ => none
noncomputable def KH : Ctx := { P := Try.prog, keep := keepH, ann := annH, up := upH, own := ownH, frz := frzH, bor := borH, car := fun _ _ => false, cln := clnH, lift := liftH, row := rowH, eqs := eqsH, typ := typH, ext := extH }
theorem clnH_no {f : Nat} (h1 : clnH f = true) (h2 : extH f = none) : False := nomatch h1
theorem extH_ok {f : Nat} {e : List GV → Heap → Option (GV × Heap)} (h : extH f = some e) : ExtOk Try.prog f e := nomatch h
theorem eqsH_ok (t : Nat) (ks : List SK) (h : eqsH t = some ks) : EqOk Try.prog t ks := by
 unfold eqsH at h
 split at h
 all_goals first | (cases h; exact eqOk_of (P := Try.prog) 5 (by omega) (by kernel_rfl) (by kernel_rfl) (by kernel_rfl)) | cases h
theorem ctxH : CtxOk KH where
 cln := fun f h1 h2 => (clnH_no (f := f) h1 h2).elim
 eqs := eqsH_ok
 mixed := by kernel_rfl
 ext := fun f e _ h => extH_ok h
 tab := fun f h => by cases h
def checksT : Blk := .map [(.int .i64 1, .pure (.fn 128)), (.int .i64 2, .pure (.fn 129)), (.int .i64 3, .pure (.fn 130)), (.int .i64 4, .pure (.fn 131)), (.int .i64 5, .pure (.fn 132)), (.int .i64 6, .pure (.fn 133))]
theorem checks_run : gcall KH (gexec KH 100) 92 [] 0 [[]] = some (.map (0, 4097), [[(4097, checksT)]]) := by kernel_rfl
theorem scored_run : ∃ n H', gcall KH (gexec KH n) 22 [] 0 [[]] = some (.pure (.bool true), H') := ⟨3000, [[]], by kernel_rfl⟩
theorem ext_ok {f : Nat} {e : List GV → Heap → Option (GV × Heap)} (h : extOf f = some e) : ExtOk Try.prog f e := by
 unfold extOf at h
 split at h
 all_goals cases h
 ·exact tab_ext (K := KH) ctxH (l := [(.int .i64 1, 128), (.int .i64 2, 129), (.int .i64 3, 130), (.int .i64 4, 131), (.int .i64 5, 132), (.int .i64 6, 133)]) rfl checks_run rfl
 ·refine told_ext ctxH fun x hx => ?_
  rw [List.mem_singleton] at hx
  subst hx
  exact scored_run
theorem eqsOk (cl : List Nat) (t : Nat) (ks : List SK) (h : (KC0 cl).eqs t = some ks) : EqOk Try.prog t ks := by
 have h' : eqsOf t = some ks := h
 unfold eqsOf at h'
 split at h'
 all_goals first | (cases h'; exact eqOk_of (P := Try.prog) 5 (by omega) (by kernel_rfl) (by kernel_rfl) (by kernel_rfl)) | cases h'
theorem tab92 {f : Nat} (h : tabL.contains f = true) : f = 92 := by simpa [tabL] using h
theorem ctxOk0 : CtxOk (KC0 [22, 92]) where
 cln := fun f h1 h2 => by
  have h1' : [22, 92].contains f = true := h1
  have h2' : extOf f = none := h2
  simp at h1'
  rcases h1' with rfl | rfl <;> exact absurd h2' (by simp [extOf])
 eqs := eqsOk _
 mixed := by kernel_rfl
 ext := fun f e _ h => ext_ok h
 tab := fun f h => by
  obtain rfl := tab92 h
  exact ⟨rfl, rfl⟩
theorem ctxOk : CtxOk KC where
 cln := fun f h1 h2 => by
  have h1' : clnL.contains f = true := h1
  have h2' : extOf f = none := h2
  simp [clnL] at h1'
  rcases h1' with rfl | rfl | rfl
  ·exact clone_chk (KC0 [22, 92]) ctxOk0 (n := 20) (g := Try.f108) Try.func108 rfl rfl rfl (by kernel_rfl)
  ·exact absurd h2' (by simp [extOf])
  ·exact absurd h2' (by simp [extOf])
 eqs := eqsOk clnL
 mixed := by kernel_rfl
 ext := fun f e _ h => ext_ok h
 tab := fun f h => by
  obtain rfl := tab92 h
  exact ⟨rfl, rfl⟩
section
open Go.ChangeShapes Go.WideShapes Go.RowKit Go.ChangeAt
theorem law_lifted {H : Type} {enc : TypeId × Value → H} {C : Checked} {os : Os} {f : FuncId} {fn : Func} {s : ChangeSpec} {conds : List PathCond} {K : Ctx} {rec : Rec} (hK : CtxOk K) (hrec : RecOk K.P rec) (hP : K.P = C.prog) (hG : ∀ W : World, GlbRel W (S0 W)) (n : Nat)
  (own : ownKnob C.prog.godebug = none) (started : os.Started) (noInit : C.prog.inits.idxOf? f = none) (hlaid : laidOutB C.prog = true) (hfn : C.prog.funcs[f]? = some fn)
  (hv : s.vars = []) (hs : ∀ ds : List (DataW H), ds.length = fn.params.toList.length → s.fn H ds = { results := [.lit (.bool true)], args := ds })
  {tb : TypeId} (hr : fn.resultTypes = #[tb]) (htb : C.prog.underlying tb = some .bool)
  (hpl : (fn.params.toList.all fun t => plainTy C.prog n t && C.prog.readableRec t && decide (t < C.prog.types.size)) = true)
  (witness : ∃ (w : World) (tape : Tape) (i : Input), w.os = os ∧ (w.forCall tape i).Shaped C.prog ∧ i.vars = [] ∧ Input.okWide C.prog (w.forCall tape i) .any w.heap.size f i ∧
   s.pre6 enc C.prog fn conds false (w.forCall tape i).memory i.args ∧ ({} : Assume).holds C.prog (lone (Frame.enter C.prog f i.args .normal) [] (w.forCall tape i)))
  (hlaw : ∀ pvs : List PV, ArgsP C.prog n fn.params.toList pvs → ∃ H', gcall K rec f (pvs.map .pure) 0 [[]] = some (.pure (.bool true), H')) :
  ReturnsInHanded {} C os f .any (s.pre6 enc C.prog fn conds false) (s.post enc C.prog fn false true false false) := by
 refine returnsInHanded_of_change own started noInit hfn witness ?_
 intro W base args ds gs before hval hW hcnd _
 have hW' := hW
 obtain ⟨p, q, hA, hV, rfl, hfz, hnd⟩ := hW
 simp only [List.all_eq_true, Bool.and_eq_true, decide_eq_true_eq] at hpl
 rw [hv] at hV
 obtain ⟨rfl, rfl⟩ := trodVars_none hV
 obtain ⟨hdl, pvs, a1, a2, a3⟩ := args_rel fn.params.toList args.toList ds p (fun t ht => (hpl t ht).1.1) (fun j t v h1 h2 => hval j t v (by simpa using h1) (by simpa using h2)) hA
 obtain ⟨H', hg⟩ := hlaw pvs a1
 have hc := law_calls hK hrec hg (w := W) (hG W) (vs := args) (by simpa using a2) (fun j hj => by
  have := a3 j (by simpa using hj)
  simpa [List.getD_eq_getElem?_getD] using this)
 rw [hP] at hc
 refine hc.mono fun e W' ⟨he, bel⟩ => ?_
 subst he
 have hfn' : s.fn H (ds ++ []) = { results := [.lit (.bool true)], args := ds } := by rw [List.append_nil]; exact hs ds hdl
 refine ⟨_, rfl, ds, [], p ++ [], [], p, [], hW', ?_, ?_, ?_, bel.frame _, fun h => by cases h⟩
 ·rw [hfn', hr]
  exact trodAll_mk1 (shut_bool htb _)
 ·rw [hfn']
  exact trodAll_below hlaid bel _ _ _ _ (fun t ht => ⟨(hpl t ht).1.2, (hpl t ht).2⟩) hA
 ·rw [hfn', hv]; rfl
end
end Go.Gh

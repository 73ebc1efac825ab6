/- Texts joined: the evaluator over ghost values, its soundness, the walks. Spaces struck and names made short by a program, for the size. -/
import Derived.Test.YtgmohiojddnfgaaGreatDoorGc6f
import Derived.Test.YtgmohiojddnfgaaGreatDoorGc6e
import Derived.Test.YtgmohiojddnfgaaGreatDoorGc6j
import Derived.Test.YtgmohiojddnfgaaGreatDoorGc6k
import Derived.Test.YtgmohiojddnfgaaGreatDoorGc6g
namespace Go.Gh
open Go.Proofs
set_option linter.unusedVariables false
set_option linter.unusedSimpArgs false
set_option linter.unnecessarySimpa false
set_option maxRecDepth 100000
set_option maxHeartbeats 8000000
def annH (f r : Nat) : Option (List Nat × List Nat) :=
 match f, r with
 | 33, 5 => some ([0, 1, 5], [4])
 | 63, 11 => some ([1, 3, 6, 7, 30, 31, 32], [3, 6, 7, 8])
 | 63, 19 => some ([3, 6, 7, 53, 54], [6, 7])
 | 63, 23 => some ([3, 6, 7, 14, 15, 53, 54, 58, 59], [3, 6, 7, 15, 53, 54])
 | 65, 12 => some ([1, 33, 34, 35], [1, 2])
 | 76, 5 => some ([3, 14, 15, 16], [3])
 | 81, 3 => some ([1, 17, 18], [1, 2])
 | 81, 11 => some ([1, 30, 31, 32], [2])
 | 82, 8 => some ([3, 14, 15, 16], [2])
 | 97, 5 => some ([11, 12, 13], [4])
 | 98, 5 => some ([2, 3, 4, 5, 6, 7, 17, 18], [2, 3, 4, 5, 6])
 | 98, 10 => some ([2, 3, 4, 5, 6, 7, 8, 9, 17, 18, 28, 29], [2, 3, 4, 5, 6, 7, 8, 9, 17, 18])
 | 99, 4 => some ([1, 2, 3, 9, 15, 16, 17], [8])
 | 101, 4 => some ([1, 5, 8, 9, 10], [5])
 | 133, 7 => some ([0, 1, 7, 24, 25], [0, 1, 7])
 | 133, 13 => some ([0, 1, 7, 9, 48, 49], [0, 1, 7, 9])
 | 133, 19 => some ([0, 1, 7, 9, 59, 60], [0, 9])
 | 133, 23 => some ([0, 1, 7, 11, 12, 59, 60, 65, 66, 67], [0, 1, 7, 12, 59, 60])
 | 133, 27 => some ([0, 1, 7, 11, 12, 13, 14, 59, 60, 65, 66, 67, 75, 76], [0, 1, 7, 11, 12, 59, 60, 65, 66, 67])
 | 137, 3 => some ([0, 1, 7, 8], [4])
 | 154, 5 => some ([3, 4, 10, 11, 12], [4])
 | 157, 6 => some ([0, 3, 4], [3])
 | _, _ => none
def upH (f d : Nat) : Up :=
 match f, d with
 | 63, 50 => .scopes 1
 | 63, 73 => .scopes 1
 | 76, 29 => .box 3
 | 106, 7 => .scopes 0
 | 154, 32 => .scopes 1
 | _, _ => .scopes 0
def keepH (f : Nat) : Bool :=
 match f with
 | 76 => true
 | 106 => true
 | _ => false
def frzH (f : Nat) : Bool :=
 match f with
 | 63 => true
 | 106 => true
 | _ => false
def borH (f : Nat) : Bool :=
 match f with
 | 60 => true
 | 99 => true
 | 157 => true
 | 97 => true
 | _ => false
def clnH (f : Nat) : Bool :=
 match f with
 | _ => false
def ownH (f d : Nat) : Bool :=
 match f, d with
 | _, _ => false
def extH : Nat → Option (List GV → Heap → Option (GV × Heap))
 | _ => none
def eqsH (t : Nat) : Option (List SK) :=
 match t with
 | 121 => some [.int .i64, .int .i64, .int .i64, .int .i64, .int .i64, .int .i64, .int .i64, .int .i64]
 | _ => none
def typH (t : Nat) : Bool :=
 match t with
 | 5 => true
 | 105 => true
 | _ => false
def liftH (f d : Nat) : Option Nat :=
 match f, d with
 | 76, 27 => some 3
 | _, _ => none
def rowH (f d : Nat) : Option Nat :=
 match f, d with
 | 76, 27 => some 77
 | 76, 29 => some 77
 | _, _ => none
noncomputable def KH : Ctx := { P := Tryz.prog, keep := keepH, ann := annH, up := upH, own := ownH, frz := frzH, bor := borH, car := fun _ _ => false, cln := clnH, lift := liftH, row := rowH, eqs := eqsH, typ := typH, ext := extH }
theorem clnH_no {f : Nat} (h1 : clnH f = true) (h2 : extH f = none) : False := nomatch h1
theorem extH_ok {f : Nat} {e : List GV → Heap → Option (GV × Heap)} (h : extH f = some e) : ExtOk Tryz.prog f e := nomatch h
theorem eqsH_ok (t : Nat) (ks : List SK) (h : eqsH t = some ks) : EqOk Tryz.prog t ks := by
 unfold eqsH at h
 split at h
 all_goals first | (cases h; exact eqOk_of (P := Tryz.prog) 5 (by omega) (by kernel_rfl) (by kernel_rfl) (by kernel_rfl)) | cases h
theorem ctxH : CtxOk KH where
 cln := fun f h1 h2 => (clnH_no (f := f) h1 h2).elim
 eqs := eqsH_ok
 mixed := by kernel_rfl
 ext := fun f e _ h => extH_ok h
section
theorem equalIn_nilnil (P : Program) (w : World) (d : Nat) {t e : TypeId} {b : Option Addr} {len cap : Nat} (hu : P.underlying t = some (.slice e)) : (Op.equalIn (d + 1) t (.slice b len cap) (.slice none 0 0)).run P w = .ok b.isNone w := by
 cases b <;> simp [Op.equalIn, r_underlying w hu]
theorem eql_nil' (P : Program) (w : World) {t e : TypeId} {b : Option Addr} {len cap : Nat} (hu : P.underlying t = some (.slice e)) : (binOp .eql t (.slice b len cap) (.slice none 0 0)).run P w = .ok (.bool b.isNone) w := by
 have := equalIn_nilnil P w 9999 (b := b) (len := len) (cap := cap) hu
 simp only [binOp]
 simp only [Op.equal, Op.maxDepth, Sem.run_bind, this, Result.andThen_ok, Sem.run_pure]
section
variable {w : World}
theorem clone_ok (K : Ctx) (hK : CtxOk K) {n id : Nat} {f : FuncId} {g : Func} {A X D : Code} {t0 t1 t2 : TypeId} {p3 p4 : String} {a3 a4 : Array Edge} {t t' e : TypeId} {st1 stX stD : GSt}
  (hf : K.P.funcs[f]? = some g)
  (hb : g.body = some (.seq A (.seq (.seq (.region id #[⟨some 3, .move (.tmp 0), t0, p3, a3, none⟩, ⟨some 4, .binOp .eql t (.tmp 3) (.const (.slice none 0 0)) t', t1, p4, a4, none⟩] false) (.cond (.tmp 4) X .skip)) D)))
  (hname : (g.name == "runtime.NumGoroutine") = false) (hnt : g.ntmps = 8) (ht : K.P.underlying t = some (.slice e))
  (hA : gexec K n f A ⟨[(0, .pure (.slice []))], [[], []], 8⟩ = some (.normal, st1)) (h0 : look st1.s 0 = .pure (.slice []))
  (hX : gexec K n f X ⟨(4, .pure (.bool true)) :: (3, .pure (.slice [])) :: st1.s, st1.h, 8⟩ = some (.ret, stX)) (hD : gexec K n f D ⟨(4, .pure (.bool false)) :: (3, .pure (.slice [])) :: st1.s, st1.h, 8⟩ = some (.ret, stD))
  (rX : gresults K g stX = some [.nils]) (rD : gresults K g stD = some [.nils]) : CloneOk K.P f := by
 intro w av cap hGl
 have hS : HRel w (fun b => b < w.heap.size) (fun _ _ => none) ([[], []] : Heap) := ⟨fun nm x hx t b hb => by simp at hb, fun nm t b hb => by simp at hb, fun nm nm' t t' b h1 h2 => by simp at h1, fun nm t b hb => by simp at hb, fun b hb => hb, hGl⟩
 have hst : StOk w.heap.size none w (fun b => b < w.heap.size) (fun _ _ => none) ⟨[(0, .pure (.slice []))], [[], []], 8⟩ { tmps := #[.slice av 0 cap] ++ Array.replicate 7 undef, defers := [] } := by
  refine ⟨hS, fun q => ?_, by simp, by simp, Nat.le_refl _, ⟨fun d hd => by simp at hd, .nil⟩, fun l hl => by cases hl⟩
  rw [args_getD]
  simp only [look]
  split
  ·rename_i e; subst e
   exact .pure _ _ (.slice0 _ _)
  ·exact vdead _
 refine ⟨by simp only [callFunc, Sem.run_bind, run_program, Result.andThen, hf, hname, hb]; rfl, ?_⟩
 have fin : ∀ (st : GSt), gresults K g st = some [.nils] → ∀ (e' : Exit) (a' : Act) (w' : World), Post w.heap.size none ⟨[(0, .pure (.slice []))], [[], []], 8⟩ w (fun b => b < w.heap.size) (fun _ _ => none) .ret st e' a' w' →
   e' = .ret ∧ LeavesInM (Fw none) 0 K.P g a'.tmps (fun e w' => (∃ a', e = .returned (.slice a' 0 0)) ∧ w'.os = w.os ∧ w'.tape = w.tape ∧ w'.output = w.output ∧ w.heap.size ≤ w'.heap.size ∧ ∀ b, b < w.heap.size → w'.heap[b]? = w.heap[b]?) a'.defers .returning w' := by
  intro st hres e' a' w' hq
  obtain ⟨q1, q2, q3, S', μ', q4, q5⟩ := hq
  refine ⟨q1, marks_ok (s := st.s) (k := st.h.length - 1) a'.defers w' q4.defs q4.heap q5 (Nat.le_refl _) q4.slots fun w2 h2 e2 s2 => ?_⟩
  obtain ⟨u, u1, u2⟩ := results_run K h2 s2 hres
  refine ⟨u, u1, ?_, e2.os, e2.tape, e2.out, e2.size, fun b hb => e2.same b hb (.inl hb)⟩
  have u3 : VRel w2 S' μ' (st.h.length - 1) u .nils := u2
  cases u3 with
  | nils a => exact ⟨a, rfl⟩
 have hn8 : g.ntmps - (#[Value.slice av 0 cap] : Array Value).size = 7 := by rw [hnt]; rfl
 refine callsIn_of_wp_marks hf hb trivial ?_
 rw [hn8]
 refine wpIn_seq (wpIn_mono (gexec_sound K hK n f A _ _ _ hA _ none w _ _ _ hst) fun e' a1 w1 hq1 => ?_)
 obtain ⟨q1, q2, q3, S1, μ1, q4, q5⟩ := hq1
 simp only [exitOf] at q1; subst q1
 simp only [Exit.then]
 have hv := q4.slots 0
 rw [h0] at hv
 obtain ⟨base, cap1, hbase, _⟩ := hv.pv.slice_inv
 have hlen : st1.h.length = 2 := q2
 refine wpIn_seq (wpIn_seq (wpIn_region ?_))
 have hsz : a1.tmps.size = 8 := q4.nt.trans q3
 have hr : List.range (#[(⟨some 3, .move (.tmp 0), t0, p3, a3, none⟩ : Oper), ⟨some 4, .binOp .eql t (.tmp 3) (.const (.slice none 0 0)) t', t1, p4, a4, none⟩] : Array Oper).size = [0, 1] := rfl
 rw [hr]
 simp only [wpOpsIn]
 simp only [List.getElem?_toArray, List.getElem?_cons_zero, List.getElem?_cons_succ, Region.wanted, if_true]
 refine step_ok K hK (gexec_sound K hK n) q4.heap q4.pos q4.slots (v := .pure (.slice [])) (H' := st1.h) (fn := f) (o := ⟨some 3, .move (.tmp 0), t0, p3, a3, none⟩) (s := st1.s) (by simp [gstep, goCalls, gop, ev, h0]) fun u3 w2 S2 μ2 hv3 hh3 he3 hl3 => ?_
 obtain ⟨base3, cap3, hu3, _⟩ := hv3.pv.slice_inv
 have hu3 : u3 = .slice base3 0 cap3 := hu3
 subst hu3
 have hs1 : ∀ q, VRel w2 S2 μ2 (st1.h.length - 1) (a1.tmps.getD q undef) (look st1.s q) := slots_ev q4.slots q4.heap he3 (Nat.le_refl _) (Nat.le_refl _)
 obtain ⟨z1, z2, z3, z4, z5⟩ := put_slots (st := ⟨st1.s, st1.h, 8⟩) (st' := ⟨(3, .pure (.slice [])) :: st1.s, st1.h, 8⟩) hs1 hsz hv3 rfl rfl (dst := some 3) (by simp [GSt.put])
 refine ⟨fun _ _ => trivial, ?_⟩
 rw [Oper.semAt_eq _ _ _ (fun c e => by cases e)]
 have he0 : (a1.put (some 3) (.slice base3 0 cap3)).eval (.tmp 3) = .slice base3 0 cap3 := by
  show (a1.put (some 3) (.slice base3 0 cap3)).tmps.getD 3 undef = _
  rw [put_getD _ _ _ _ (by omega)]; simp
 have hrun : (execOp (a1.put (some 3) (.slice base3 0 cap3)).eval ⟨some 4, .binOp .eql t (.tmp 3) (.const (.slice none 0 0)) t', t1, p4, a4, none⟩).run K.P w2 = .ok (.value (.bool base3.isNone)) w2 := by
  have hc : (a1.put (some 3) (.slice base3 0 cap3)).eval (.const (.slice none 0 0)) = .slice none 0 0 := rfl
  have hg : (eqGuard .eql t (.tmp 3) (.const (.slice none 0 0)) (.slice base3 0 cap3) (.slice none 0 0)).run K.P w2 = .ok () w2 := by simp [eqGuard]
  simp only [execOp, he0, hc, Sem.run_bind, hg, Result.andThen_ok, eql_nil' K.P w2 ht, Sem.run_pure]
 rw [hrun, Oper.uponIn_value]
 simp only
 have hb4 : VRel w2 S2 μ2 (st1.h.length - 1) (.bool base3.isNone) (.pure (.bool base3.isNone)) := .pure _ _ (.bool _)
 obtain ⟨y1, y2, y3, y4, y5⟩ := put_slots (st := ⟨(3, .pure (.slice [])) :: st1.s, st1.h, 8⟩) (st' := ⟨(4, .pure (.bool base3.isNone)) :: (3, .pure (.slice [])) :: st1.s, st1.h, 8⟩) z1 (z2.trans rfl) hb4 rfl rfl (dst := some 4) (by simp [GSt.put])
 have hst2 : StOk w.heap.size none w2 S2 μ2 ⟨(4, .pure (.bool base3.isNone)) :: (3, .pure (.slice [])) :: st1.s, st1.h, 8⟩ ((a1.put (some 3) (.slice base3 0 cap3)).put (some 4) (.bool base3.isNone)) :=
  ⟨hh3, y1, y2.trans rfl, q4.pos, Nat.le_trans q4.low he3.size, by rw [y5, z5]; exact q4.defs.ev he3, fun l hl => by cases hl⟩
 have hc4 : ((a1.put (some 3) (.slice base3 0 cap3)).put (some 4) (.bool base3.isNone)).eval (.tmp 4) = .bool base3.isNone := by
  show ((a1.put (some 3) (.slice base3 0 cap3)).put (some 4) (.bool base3.isNone)).tmps.getD 4 undef = _
  rw [put_getD _ _ _ _ (by rw [z2]; simp)]; simp
 have hE := q5.trans (he3.level (by simp [hlen]))
 simp only [Exit.then]
 refine wpIn_cond hc4 ?_
 have out : ∀ (st : GSt) (e' : Exit) (a' : Act) (w' : World), Post w.heap.size none ⟨(4, .pure (.bool base3.isNone)) :: (3, .pure (.slice [])) :: st1.s, st1.h, 8⟩ w2 S2 μ2 .ret st e' a' w' →
   Post w.heap.size none ⟨[(0, .pure (.slice []))], [[], []], 8⟩ w (fun b => b < w.heap.size) (fun _ _ => none) .ret st e' a' w' := fun st e' a' w' hq => by
  obtain ⟨k1, k2, k3, S', μ', k4, k5⟩ := hq
  exact ⟨k1, k2.trans hlen, k3, S', μ', k4, hE.trans (k5.level (by simp [hlen]))⟩
 cases hbn : base3.isNone with
 | true =>
  simp only [if_true]
  rw [hbn] at hst2 out
  refine wpIn_mono (gexec_sound K hK n f X _ _ _ hX _ none w2 _ _ _ hst2) fun e' a' w' hq => ?_
  obtain ⟨k1, k2⟩ := fin stX rX e' a' w' (out _ _ _ _ hq)
  subst k1
  exact k2
 | false =>
  simp only [Bool.false_eq_true, if_false]
  rw [hbn] at hst2 out
  refine wpIn_skip ?_
  simp only [Exit.then]
  refine wpIn_mono (gexec_sound K hK n f D _ _ _ hD _ none w2 _ _ _ hst2) fun e' a' w' hq => ?_
  obtain ⟨k1, k2⟩ := fin stD rD e' a' w' (out _ _ _ _ hq)
  subst k1
  exact k2
def isNils1 : Option (List GV) → Bool
 | some [.nils] => true
 | _ => false
def isE : GV → Bool
 | .pure (.slice []) => true
 | _ => false
def clnChk (K : Ctx) (n : Nat) (f : FuncId) (g : Func) (A X D : Code) (t : TypeId) : Bool :=
 match gexec K n f A ⟨[(0, .pure (.slice []))], [[], []], 8⟩ with
 | some (.normal, st1) =>
  isE (look st1.s 0) && (telem K.P t).isSome &&
  (match gexec K n f X ⟨(4, .pure (.bool true)) :: (3, .pure (.slice [])) :: st1.s, st1.h, 8⟩ with | some (.ret, st) => isNils1 (gresults K g st) | _ => false) &&
  (match gexec K n f D ⟨(4, .pure (.bool false)) :: (3, .pure (.slice [])) :: st1.s, st1.h, 8⟩ with | some (.ret, st) => isNils1 (gresults K g st) | _ => false)
 | _ => false
theorem isNils1_eq {x : Option (List GV)} (h : isNils1 x = true) : x = some [.nils] := by
 unfold isNils1 at h
 split at h
 ·rfl
 ·cases h
theorem clone_chk (K : Ctx) (hK : CtxOk K) {n id : Nat} {f : FuncId} {g : Func} {A X D : Code} {t0 t1 : TypeId} {p3 p4 : String} {a3 a4 : Array Edge} {t t' : TypeId}
  (hf : K.P.funcs[f]? = some g)
  (hb : g.body = some (.seq A (.seq (.seq (.region id #[⟨some 3, .move (.tmp 0), t0, p3, a3, none⟩, ⟨some 4, .binOp .eql t (.tmp 3) (.const (.slice none 0 0)) t', t1, p4, a4, none⟩] false) (.cond (.tmp 4) X .skip)) D)))
  (hname : (g.name == "runtime.NumGoroutine") = false) (hnt : g.ntmps = 8) (h : clnChk K n f g A X D t = true) : CloneOk K.P f := by
 unfold clnChk at h
 split at h
 ·rename_i st1 hA
  simp only [Bool.and_eq_true] at h
  obtain ⟨⟨⟨h0, ht⟩, hX⟩, hD⟩ := h
  obtain ⟨e, he⟩ := Option.isSome_iff_exists.1 ht
  have h0' : look st1.s 0 = .pure (.slice []) := by
   unfold isE at h0
   split at h0
   ·assumption
   ·cases h0
  split at hX
  ·rename_i stX eX
   split at hD
   ·rename_i stD eD
    exact clone_ok K hK (t2 := 0) hf hb hname hnt (telem_some he) hA h0' eX eD (isNils1_eq hX) (isNils1_eq hD)
   ·cases hD
  ·cases hX
 ·cases h
end
end
theorem awake_kh : ∃ n H', gcall KH (gexec KH n) 18 [] 0 [[]] = some (.pure (.bool true), H') := ⟨4000, [[]], by kernel_rfl⟩
theorem ext_ok {f : Nat} {e : List GV → Heap → Option (GV × Heap)} (h : extOf f = some e) : ExtOk Tryz.prog f e := by
 unfold extOf at h
 split at h
 all_goals cases h
 ·exact itoa_ext (ρ := Tryz.laysM171_ren) Tryz.laysM171 (by kernel_rfl)
 ·exact atoi_ext (ρ := Tryz.laysC172_ren) Tryz.laysC172 (by kernel_rfl) (by kernel_rfl)
 ·exact split_ext (ρ := Tryz.lays146_ren) Tryz.lays146 (by kernel_rfl) (by kernel_rfl)
 ·exact copy_ext (ρ := Tryz.lays240_ren) Tryz.lays240 Tryz.builderX
 ·refine told_ext ctxH fun x hx => ?_
  rw [List.mem_singleton] at hx
  subst hx
  exact awake_kh
def extL : List Nat := [51, 95, 55, 90, 18]
theorem extL_some {f : Nat} (h1 : extL.contains f = true) (h2 : extOf f = none) : False := by
 simp [extL] at h1
 rcases h1 with rfl | rfl | rfl | rfl | rfl <;> exact absurd h2 (by simp [extOf])
theorem eqsOk (cl : List Nat) (t : Nat) (ks : List SK) (h : (KC0 cl).eqs t = some ks) : EqOk Tryz.prog t ks := by
 have h' : eqsOf t = some ks := h
 unfold eqsOf at h'
 split at h'
 all_goals first | (cases h'; exact eqOk_of (P := Tryz.prog) 5 (by omega) (by kernel_rfl) (by kernel_rfl) (by kernel_rfl)) | cases h'
theorem ctxOk0 : CtxOk (KC0 extL) where
 cln := fun f h1 h2 => (extL_some h1 h2).elim
 eqs := eqsOk extL
 mixed := by kernel_rfl
 ext := fun f e _ h => ext_ok h
theorem ctxOk : CtxOk KC where
 cln := fun f h1 h2 => by
  by_cases hf : f = 106
  ·subst hf
   exact clone_chk (KC0 extL) ctxOk0 (n := 20) (g := Tryz.f106) Tryz.func106 rfl rfl rfl (by kernel_rfl)
  ·refine (extL_some (f := f) ?_ h2).elim
   have h : clnL.contains f = true := h1
   simp [clnL] at h
   rcases h with rfl | rfl | rfl | rfl | rfl | rfl
   ·exact absurd rfl hf
   all_goals decide
 eqs := eqsOk clnL
 mixed := by kernel_rfl
 ext := fun f e _ h => ext_ok h
end Go.Gh

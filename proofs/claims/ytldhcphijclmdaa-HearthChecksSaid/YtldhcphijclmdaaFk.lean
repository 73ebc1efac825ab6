/- HearthChecks: the rounds. -/
import Derived.Test.YtldhcphijclmdaaFj
import Derived.Test.YtldhcphijclmdaaGl
namespace Go.Gh
open Go.Proofs
set_option linter.unusedSimpArgs false
set_option linter.unusedVariables false
set_option maxRecDepth 100000
set_option maxHeartbeats 4000000

noncomputable def kp3 : Nat → Bool := fun f => ([15, 16, 79, 90] : List Nat).contains f
theorem kp3_ok : ∀ f, kept f = false → kp3 f = false := by
  intro f h
  unfold kept at h
  unfold kp3
  simp at h ⊢
  omega
theorem awake3_run (fr : Fr) (c : Nat) : gcall (KC kp3) (gexec (KC kp3) 3000) 14 [] c [fr, []] = some (.pure (.bool true), [fr, []]) := by
  kernel_rfl
theorem awake3_ok (fr : Fr) (c : Nat) : gcall (KC kp3) (geval (KC kp3)) 14 [] c [fr, []] = some (.pure (.bool true), [fr, []]) := gcall_geval (awake3_run fr c)

/-- What the calls of a round answer for one fire. -/
structure RF (cs : List Coal) (ts : List Touch) (g : GV) (F F' : Fr) (B : List Span) (e : Int) (q : Int → Span × Int) (z : Int) : Prop where
  bl : B.length ≤ 1000
  own : ∀ fr c, gcall (KC kp3) (geval (KC kp3)) 21 [g] c [fr, F, []] = some (.pure (.agg [.slice (cs.map Coal.row), .slice (ts.map Touch.row)]), [fr, F', []])
  be : ∀ H c, 0 < H.length → gcall (KC kp3) (geval (KC kp3)) 23 [.pure (.agg [.slice (cs.map Coal.row), .slice (ts.map Touch.row)])] c H = some (.pure (.tuple [.slice (B.map Span.row), .int .i64 e]), H)
  ber : ∀ fr c, gcall (KC kp3) (geval (KC kp3)) 24 [g] c [fr, F', []] = some (.pure (.tuple [.slice (B.map Span.row), .int .i64 e]), [fr, F', []])
  he : ∀ H c m, 0 < H.length → gcall (KC kp3) (geval (KC kp3)) 25 [.pure (.agg [.slice (cs.map Coal.row), .slice (ts.map Touch.row)]), .pure (.int .i64 m)] c H = some (.pure (.tuple [.agg [.int .i64 (q m).1.lo, .int .i64 (q m).1.hi], .int .i64 (q m).2]), H)
  her : ∀ fr c m, gcall (KC kp3) (geval (KC kp3)) 26 [g, .pure (.int .i64 m)] c [fr, F', []] = some (.pure (.tuple [.agg [.int .i64 (q m).1.lo, .int .i64 (q m).1.hi], .int .i64 (q m).2]), [fr, F', []])
  ch : ∀ H c, 0 < H.length → gcall (KC kp3) (geval (KC kp3)) 27 [.pure (.agg [.slice (cs.map Coal.row), .slice (ts.map Touch.row)])] c H = some (.pure (.int .i64 z), H)
  chr : ∀ fr c, gcall (KC kp3) (geval (KC kp3)) 28 [g] c [fr, F', []] = some (.pure (.int .i64 z), [fr, F', []])
  eqf : ∀ fr c, gcall (KC kp3) (geval (KC kp3)) 34 [.pure (.agg [.slice (cs.map Coal.row), .slice (ts.map Touch.row)]), g] c [fr, F', []] = some (.pure (.bool true), [fr, F', []])
/-- And for a kettle with its pours. -/
structure RK (k : Kettle) (l : List Pour) (z1 z2 : Int) : Prop where
  own : ∀ H c, 0 < H.length → gcall (KC kp3) (geval (KC kp3)) 22 [.pure (.slice (l.map Pour.row))] c H = some (.pure (.slice (l.map Pour.row)), H)
  ke : ∀ H c, 0 < H.length → gcall (KC kp3) (geval (KC kp3)) 29 [.pure (.agg [.int .i64 k.water, .int .i64 k.warm.lo, .int .i64 k.warm.hi, .int .i64 k.room, .int .i64 k.gain, .int .i64 k.lose, .int .i64 k.sing, .int .i64 k.boil])] c H = some (.pure (.int .i64 z1), H)
  ker : ∀ H c, 0 < H.length → gcall (KC kp3) (geval (KC kp3)) 30 [.pure (.agg [.int .i64 k.water, .int .i64 k.warm.lo, .int .i64 k.warm.hi, .int .i64 k.room, .int .i64 k.gain, .int .i64 k.lose, .int .i64 k.sing, .int .i64 k.boil])] c H = some (.pure (.int .i64 z1), H)
  po : ∀ H c, 0 < H.length → gcall (KC kp3) (geval (KC kp3)) 31 [.pure (.agg [.int .i64 k.water, .int .i64 k.warm.lo, .int .i64 k.warm.hi, .int .i64 k.room, .int .i64 k.gain, .int .i64 k.lose, .int .i64 k.sing, .int .i64 k.boil]), .pure (.slice (l.map Pour.row))] c H = some (.pure (.int .i64 z2), H)
  por : ∀ H c, 0 < H.length → gcall (KC kp3) (geval (KC kp3)) 32 [.pure (.agg [.int .i64 k.water, .int .i64 k.warm.lo, .int .i64 k.warm.hi, .int .i64 k.room, .int .i64 k.gain, .int .i64 k.lose, .int .i64 k.sing, .int .i64 k.boil]), .pure (.slice (l.map Pour.row))] c H = some (.pure (.int .i64 z2), H)
  eq : ∀ H c, 0 < H.length → gcall (KC kp3) (geval (KC kp3)) 35 [.pure (.slice (l.map Pour.row)), .pure (.slice (l.map Pour.row))] c H = some (.pure (.bool true), H)

def sl3 (cs0 : List Coal) (ts0 : List Touch) (a1 a2 : GV) (k0 k1 : Kettle) (l0 l1 : List Pour) (m0 m1 : Int) (i : Int) : Slots :=
  [(16, .lits [[.pure (.slice (cs0.map Coal.row)), .pure (.slice (ts0.map Touch.row))], [a1, a2], [a1, a2]]), (17, .pure (.slice [k0.row, k1.row, k1.row])), (18, .pure (.slice [[.slice (l0.map Pour.row)], [.slice (l1.map Pour.row)], [.slice (l0.map Pour.row)]])), (19, .pure (.slice [irow m0, irow m1, irow m0])), (20, .pure (.int .i64 i))]

theorem clean_litsE {H : Heap} {l0 : Nat} {l : List (List GV)} : clean H l0 (.lits l) = if l.all (allLe l0) then .lits l else gdead := .trans rfl rfl
section
variable {cs0 cs1 : List Coal} {ts0 ts1 : List Touch} {a1 a2 : GV} {k0 k1 : Kettle} {l0 l1 : List Pour} {m0 m1 : Int} {F F' : Fr} {B0 B1 : List Span} {e0 e1 : Int} {q0 q1 : Int → Span × Int} {z0 z1 y1 y2 : Int}
theorem clean3 (hle : allLe 1 [a1, a2] = true) (H : Heap) : clean H 1 (.lits [[.pure (.slice (cs0.map Coal.row)), .pure (.slice (ts0.map Touch.row))], [a1, a2], [a1, a2]]) = .lits [[.pure (.slice (cs0.map Coal.row)), .pure (.slice (ts0.map Touch.row))], [a1, a2], [a1, a2]] := by
  have h0 : allLe 1 [.pure (.slice (cs0.map Coal.row)), .pure (.slice (ts0.map Touch.row))] = true := rfl
  rw [clean_litsE]
  simp [h0, hle]
theorem checks_round0 (hle : allLe 1 [a1, a2] = true) (R : RF cs0 ts0 (.pure (.agg [.slice (cs0.map Coal.row), .slice (ts0.map Touch.row)])) F F B0 e0 q0 z0) (K : RK k0 l0 y1 y2) {Q : GX → GSt → Prop}
    (h : WPL (KC kp3) needT 3 (lp Try.f3 0) [16, 17, 18, 19, 20] [12] Q (sl3 cs0 ts0 a1 a2 k0 k1 l0 l1 m0 m1 1) [F, []] 204) :
    WPL (KC kp3) needT 3 (lp Try.f3 0) [16, 17, 18, 19, 20] [12] Q (sl3 cs0 ts0 a1 a2 k0 k1 l0 l1 m0 m1 0) [F, []] 204 := by
  have hw : IntKind.i64.wrap 1 = 1 := rfl
  have hb := R.bl
  have hES := fun (H : Heap) c hH => eqSpans_ok (keep := kp3) (H := H) (c := c) kp3_ok B0 B0 hH (by omega)
  have hcl := clean3 (cs0 := cs0) (ts0 := ts0) hle
  unfold sl3 at h ⊢
  apply WPL_step
  conv => arg 4; whnf
  simp (config := { maxSteps := 200000 }) [hw, hcl, irow, Kettle.row, Span.row, R.own, R.be, R.ber, R.he, R.her, R.ch, R.chr, R.eqf, K.own, K.ke, K.ker, K.po, K.por, K.eq, hES]
  simpa [irow, Kettle.row] using h
theorem checks_round1 (hle : allLe 1 [a1, a2] = true) (ha : allPure [a1, a2] = none) (R : RF cs1 ts1 (.agg [a1, a2]) F F' B1 e1 q1 z1) (K : RK k1 l1 y1 y2) {Q : GX → GSt → Prop}
    (h : WPL (KC kp3) needT 3 (lp Try.f3 0) [16, 17, 18, 19, 20] [12] Q (sl3 cs0 ts0 a1 a2 k0 k1 l0 l1 m0 m1 2) [F', []] 204) :
    WPL (KC kp3) needT 3 (lp Try.f3 0) [16, 17, 18, 19, 20] [12] Q (sl3 cs0 ts0 a1 a2 k0 k1 l0 l1 m0 m1 1) [F, []] 204 := by
  have hw : IntKind.i64.wrap 2 = 2 := rfl
  have hb := R.bl
  have hES := fun (H : Heap) c hH => eqSpans_ok (keep := kp3) (H := H) (c := c) kp3_ok B1 B1 hH (by omega)
  have hcl := clean3 (cs0 := cs0) (ts0 := ts0) hle
  unfold sl3 at h ⊢
  apply WPL_step
  conv => arg 4; whnf
  simp (config := { maxSteps := 200000 }) [hw, hcl, ha, irow, Kettle.row, Span.row, R.own, R.be, R.ber, R.he, R.her, R.ch, R.chr, R.eqf, K.own, K.ke, K.ker, K.po, K.por, K.eq, hES]
  simpa [irow, Kettle.row] using h
theorem checks_round2 (hle : allLe 1 [a1, a2] = true) (ha : allPure [a1, a2] = none) (R : RF cs1 ts1 (.agg [a1, a2]) F F' B1 e1 q1 z1) (K : RK k1 l0 y1 y2) {Q : GX → GSt → Prop}
    (h : Q (.exit 0) ⟨[(12, gdead)], [F', []], 204⟩) :
    WPL (KC kp3) needT 3 (lp Try.f3 0) [16, 17, 18, 19, 20] [12] Q (sl3 cs0 ts0 a1 a2 k0 k1 l0 l1 m0 m1 2) [F, []] 204 := by
  have hw : IntKind.i64.wrap 3 = 3 := rfl
  have hb := R.bl
  have hES := fun (H : Heap) c hH => eqSpans_ok (keep := kp3) (H := H) (c := c) kp3_ok B1 B1 hH (by omega)
  have hcl := clean3 (cs0 := cs0) (ts0 := ts0) hle
  unfold sl3
  apply WPL_step
  conv => arg 4; whnf
  simp (config := { maxSteps := 200000 }) [hw, hcl, ha, irow, Kettle.row, Span.row, R.own, R.be, R.ber, R.he, R.her, R.ch, R.chr, R.eqf, K.own, K.ke, K.ker, K.po, K.por, K.eq, hES]
  apply WPL_step
  conv => arg 4; whnf
  simp (config := { maxSteps := 200000 }) [hw, hcl, ha, irow, Kettle.row]
  exact h
end
end Go.Gh


/- HearthChecks: the rounds, with pure fires. -/
namespace Go.Gh
open Go.Proofs
set_option linter.unusedSimpArgs false
set_option linter.unusedVariables false
set_option maxRecDepth 100000
set_option maxHeartbeats 4000000

def sl3p (cs0 : List Coal) (ts0 : List Touch) (cs1 : List Coal) (ts1 : List Touch) (k0 k1 : Kettle) (l0 l1 : List Pour) (m0 m1 : Int) (i : Int) : Slots :=
  [(16, .pure (.slice [[.slice (cs0.map Coal.row), .slice (ts0.map Touch.row)], [.slice (cs1.map Coal.row), .slice (ts1.map Touch.row)], [.slice (cs1.map Coal.row), .slice (ts1.map Touch.row)]])), (17, .pure (.slice [k0.row, k1.row, k1.row])), (18, .pure (.slice [[.slice (l0.map Pour.row)], [.slice (l1.map Pour.row)], [.slice (l0.map Pour.row)]])), (19, .pure (.slice [irow m0, irow m1, irow m0])), (20, .pure (.int .i64 i))]

section
variable {cs0 cs1 : List Coal} {ts0 ts1 : List Touch} {k0 k1 : Kettle} {l0 l1 : List Pour} {m0 m1 : Int} {F F' : Fr} {B0 B1 : List Span} {e0 e1 : Int} {q0 q1 : Int → Span × Int} {z0 z1 y1 y2 : Int}
theorem checks_roundP0 (R : RF cs0 ts0 (.pure (.agg [.slice (cs0.map Coal.row), .slice (ts0.map Touch.row)])) F F B0 e0 q0 z0) (K : RK k0 l0 y1 y2) {Q : GX → GSt → Prop}
    (h : WPL (KC kp3) needT 3 (lp Try.f3 0) [16, 17, 18, 19, 20] [12] Q (sl3p cs0 ts0 cs1 ts1 k0 k1 l0 l1 m0 m1 1) [F, []] 204) :
    WPL (KC kp3) needT 3 (lp Try.f3 0) [16, 17, 18, 19, 20] [12] Q (sl3p cs0 ts0 cs1 ts1 k0 k1 l0 l1 m0 m1 0) [F, []] 204 := by
  have hw : IntKind.i64.wrap 1 = 1 := rfl
  have hb := R.bl
  have hES := fun (H : Heap) c hH => eqSpans_ok (keep := kp3) (H := H) (c := c) kp3_ok B0 B0 hH (by omega)
  unfold sl3p at h ⊢
  apply WPL_step
  conv => arg 4; whnf
  simp (config := { maxSteps := 200000 }) [hw, irow, Kettle.row, Span.row, R.own, R.be, R.ber, R.he, R.her, R.ch, R.chr, R.eqf, K.own, K.ke, K.ker, K.po, K.por, K.eq, hES]
  simpa [irow, Kettle.row] using h
theorem checks_roundP1 (R : RF cs1 ts1 (.pure (.agg [.slice (cs1.map Coal.row), .slice (ts1.map Touch.row)])) F F' B1 e1 q1 z1) (K : RK k1 l1 y1 y2) {Q : GX → GSt → Prop}
    (h : WPL (KC kp3) needT 3 (lp Try.f3 0) [16, 17, 18, 19, 20] [12] Q (sl3p cs0 ts0 cs1 ts1 k0 k1 l0 l1 m0 m1 2) [F', []] 204) :
    WPL (KC kp3) needT 3 (lp Try.f3 0) [16, 17, 18, 19, 20] [12] Q (sl3p cs0 ts0 cs1 ts1 k0 k1 l0 l1 m0 m1 1) [F, []] 204 := by
  have hw : IntKind.i64.wrap 2 = 2 := rfl
  have hb := R.bl
  have hES := fun (H : Heap) c hH => eqSpans_ok (keep := kp3) (H := H) (c := c) kp3_ok B1 B1 hH (by omega)
  unfold sl3p at h ⊢
  apply WPL_step
  conv => arg 4; whnf
  simp (config := { maxSteps := 200000 }) [hw, irow, Kettle.row, Span.row, R.own, R.be, R.ber, R.he, R.her, R.ch, R.chr, R.eqf, K.own, K.ke, K.ker, K.po, K.por, K.eq, hES]
  simpa [irow, Kettle.row] using h
theorem checks_roundP2 (R : RF cs1 ts1 (.pure (.agg [.slice (cs1.map Coal.row), .slice (ts1.map Touch.row)])) F F' B1 e1 q1 z1) (K : RK k1 l0 y1 y2) {Q : GX → GSt → Prop}
    (h : Q (.exit 0) ⟨[(12, gdead)], [F', []], 204⟩) :
    WPL (KC kp3) needT 3 (lp Try.f3 0) [16, 17, 18, 19, 20] [12] Q (sl3p cs0 ts0 cs1 ts1 k0 k1 l0 l1 m0 m1 2) [F, []] 204 := by
  have hw : IntKind.i64.wrap 3 = 3 := rfl
  have hb := R.bl
  have hES := fun (H : Heap) c hH => eqSpans_ok (keep := kp3) (H := H) (c := c) kp3_ok B1 B1 hH (by omega)
  unfold sl3p
  apply WPL_step
  conv => arg 4; whnf
  simp (config := { maxSteps := 200000 }) [hw, irow, Kettle.row, Span.row, R.own, R.be, R.ber, R.he, R.her, R.ch, R.chr, R.eqf, K.own, K.ke, K.ker, K.po, K.por, K.eq, hES]
  apply WPL_step
  conv => arg 4; whnf
  simp (config := { maxSteps := 200000 }) [hw, irow, Kettle.row]
  exact h
end
end Go.Gh

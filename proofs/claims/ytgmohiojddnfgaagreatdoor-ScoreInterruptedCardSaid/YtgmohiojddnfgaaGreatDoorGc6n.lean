/- Texts joined: the evaluator over ghost values, its soundness, the walks. Spaces struck and names made short by a program, for the size. -/
import Derived.Test.YtgmohiojddnfgaaGreatDoorGc6j
import Derived.Handed
import Derived.Stop.Joined
import Derived.Shelf.Vars
import Derived.Lib.LaidTab
import Derived.LaidMore
namespace Go.Gh
set_option linter.unusedVariables false
set_option linter.unusedSimpArgs false
set_option linter.unnecessarySimpa false
set_option maxRecDepth 100000
set_option maxHeartbeats 8000000
section
open Go.ChangeShapes Go.WideShapes Go.RowKit Go.ChangeAt
section
variable {P : Program} {H : Type} {enc : TypeId × Value → H}
theorem trodAll_below (hl : laidOutB P = true) {W W' : World} (hb : Below W.heap.size W W') : ∀ (ts : List TypeId) (vs : List Value) (ds : List (DataW H)) (ps : List MemPlace), (∀ t ∈ ts, P.readableRec t = true ∧ t < P.types.size) →
  DataW.TrodAll enc P W 0 (fun _ => true) true ts vs ds ps → DataW.TrodAll enc P W' 0 (fun b => decide (b < W.heap.size)) true ts vs ds ps
 | [], vs, ds, ps, _, h => by
  obtain ⟨rfl, rfl, rfl⟩ := trodAll_nil h
  exact trodAll_mk0
 | t :: ts, vs, ds, ps, ht, h => by
  obtain ⟨v, vs', d, ds', p, q, rfl, rfl, rfl, h1, h2⟩ := trodAll_cons h
  obtain ⟨a1, a2⟩ := ht t (List.mem_cons_self ..)
  have hlt : ∀ x ∈ p, x.block < W.heap.size := by obtain ⟨m, hm⟩ := h1; exact DataW.trod_lt m _ _ _ hm
  exact trodAll_cons_mk (Below.trod hl a1 a2 h1 hb hlt) (trodAll_below hl hb ts vs' ds' q (fun t ht' => ht t (List.mem_cons_of_mem _ ht')) h2)
theorem args_rel {w : World} {base : Nat} {n : Nat} : ∀ (ts : List TypeId) (vs : List Value) (ds : List (DataW H)) (ps : List MemPlace), (∀ t ∈ ts, plainTy P n t = true) →
  (∀ (j : Nat) t v, ts[j]? = some t → vs[j]? = some v → Value.okWide P w .any base t v) →
  DataW.TrodAll enc P w 0 (fun _ => true) true ts vs ds ps → ds.length = ts.length ∧ ∃ pvs, ArgsP P n ts pvs ∧ pvs.length = vs.length ∧ ∀ j, j < vs.length → VRel w (S0 w) mu0 0 (vs.getD j undef) (.pure (pvs.getD j .dead))
 | [], vs, ds, ps, _, _, h => by
  obtain ⟨rfl, rfl, rfl⟩ := trodAll_nil h
  exact ⟨rfl, [], trivial, rfl, by simp⟩
 | t :: ts, vs, ds, ps, ht, hok, h => by
  obtain ⟨v, vs', d, ds', p, q, rfl, rfl, rfl, h1, h2⟩ := trodAll_cons h
  obtain ⟨hl, pvs, a1, a2, a3⟩ := args_rel ts vs' ds' q (fun t ht' => ht t (List.mem_cons_of_mem _ ht')) (fun j t v h1 h2 => hok (j + 1) t v (by simpa using h1) (by simpa using h2)) h2
  obtain ⟨pv, b1, b2⟩ := arg_rel (ht t (List.mem_cons_self ..)) (hok 0 t v rfl rfl) h1
  refine ⟨by simp [hl], pv :: pvs, ⟨b2, a1⟩, by simp [a2], fun j hj => ?_⟩
  cases j with
  | zero => exact b1
  | succ j => exact a3 j (by simpa using hj)
end
theorem hrel0 (w : World) (hG : GlbRel w (S0 w)) : HRel w (S0 w) mu0 [[]] :=
 ⟨fun nm x hx => by simp [Heap.get, Fr.get] at hx, fun nm t b h => by simp [mu0] at h, fun nm nm' t t' b h => by simp [mu0] at h, fun nm t b h => by simp [mu0] at h, fun b h => h, hG⟩
theorem below_of_ev {w w' : World} {S' : Nat → Prop} {μ' : Mu} {l : Nat} (h : Ev l w (S0 w) mu0 w' S' μ') : Below w.heap.size w w' :=
 ⟨h.os, h.tape, h.out, h.size, fun k hk => h.same k hk (.inl hk)⟩
theorem law_calls {K : Ctx} (hK : CtxOk K) {rec : Rec} (hrec : RecOk K.P rec) {f : FuncId} {pvs : List PV} {H' : Heap} (h : gcall K rec f (pvs.map .pure) 0 [[]] = some (.pure (.bool true), H')) {w : World} (hG : GlbRel w (S0 w)) {vs : Array Value}
  (hl : pvs.length = vs.size) (hrel : ∀ j, j < vs.size → VRel w (S0 w) mu0 0 (vs.getD j undef) (.pure (pvs.getD j .dead))) :
  Calls K.P f vs w fun e w' => e = .returned (.bool true) ∧ Below w.heap.size w w' := by
 obtain ⟨_, h2⟩ := call_ok K hK hrec h (hrel0 w hG) (vs := vs) (by simp [hl]) (fun j hj => by
  have hj' : j < pvs.length := by simpa using hj
  have e : (pvs.map GV.pure).getD j gdead = .pure (pvs.getD j .dead) := by simp [List.getD_eq_getElem?_getD, hj']
  rw [e]
  exact hrel j (by omega))
 refine (callsIn_wide (n := 0).1 h2).mono fun e w' hd => ?_
 obtain ⟨u, S', μ', rfl, hv, _, hev, _⟩ := hd
 cases hv with
 | pure _ _ hp =>
  cases hp
  exact ⟨rfl, below_of_ev hev⟩
theorem glb_tab {P : Program} {W : World} {name : String} {k : IntKind} {zs : List Int} {laid : List (String × DataW Unit)} {i : Nat} {g : Nat} {t e : TypeId} {n : Nat}
  (hL : laidMet P laid W) (hi : laid[i]? = some (name, Lib.tabData k zs))
  (hg : P.globalNamed name = some g) (hty : (P.globals[g]?).map (·.type) = some t) (ht : P.underlying t = some (.array n e)) (he : P.underlying e = some (.int k)) (hce : P.cellsOf e = 1) (hct : P.cellsOf t = n) :
  S0 W g ∧ ∃ c ty fr, W.heap[g]? = some (.cells c ty fr) ∧ c.size = (zs.map fun z => GQ.int k z).length ∧ ∀ j, (h : j < (zs.map fun z => GQ.int k z).length) → ∃ u, c[j]? = some u ∧ GqRel (zs.map fun z => GQ.int k z)[j] u := by
 obtain ⟨ps, hvars, _⟩ := hL
 have key : ∀ (l : List (String × DataW Unit)) (i : Nat) (ps : List MemPlace), l[i]? = some (name, Lib.tabData k zs) → DataW.LaidVars P W l ps → W.var? P name = some (zs.map fun z => Value.int k z).toArray := by
  intro l
  induction l with
  | nil => intro i ps h; simp at h
  | cons x l ih =>
   intro i ps hi h
   obtain ⟨nm, d⟩ := x
   obtain ⟨g', t', cs, fuel, p, q, hg', ht', hvar, hd, h2, _⟩ := h
   cases i with
   | zero =>
    simp only [List.getElem?_cons_zero, Option.some.injEq, Prod.mk.injEq] at hi
    obtain ⟨rfl, rfl⟩ := hi
    obtain rfl := Option.some.inj (hg.symm.trans hg')
    obtain rfl := Option.some.inj (hty.symm.trans ht')
    rw [hvar, ← Lib.cells_of_tab ht he hce hct hd]
   | succ i => exact ih i q (by simpa using hi) h2
 have hv := key laid i ps hi hvars
 unfold World.var? at hv
 rw [hg] at hv
 simp only [Option.bind_some] at hv
 split at hv
 ·rename_i cs ty fr hh
  simp only [Option.some.injEq] at hv
  subst hv
  refine ⟨(Array.getElem?_eq_some_iff.1 hh).1, _, _, _, hh, by simp, fun j hj => ?_⟩
  have hj' : j < zs.length := by simpa using hj
  exact ⟨.int k zs[j], by simp [hj'], by simp [GqRel]⟩
 ·cases hv
theorem cells_of_strs {H : Type} {enc : TypeId × Value → H} {P : Program} {w : World} {base : Nat} {sp : Nat → Bool} {held : Bool} {fuel : Nat} {t e : TypeId} {n : Nat} {cs : List Value} {ss : List (List UInt8)} {p : List MemPlace}
  (ht : P.underlying t = some (.array n e)) (he : P.underlying e = some .string) (hce : P.cellsOf e = 1) (hct : P.cellsOf t = n)
  (h : DataW.trod enc P w base sp held fuel t cs = some (.agg (ss.map fun s => .lit (.string s)), p)) : cs.length = ss.length ∧ ∀ i, (hi : i < ss.length) → ∃ b : ByteArray, cs[i]? = some (.string b) ∧ b.data.toList = ss[i] := by
 cases fuel with
 | zero => simp [DataW.trod] at h
 | succ fuel =>
  simp only [DataW.trod, ht, hce, hct, Nat.mul_one] at h
  split at h
  ·rename_i hl
   obtain ⟨xs, hm, hx⟩ := Option.map_eq_some_iff.1 h
   have hxs : xs.map (·.1) = ss.map fun s => (DataW.lit (.string s) : DataW H) := by
    have := congrArg Prod.fst hx
    simpa using this
   have hxl : xs.length = n := by simpa using Lib.mapM_length hm
   have hsl : ss.length = n := by
    have := congrArg List.length hxs
    simp at this
    omega
   refine ⟨by omega, fun i hi => ?_⟩
   obtain ⟨b, hb, hf⟩ := Lib.mapM_at hm i i (by simp [show i < n by omega])
   obtain ⟨s, hc, rfl, _⟩ := DataW.trod_string he hf
   have h1 : cs[i]? = some (.string s) := by
    have := congrArg (·[0]?) hc
    simpa [List.getElem?_take, List.getElem?_drop] using this
   have h2 : (xs.map (·.1))[i]? = some (DataW.lit (.string s.data.toList) : DataW H) := by simp [hb]
   rw [hxs] at h2
   simp only [List.getElem?_map, List.getElem?_eq_getElem hi, Option.map_some, Option.some.injEq, DataW.lit.injEq, Lit.string.injEq] at h2
   exact ⟨s, h1, h2.symm⟩
  ·cases h
theorem glb_strs {P : Program} {W : World} {name : String} {ss : List (List UInt8)} {laid : List (String × DataW Unit)} {i : Nat} {g : Nat} {t e : TypeId} {n : Nat}
  (hL : laidMet P laid W) (hi : laid[i]? = some (name, .agg (ss.map fun s => .lit (.string s))))
  (hg : P.globalNamed name = some g) (hty : (P.globals[g]?).map (·.type) = some t) (ht : P.underlying t = some (.array n e)) (he : P.underlying e = some .string) (hce : P.cellsOf e = 1) (hct : P.cellsOf t = n) :
  S0 W g ∧ ∃ c ty fr, W.heap[g]? = some (.cells c ty fr) ∧ c.size = (ss.map GQ.str).length ∧ ∀ j, (h : j < (ss.map GQ.str).length) → ∃ u, c[j]? = some u ∧ GqRel (ss.map GQ.str)[j] u := by
 obtain ⟨ps, hvars, _⟩ := hL
 have key : ∀ (l : List (String × DataW Unit)) (i : Nat) (ps : List MemPlace), l[i]? = some (name, .agg (ss.map fun s => .lit (.string s))) → DataW.LaidVars P W l ps → ∃ cs, W.var? P name = some cs ∧ cs.size = ss.length ∧ ∀ i, (hi : i < ss.length) → ∃ b : ByteArray, cs[i]? = some (.string b) ∧ b.data.toList = ss[i] := by
  intro l
  induction l with
  | nil => intro i ps h; simp at h
  | cons x l ih =>
   intro i ps hi h
   obtain ⟨nm, d⟩ := x
   obtain ⟨g', t', cs, fuel, p, q, hg', ht', hvar, hd, h2, _⟩ := h
   cases i with
   | zero =>
    simp only [List.getElem?_cons_zero, Option.some.injEq, Prod.mk.injEq] at hi
    obtain ⟨rfl, rfl⟩ := hi
    obtain rfl := Option.some.inj (hg.symm.trans hg')
    obtain rfl := Option.some.inj (hty.symm.trans ht')
    obtain ⟨k1, k2⟩ := cells_of_strs ht he hce hct hd
    exact ⟨cs, hvar, by simpa using k1, fun i hi => by simpa using k2 i hi⟩
   | succ i => exact ih i q (by simpa using hi) h2
 obtain ⟨cs, hv, hsz, hcs⟩ := key laid i ps hi hvars
 unfold World.var? at hv
 rw [hg] at hv
 simp only [Option.bind_some] at hv
 split at hv
 ·rename_i cs' ty fr hh
  simp only [Option.some.injEq] at hv
  subst hv
  refine ⟨(Array.getElem?_eq_some_iff.1 hh).1, _, _, _, hh, by simpa using hsz, fun j hj => ?_⟩
  have hj' : j < ss.length := by simpa using hj
  obtain ⟨b, h1, h2⟩ := hcs j hj'
  have e : (ss.map GQ.str)[j] = GQ.str ss[j] := by simp
  exact ⟨.string b, h1, by rw [e]; exact ⟨b, rfl, h2⟩⟩
 ·cases hv
theorem law_laid {H : Type} {enc : TypeId × Value → H} {C : Checked} {os : Os} {f : FuncId} {fn : Func} {s : ChangeSpec} {conds : List PathCond} {K : Ctx} {rec : Rec} (hK : CtxOk K) (hrec : RecOk K.P rec) (hP : K.P = C.prog) (n : Nat) (laid : List (String × DataW Unit))
  (hG : ∀ W : World, W.ShapedOpen C.prog → laidMetH C.prog laid W → GlbRel W (S0 W))
  (own : ownKnob C.prog.godebug = none) (started : os.Started) (noInit : C.prog.inits.idxOf? f = none) (hlaid : laidOutB C.prog = true) (hfn : C.prog.funcs[f]? = some fn)
  (hv : s.vars = []) (hs : ∀ ds : List (DataW H), ds.length = fn.params.toList.length → s.fn H ds = { results := [.lit (.bool true)], args := ds })
  {tb : TypeId} (hr : fn.resultTypes = #[tb]) (htb : C.prog.underlying tb = some .bool)
  (hpl : (fn.params.toList.all fun t => plainTy C.prog n t && C.prog.readableRec t && decide (t < C.prog.types.size)) = true)
  (witness : ∃ (w : World) (tape : Tape) (i : Input), w.os = os ∧ (w.forCall tape i).Shaped C.prog ∧ i.vars = [] ∧ Input.okWide C.prog (w.forCall tape i) .any w.heap.size f i ∧
   ((s.pre enc C.prog fn conds false (w.forCall tape i).memory i.args ∧ laidMetH C.prog laid (w.forCall tape i).memory) ∧ sizedMet enc C.prog fn (OpenSpec.ofChange s) false (w.forCall tape i).memory i.args) ∧ ({} : Assume).holds C.prog (lone (Frame.enter C.prog f i.args .normal) [] (w.forCall tape i)))
  (hlaw : ∀ pvs : List PV, ArgsP C.prog n fn.params.toList pvs → ∃ H', gcall K rec f (pvs.map .pure) 0 [[]] = some (.pure (.bool true), H')) :
  ReturnsInHanded {} C os f .any (fun w args => (s.pre enc C.prog fn conds false w args ∧ laidMetH C.prog laid w) ∧ sizedMet enc C.prog fn (OpenSpec.ofChange s) false w args) (s.post enc C.prog fn false true false false) := by
 refine returnsInHanded_of_calls own started noInit witness ?_
 intro w tape i _ hsh _ hok hpre hholds
 obtain ⟨_, _, _, fn', hfn', _, _, _, _, hval⟩ := hok
 have e : fn' = fn := Option.some.inj (hfn'.symm.trans hfn)
 subst e
 obtain ⟨⟨⟨ds, gs, before, hw, hc⟩, hx⟩, hz⟩ := hpre
 have hW := DataW.Whole.of_heap (w' := w.forCall tape i) (by rfl) hw
 have hL : laidMetH C.prog laid (w.forCall tape i) := laidMetH.of_heap (w := (w.forCall tape i).memory) (by rfl) hx
 have hGl := hG _ hsh hL
 generalize w.forCall tape i = W at hW hGl hval hholds
 generalize i.args = args at hW hval hholds
 have key : Calls C.prog f args W fun e W' => ∃ v, e = .returned v ∧ s.post enc C.prog fn' false true false false W args v W' := by
  have hW' := hW
  obtain ⟨p, q, hA, hV, rfl, hfz, hnd⟩ := hW
  simp only [List.all_eq_true, Bool.and_eq_true, decide_eq_true_eq] at hpl
  rw [hv] at hV
  obtain ⟨rfl, rfl⟩ := trodVars_none hV
  obtain ⟨hdl, pvs, a1, a2, a3⟩ := args_rel fn'.params.toList args.toList ds p (fun t ht => (hpl t ht).1.1) (fun j t v h1 h2 => hval j t v (by simpa using h1) (by simpa using h2)) hA
  obtain ⟨H', hg⟩ := hlaw pvs a1
  have hcl := law_calls hK hrec hg (w := W) hGl (vs := args) (by simpa using a2) (fun j hj => by
   have := a3 j (by simpa using hj)
   simpa [List.getD_eq_getElem?_getD] using this)
  rw [hP] at hcl
  refine hcl.mono fun e W' ⟨he, bel⟩ => ?_
  subst he
  have hfn' : s.fn H (ds ++ []) = { results := [.lit (.bool true)], args := ds } := by rw [List.append_nil]; exact hs ds hdl
  refine ⟨_, rfl, ds, [], p ++ [], [], p, [], hW', ?_, ?_, ?_, bel.frame _, fun h => by cases h⟩
  ·rw [hfn', hr]
   exact trodAll_mk1 (shut_bool htb _)
  ·rw [hfn']
   exact trodAll_below hlaid bel _ _ _ _ (fun t ht => ⟨(hpl t ht).1.2, (hpl t ht).2⟩) hA
  ·rw [hfn', hv]; rfl
 refine key.mono fun e W' ⟨v, he, hp⟩ => ?_
 subst he
 exact ChangeSpec.post_blind hp
end
section
open Go.ChangeShapes Go.WideShapes Go.RowKit Go.ChangeAt
theorem trod_iface {H : Type} {enc : TypeId × Value → H} {P : Program} {w : World} {base : Nat} {sp : Nat → Bool} {held : Bool} {fuel : Nat} {t : TypeId} {m : Array (String × TypeId)} {cs : List Value} {x : DataW H × List MemPlace}
  (ht : P.underlying t = some (.interface m)) (h : DataW.trod enc P w base sp held fuel t cs = some x) : ∃ u, cs = [u] ∧ (u = .nilIface ∨ ∃ t v, u = .iface t v) := by
 cases fuel with
 | zero => simp [DataW.trod] at h
 | succ fuel =>
  match cs with
  | [] => simp [DataW.trod, ht] at h
  | [u] =>
   refine ⟨u, rfl, ?_⟩
   cases u with
   | nilIface => exact .inl rfl
   | iface t v => exact .inr ⟨t, v, rfl⟩
   | _ => simp [DataW.trod, ht] at h
  | _ :: _ :: _ => simp [DataW.trod, ht] at h
theorem glb_iface {P : Program} {W : World} {name : String} {d : DataW Unit} {laid : List (String × DataW Unit)} {i : Nat} {g : Nat} {t : TypeId} {m : Array (String × TypeId)}
  (hL : laidMet P laid W) (hi : laid[i]? = some (name, d)) (hg : P.globalNamed name = some g) (hty : (P.globals[g]?).map (·.type) = some t) (ht : P.underlying t = some (.interface m)) :
  S0 W g ∧ ∃ c ty fr, W.heap[g]? = some (.cells c ty fr) ∧ c.size = ([GQ.anyIface] : List GQ).length ∧ ∀ j, (h : j < ([GQ.anyIface] : List GQ).length) → ∃ u, c[j]? = some u ∧ GqRel ([GQ.anyIface] : List GQ)[j] u := by
 obtain ⟨ps, hvars, _⟩ := hL
 have key : ∀ (l : List (String × DataW Unit)) (i : Nat) (ps : List MemPlace), l[i]? = some (name, d) → DataW.LaidVars P W l ps → ∃ cs u, W.var? P name = some cs ∧ cs.toList = [u] ∧ (u = .nilIface ∨ ∃ t v, u = .iface t v) := by
  intro l
  induction l with
  | nil => intro i ps h; simp at h
  | cons x l ih =>
   intro i ps hi h
   obtain ⟨nm, d'⟩ := x
   obtain ⟨g', t', cs, fuel, p, q, hg', ht', hvar, hd, h2, _⟩ := h
   cases i with
   | zero =>
    simp only [List.getElem?_cons_zero, Option.some.injEq, Prod.mk.injEq] at hi
    obtain ⟨rfl, rfl⟩ := hi
    obtain rfl := Option.some.inj (hg.symm.trans hg')
    obtain rfl := Option.some.inj (hty.symm.trans ht')
    obtain ⟨u, h3, h4⟩ := trod_iface ht hd
    exact ⟨cs, u, hvar, h3, h4⟩
   | succ i => exact ih i q (by simpa using hi) h2
 obtain ⟨cs, u, hv, hcs, hu⟩ := key laid i ps hi hvars
 unfold World.var? at hv
 rw [hg] at hv
 simp only [Option.bind_some] at hv
 split at hv
 ·rename_i cs' ty fr hh
  simp only [Option.some.injEq] at hv
  subst hv
  have hsz : cs'.size = 1 := by
   have := congrArg List.length hcs
   simpa using this
  refine ⟨(Array.getElem?_eq_some_iff.1 hh).1, _, _, _, hh, by simpa using hsz, fun j hj => ?_⟩
  have h0 : j = 0 := by simp at hj; exact hj
  subst h0
  have h1 : cs'[0]? = some u := by
   have := congrArg (·[0]?) hcs
   simpa using this
  exact ⟨u, h1, hu⟩
 ·cases hv
theorem glb_int {P : Program} {W : World} {g : Nat} {t : TypeId} {zero : Array Value} {k : IntKind} (h : W.ShapedOpen P) (hg : g < P.globals.size)
  (h0 : ((begin P (fun _ _ => 0) default).world.heap[g]?).bind Obj.row? = some (zero, t)) (hz : zero.size = 1)
  (hb : P.buildable t = true) (hc : P.cellTypes P.depth t = some [t]) (hu : P.underlying t = some (.int k)) :
  S0 W g ∧ ∃ c ty fr, W.heap[g]? = some (.cells c ty fr) ∧ c.size = ([GQ.anyInt k] : List GQ).length ∧ ∀ j, (h : j < ([GQ.anyInt k] : List GQ).length) → ∃ u, c[j]? = some u ∧ GqRel ([GQ.anyInt k] : List GQ)[j] u := by
 obtain ⟨n, hn⟩ := Go.Proofs.cell_of_shapedOpen_int h hg h0 hz hb hc hu
 obtain ⟨cs, hh, hs, _⟩ := h.1 g zero t hg h0
 have h1 : 0 < cs.size := by omega
 have hcell : W.cell? ⟨g, 0, none⟩ = some cs[0] := by simp [World.cell?, hh, h1]
 rw [hcell] at hn
 refine ⟨(Array.getElem?_eq_some_iff.1 hh).1, _, _, _, hh, by simpa using (hs.trans hz), fun j hj => ?_⟩
 have h0 : j = 0 := by simp at hj; exact hj
 subst h0
 exact ⟨cs[0], by simp [h1], ⟨n, by simpa using hn⟩⟩
end
end Go.Gh

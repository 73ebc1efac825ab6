/- Package variables that hold errors, or a number of which nothing is known. -/
import Derived.Test.YtgmohiojddnfgaaGreatDoorLink2
namespace Go.Gh
open Go.ChangeShapes Go.WideShapes Go.RowKit Go.ChangeAt
set_option linter.unusedSimpArgs false
set_option linter.unusedVariables false

theorem trod_iface {H : Type} {enc : TypeId × Value → H} {P : Program} {w : World} {base : Nat} {sp : Nat → Bool} {held : Bool} {fuel : Nat} {t : TypeId} {m : Array (String × TypeId)} {cs : List Value} {x : DataW H × List MemPlace}
    (ht : P.underlying t = some (.interface m)) (h : DataW.trod enc P w base sp held fuel t cs = some x) : ∃ u, cs = [u] ∧ (u = .nilIface ∨ ∃ t v, u = .iface t v) := by
  cases fuel with
  | zero => simp [DataW.trod] at h
  | succ fuel =>
    match cs with
    | [] => simp [DataW.trod, ht] at h
    | [u] =>
      refine ⟨u, rfl, ?_⟩
      cases u with
      | nilIface => exact .inl rfl
      | iface t v => exact .inr ⟨t, v, rfl⟩
      | _ => simp [DataW.trod, ht] at h
    | _ :: _ :: _ => simp [DataW.trod, ht] at h

/-- What is known of an error that the row lists. -/
theorem glb_iface {P : Program} {W : World} {name : String} {d : DataW Unit} {laid : List (String × DataW Unit)} {i : Nat} {g : Nat} {t : TypeId} {m : Array (String × TypeId)}
    (hL : laidMet P laid W) (hi : laid[i]? = some (name, d)) (hg : P.globalNamed name = some g) (hty : (P.globals[g]?).map (·.type) = some t) (ht : P.underlying t = some (.interface m)) :
    S0 W g ∧ ∃ c ty fr, W.heap[g]? = some (.cells c ty fr) ∧ c.size = ([GQ.anyIface] : List GQ).length ∧ ∀ j, (h : j < ([GQ.anyIface] : List GQ).length) → ∃ u, c[j]? = some u ∧ GqRel ([GQ.anyIface] : List GQ)[j] u := by
  obtain ⟨ps, hvars, _⟩ := hL
  have key : ∀ (l : List (String × DataW Unit)) (i : Nat) (ps : List MemPlace), l[i]? = some (name, d) → DataW.LaidVars P W l ps → ∃ cs u, W.var? P name = some cs ∧ cs.toList = [u] ∧ (u = .nilIface ∨ ∃ t v, u = .iface t v) := by
    intro l
    induction l with
    | nil => intro i ps h; simp at h
    | cons x l ih =>
      intro i ps hi h
      obtain ⟨nm, d'⟩ := x
      obtain ⟨g', t', cs, fuel, p, q, hg', ht', hvar, hd, h2, _⟩ := h
      cases i with
      | zero =>
        simp only [List.getElem?_cons_zero, Option.some.injEq, Prod.mk.injEq] at hi
        obtain ⟨rfl, rfl⟩ := hi
        obtain rfl := Option.some.inj (hg.symm.trans hg')
        obtain rfl := Option.some.inj (hty.symm.trans ht')
        obtain ⟨u, h3, h4⟩ := trod_iface ht hd
        exact ⟨cs, u, hvar, h3, h4⟩
      | succ i => exact ih i q (by simpa using hi) h2
  obtain ⟨cs, u, hv, hcs, hu⟩ := key laid i ps hi hvars
  unfold World.var? at hv
  rw [hg] at hv
  simp only [Option.bind_some] at hv
  split at hv
  · rename_i cs' ty fr hh
    simp only [Option.some.injEq] at hv
    subst hv
    have hsz : cs'.size = 1 := by
      have := congrArg List.length hcs
      simpa using this
    refine ⟨(Array.getElem?_eq_some_iff.1 hh).1, _, _, _, hh, by simpa using hsz, fun j hj => ?_⟩
    have h0 : j = 0 := by simp at hj; exact hj
    subst h0
    have h1 : cs'[0]? = some u := by
      have := congrArg (·[0]?) hcs
      simpa using this
    exact ⟨u, h1, hu⟩
  · cases hv

/-- What is known of a number that the row does not list. -/
theorem glb_int {P : Program} {W : World} {g : Nat} {t : TypeId} {zero : Array Value} {k : IntKind} (h : W.ShapedOpen P) (hg : g < P.globals.size)
    (h0 : ((begin P (fun _ _ => 0) default).world.heap[g]?).bind Obj.row? = some (zero, t)) (hz : zero.size = 1)
    (hb : P.buildable t = true) (hc : P.cellTypes P.depth t = some [t]) (hu : P.underlying t = some (.int k)) :
    S0 W g ∧ ∃ c ty fr, W.heap[g]? = some (.cells c ty fr) ∧ c.size = ([GQ.anyInt k] : List GQ).length ∧ ∀ j, (h : j < ([GQ.anyInt k] : List GQ).length) → ∃ u, c[j]? = some u ∧ GqRel ([GQ.anyInt k] : List GQ)[j] u := by
  obtain ⟨n, hn⟩ := Go.Proofs.cell_of_shapedOpen_int h hg h0 hz hb hc hu
  obtain ⟨cs, hh, hs, _⟩ := h.1 g zero t hg h0
  have h1 : 0 < cs.size := by omega
  have hcell : W.cell? ⟨g, 0, none⟩ = some cs[0] := by simp [World.cell?, hh, h1]
  rw [hcell] at hn
  refine ⟨(Array.getElem?_eq_some_iff.1 hh).1, _, _, _, hh, by simpa using (hs.trans hz), fun j hj => ?_⟩
  have h0 : j = 0 := by simp at hj; exact hj
  subst h0
  exact ⟨cs[0], by simp [h1], ⟨n, by simpa using hn⟩⟩
end Go.Gh

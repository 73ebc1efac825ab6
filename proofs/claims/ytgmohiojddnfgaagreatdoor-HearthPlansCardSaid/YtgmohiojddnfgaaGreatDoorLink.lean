/- The last step: a statement's row from a ghost call that tells 'true'. -/
import Derived.Test.YtgmohiojddnfgaaGreatDoorGhost28
import Derived.ProofKit
import Derived.OpenShut
import Derived.ChangeOld
import Derived.Below
import Derived.Carry
namespace Go.Gh
open Go.ChangeShapes Go.WideShapes Go.RowKit Go.ChangeAt
set_option linter.unusedSimpArgs false
set_option linter.unusedVariables false

/-- The cells of a value of a type. -/
def Shp (P : Program) : Nat → TypeId → List PV → Prop
  | 0, _, _ => False
  | n + 1, t, ps =>
    match P.underlying t with
    | some .bool => ∃ b, ps = [.bool b]
    | some (.int k) => ∃ m, (Lit.int k m).wf = true ∧ ps = [.int k m]
    | some .string => ∃ l : List UInt8, l.length ≤ maxLen ∧ ps = [.str l]
    | some (.slice e) => ∃ rows, rows.length ≤ maxLen ∧ (∀ r ∈ rows, r.length = P.cellsOf e ∧ Shp P n e r) ∧ ps = [.slice rows]
    | some (.struct fs) => ps.length = P.cellsOf t ∧ ∀ f ∈ fs.toList, Shp P n f.type ((ps.drop f.offset).take (P.cellsOf f.type))
    | some (.array m e) => ps.length = P.cellsOf t ∧ ∀ i, i < m → Shp P n e ((ps.drop (i * P.cellsOf e)).take (P.cellsOf e))
    | _ => False

/-- Parts lie one behind the other. -/
def consec (P : Program) (tot : Nat) : Nat → List (Nat × TypeId) → Bool
  | o, [] => o == tot
  | o, (off, t) :: r => off == o && consec P tot (o + P.cellsOf t) r

/-- Types of plain data. -/
def plainTy (P : Program) : Nat → TypeId → Bool
  | 0, _ => false
  | n + 1, t =>
    match P.underlying t with
    | some .bool | some (.int _) | some .string => true
    | some (.slice e) => decide (0 < P.cellsOf e) && plainTy P n e
    | some (.struct fs) => consec P (P.cellsOf t) 0 (fs.toList.map fun f => (f.offset, f.type)) && fs.toList.all fun f => plainTy P n f.type
    | some (.array m e) => consec P (P.cellsOf t) 0 ((List.range m).map fun i => (i * P.cellsOf e, e)) && plainTy P n e
    | _ => false

def S0 (w : World) : Nat → Prop := fun b => b < w.heap.size

/-- Cells that stand to pure ones. -/
def PRow (w : World) (cs : List Value) (ps : List PV) : Prop := ps.length = cs.length ∧ ∀ j, j < cs.length → (cs.getD j undef).oneCell' = true ∧ PRep w (S0 w) (cs.getD j undef) (ps.getD j .dead)

theorem PRow.append {w : World} {a b : List Value} {p q : List PV} (h : PRow w a p) (k : PRow w b q) : PRow w (a ++ b) (p ++ q) := by
  obtain ⟨h1, h2⟩ := h
  obtain ⟨k1, k2⟩ := k
  refine ⟨by simp [h1, k1], fun j hj => ?_⟩
  by_cases hja : j < a.length
  · have e1 : (a ++ b).getD j undef = a.getD j undef := by simp [List.getD_eq_getElem?_getD, List.getElem?_append_left hja]
    have e2 : (p ++ q).getD j .dead = p.getD j .dead := by simp [List.getD_eq_getElem?_getD, List.getElem?_append_left (show j < p.length by omega)]
    rw [e1, e2]; exact h2 j hja
  · have e1 : (a ++ b).getD j undef = b.getD (j - a.length) undef := by simp [List.getD_eq_getElem?_getD, List.getElem?_append_right (show a.length ≤ j by omega)]
    have e2 : (p ++ q).getD j .dead = q.getD (j - a.length) .dead := by rw [List.getD_eq_getElem?_getD, List.getElem?_append_right (show p.length ≤ j by omega), h1, List.getD_eq_getElem?_getD]
    rw [e1, e2]; exact k2 _ (by simp at hj; omega)

theorem one_row {w : World} {v : Value} {p : PV} (h1 : v.oneCell' = true) (h : PRep w (S0 w) v p) : PRow w [v] [p] :=
  ⟨rfl, fun j hj => by have : j = 0 := by simpa using hj
                       subst this; exact ⟨h1, h⟩⟩

section
variable {P : Program} {w : World}
theorem parts_open (n : Nat) {cs : List Value} : ∀ (l : List (Nat × TypeId)) (o : Nat), consec P cs.length o l = true →
    (∀ x ∈ l, ∃ ps, PRow w ((cs.drop x.1).take (P.cellsOf x.2)) ps ∧ Shp P n x.2 ps) →
    o ≤ cs.length ∧ ∃ ps, PRow w (cs.drop o) ps ∧ ∀ x ∈ l, o ≤ x.1 ∧ Shp P n x.2 ((ps.drop (x.1 - o)).take (P.cellsOf x.2))
  | [], o, hc, h => by
    simp only [consec, beq_iff_eq] at hc
    subst hc
    exact ⟨Nat.le_refl _, [], by simp [PRow], by simp⟩
  | (off, t) :: r, o, hc, h => by
    simp only [consec, Bool.and_eq_true, beq_iff_eq] at hc
    obtain ⟨rfl, hc⟩ := hc
    obtain ⟨hle, ps, h1, h2⟩ := parts_open n r _ hc (fun x hx => h x (List.mem_cons_of_mem _ hx))
    obtain ⟨p, q1, q2⟩ := h (off, t) (List.mem_cons_self ..)
    simp only at q1 q2
    have hpl : p.length = P.cellsOf t := by rw [q1.1, List.length_take, List.length_drop]; omega
    refine ⟨by omega, p ++ ps, ?_, fun x hx => ?_⟩
    · have := q1.append h1
      rw [← List.drop_drop, List.take_append_drop] at this
      exact this
    · rcases List.mem_cons.1 hx with rfl | hx
      · refine ⟨Nat.le_refl _, ?_⟩
        simp only [Nat.sub_self, List.drop_zero]
        rw [← hpl, List.take_left]
        exact q2
      · obtain ⟨g1, g2⟩ := h2 x hx
        refine ⟨by omega, ?_⟩
        have e : (p ++ ps).drop (x.1 - off) = ps.drop (x.1 - (off + P.cellsOf t)) := by
          rw [List.drop_append, List.drop_of_length_le (by omega), List.nil_append, hpl, Nat.sub_sub]
        rw [e]; exact g2

theorem open_plain {H : Type} {enc : TypeId × Value → H} : ∀ (n : Nat) (t : TypeId) (fuel : Nat) (cs : List Value) (x : DataW H × List MemPlace), plainTy P n t = true →
    DataW.trod enc P w 0 (fun _ => true) true fuel t cs = some x → ∃ ps, PRow w cs ps ∧ Shp P n t ps := by
  intro n
  induction n with
  | zero => intro t fuel cs x h; simp [plainTy] at h
  | succ n ih =>
    intro t fuel cs x h hx
    unfold plainTy at h
    unfold Shp
    split at h
    · rename_i ht
      obtain ⟨b, rfl, _⟩ := DataW.trod_bool ht hx
      exact ⟨[.bool b], one_row rfl (.bool b), b, rfl⟩
    · rename_i k ht
      obtain ⟨m, rfl, _, hw⟩ := DataW.trod_int ht hx
      exact ⟨[.int k m], one_row rfl (.int k m), m, hw, rfl⟩
    · rename_i ht
      obtain ⟨s, rfl, _, hs⟩ := DataW.trod_string ht hx
      exact ⟨[.str s.data.toList], one_row rfl (.str s), _, by simpa using hs, rfl⟩
    · rename_i e ht
      simp only [Bool.and_eq_true, decide_eq_true_eq] at h
      obtain ⟨he, hp⟩ := h
      rcases DataW.trod_slice ht hx with ⟨rfl, _⟩ | ⟨a, len, cap, elems, rest, m, _, rfl, _, hb, hl, hm, hlen, hel, _, _⟩
      · exact ⟨[.slice []], one_row rfl (.slice0 none 0), [], by simp, by simp, rfl⟩
      · by_cases h0 : len = 0
        · subst h0
          exact ⟨[.slice []], one_row rfl (.slice0 _ _), [], by simp, by simp, rfl⟩
        · have each : ∀ i, i < len → ∃ c ps, w.cells? 0 (a.add (i * P.cellsOf e)) (P.cellsOf e) = some c ∧ PRow w c ps ∧ Shp P n e ps := by
            intro i hi
            have h1 := hel i hi
            rw [List.getElem?_eq_getElem (show i < elems.length by omega), Option.bind_eq_some_iff] at h1
            obtain ⟨c, h1, h2⟩ := h1
            obtain ⟨ps, h3, h4⟩ := ih e m c _ hp h2
            exact ⟨c, ps, h1, h3, h4⟩
          have ch : ∃ fc : Nat → List Value, ∃ fp : Nat → List PV, ∀ i, i < len → w.cells? 0 (a.add (i * P.cellsOf e)) (P.cellsOf e) = some (fc i) ∧ PRow w (fc i) (fp i) ∧ Shp P n e (fp i) := by
            refine ⟨fun i => if h : i < len then Classical.choose (each i h) else [], fun i => if h : i < len then Classical.choose (Classical.choose_spec (each i h)) else [], fun i hi => ?_⟩
            simp only [hi, ↓reduceDIte]
            exact Classical.choose_spec (Classical.choose_spec (each i hi))
          obtain ⟨fc, fp, hf⟩ := ch
          have hcell : ∀ i j, i < len → j < P.cellsOf e → w.cell? (a.add (i * P.cellsOf e + j)) = some ((fc i).getD j undef) := by
            intro i j hi hj
            obtain ⟨h1, _⟩ := hf i hi
            obtain ⟨_, g1, g2⟩ := World.cells?_some h1
            have := g2 j hj
            rw [List.getElem?_eq_getElem (by omega)] at this
            have e1 : (a.add (i * P.cellsOf e)).add j = a.add (i * P.cellsOf e + j) := by
              unfold Addr.add
              by_cases c1 : i * P.cellsOf e = 0 <;> by_cases c2 : j = 0 <;> simp_all [Nat.add_assoc]
            rw [e1] at this
            rw [this, List.getD_eq_getElem?_getD, List.getElem?_eq_getElem (by omega)]; rfl
          obtain ⟨b, off, spot⟩ := a
          have hsp : spot = none := by
            have := World.cell?_spot (hcell 0 0 (by omega) he)
            simpa [Addr.add] using this
          subst hsp
          have hcell' : ∀ i j, i < len → j < P.cellsOf e → w.cell? ⟨b, off + (i * P.cellsOf e + j), none⟩ = some ((fc i).getD j undef) := by
            intro i j hi hj
            have := hcell i j hi hj
            unfold Addr.add at this
            split at this
            · rename_i c; rw [c, Nat.add_zero]; exact this
            · exact this
          have hfl : ∀ i, i < len → (fp i).length = P.cellsOf e ∧ (fc i).length = P.cellsOf e := by
            intro i hi
            obtain ⟨h1, h2, _⟩ := hf i hi
            obtain ⟨_, g1, _⟩ := World.cells?_some h1
            exact ⟨h2.1.trans g1, g1⟩
          have hrows : ((List.range len).map fp).length = len := by simp
          refine ⟨[.slice ((List.range len).map fp)], one_row rfl ?_, _, by rw [hrows]; omega, fun r hr => ?_, rfl⟩
          · have := PRep.slice (w := w) (S := S0 w) b off cap (P.cellsOf e) ((List.range len).map fp) (fun i j => (fc i).getD j undef) (by
                have := hcell' 0 0 (by omega) he
                unfold S0
                refine Classical.byContradiction fun hn => ?_
                have hz : w.heap[b]? = none := Array.getElem?_eq_none (by omega)
                simp [World.cell?, hz] at this) he
              (fun r hr => by obtain ⟨i, hi, rfl⟩ := List.mem_map.1 hr; exact (hfl i (by simpa using hi)).1)
              (fun i j hi hj => hcell' i j (by simpa using hi) hj)
              (fun i j hi hj => by
                have hi' : i < len := by simpa using hi
                exact ((hf i hi').2.1.2 j (by rw [(hfl i hi').2]; exact hj)).1)
              (fun i j hi hj => by
                have hi' : i < len := by simpa using hi
                have e1 : ((List.range len).map fp).getD i [] = fp i := by simp [List.getD_eq_getElem?_getD, hi']
                rw [e1]
                exact ((hf i hi').2.1.2 j (by rw [(hfl i hi').2]; exact hj)).2)
              (by rw [hrows]; exact hl)
            rw [hrows] at this
            exact this
          · obtain ⟨i, hi, rfl⟩ := List.mem_map.1 hr
            have hi' : i < len := by simpa using hi
            exact ⟨(hfl i hi').1, (hf i hi').2.2⟩
    · rename_i fs ht
      simp only [Bool.and_eq_true, List.all_eq_true] at h
      obtain ⟨hc, hp⟩ := h
      obtain ⟨xs, m, _, _, hl, hlen, hfld⟩ := DataW.trod_struct ht hx
      rw [← hl] at hc
      obtain ⟨_, ps, h1, h2⟩ := parts_open (w := w) n _ 0 hc (fun y hy => by
        obtain ⟨f, hf, rfl⟩ := List.mem_map.1 hy
        obtain ⟨i, hi, e⟩ := List.getElem_of_mem hf
        have hi' : i < fs.size := by simpa using hi
        have h3 := hfld i f (by rw [Array.getElem?_eq_getElem hi']; rw [← e]; simp)
        rw [List.getElem?_eq_getElem (by omega)] at h3
        obtain ⟨p, q1, q2⟩ := ih f.type m _ _ (hp f hf) h3
        exact ⟨p, q1, q2⟩)
      rw [List.drop_zero] at h1
      refine ⟨ps, h1, by rw [h1.1, hl], fun f hf => ?_⟩
      exact (h2 (f.offset, f.type) (List.mem_map.2 ⟨f, hf, rfl⟩)).2
    · rename_i k e ht
      simp only [Bool.and_eq_true] at h
      obtain ⟨hc, hp⟩ := h
      obtain ⟨xs, m, _, _, hl, hlen, hfld⟩ := DataW.trod_array ht hx
      rw [← hl] at hc
      obtain ⟨_, ps, h1, h2⟩ := parts_open (w := w) n _ 0 hc (fun y hy => by
        obtain ⟨i, hi, rfl⟩ := List.mem_map.1 hy
        have hi' : i < k := by simpa using hi
        have h3 := hfld i hi'
        rw [List.getElem?_eq_getElem (by omega)] at h3
        obtain ⟨p, q1, q2⟩ := ih e m _ _ hp h3
        exact ⟨p, q1, q2⟩)
      rw [List.drop_zero] at h1
      refine ⟨ps, h1, by rw [h1.1, hl], fun i hi => ?_⟩
      exact (h2 (i * P.cellsOf e, e) (List.mem_map.2 ⟨i, by simpa using hi, rfl⟩)).2
    · cases h

/-- A parameter's pure value. -/
def ArgP (P : Program) (n : Nat) (t : TypeId) (p : PV) : Prop :=
  match P.underlying t with
  | some (.struct _) | some (.array _ _) => ∃ ps, p = .agg ps ∧ Shp P n t ps
  | _ => Shp P n t [p]
def ArgsP (P : Program) (n : Nat) : List TypeId → List PV → Prop
  | [], [] => True
  | t :: ts, p :: ps => ArgP P n t p ∧ ArgsP P n ts ps
  | _, _ => False

def mu0 : Mu := fun _ _ => none

theorem shp_one {n : Nat} {t : TypeId} {ps : List PV} (h : Shp P n t ps) (hs : ∀ fs, P.underlying t ≠ some (.struct fs)) (ha : ∀ m e, P.underlying t ≠ some (.array m e)) : ∃ p, ps = [p] := by
  cases n with
  | zero => exact h.elim
  | succ n =>
    unfold Shp at h
    split at h
    · obtain ⟨b, rfl⟩ := h; exact ⟨_, rfl⟩
    · obtain ⟨m, _, rfl⟩ := h; exact ⟨_, rfl⟩
    · obtain ⟨m, _, rfl⟩ := h; exact ⟨_, rfl⟩
    · obtain ⟨m, _, _, rfl⟩ := h; exact ⟨_, rfl⟩
    · rename_i ht; exact absurd ht (hs _)
    · rename_i ht; exact absurd ht (ha _ _)
    · exact h.elim

theorem arg_rel {H : Type} {enc : TypeId × Value → H} {n : Nat} {t : TypeId} {v : Value} {d : DataW H} {ps0 : List MemPlace} {base : Nat} (hp : plainTy P n t = true) (hok : Value.okWide P w .any base t v)
    (h : DataW.Trod enc P w 0 (fun _ => true) true t v d ps0) : ∃ p, VRel w (S0 w) mu0 0 v (.pure p) ∧ ArgP P n t p := by
  obtain ⟨fuel, hf⟩ := h
  obtain ⟨ps, h1, h2⟩ := open_plain n t fuel _ _ hp hf
  have agg : ∀ cs, v = .agg cs → ∃ p, VRel w (S0 w) mu0 0 v (.pure p) ∧ ∃ ps, p = .agg ps ∧ Shp P n t ps := by
    intro cs e
    subst e
    simp only [Value.cells] at h1
    refine ⟨.agg ps, .pure _ _ (.agg cs ps (by simpa using h1.1.symm) (fun j hj => ?_) (fun j hj => ?_)), ps, rfl, h2⟩
    · have := (h1.2 j (by rw [← h1.1]; exact hj)).1
      simpa [List.getD_eq_getElem?_getD] using this
    · have := (h1.2 j (by rw [← h1.1]; exact hj)).2
      simpa [List.getD_eq_getElem?_getD] using this
  unfold ArgP
  split
  · rename_i fs ht
    obtain ⟨cs, e, _⟩ := okWide_struct ht hok
    exact agg cs e
  · rename_i m e ht
    simp only [Value.okWide, ht] at hok
    obtain ⟨cs, e, _⟩ := hok
    exact agg cs e
  · rename_i hs ha
    obtain ⟨p, rfl⟩ := shp_one h2 (fun fs e => hs fs e) (fun m e e' => ha m e e')
    have hv : v.cells.toList = [v] := by
      have hl := h1.1
      cases v <;> first | rfl | skip
      · exfalso
        rename_i cs
        cases n with
        | zero => exact h2.elim
        | succ n =>
          unfold plainTy at hp
          simp only [Value.okWide] at hok
          split at hp <;> rename_i ht <;> first | (simp [Cell.okWide, Cell.ok, ht] at hok; done) | (exact absurd ht (hs _)) | (exact absurd ht (ha _ _)) | (cases hp; done) | skip
    rw [hv] at h1
    exact ⟨p, .pure _ _ (h1.2 0 (by simp)).2, h2⟩
end
end Go.Gh

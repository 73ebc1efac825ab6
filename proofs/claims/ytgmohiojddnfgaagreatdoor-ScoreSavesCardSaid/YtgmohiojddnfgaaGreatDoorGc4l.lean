/- Shapes of the arguments of the great door seat's claims. -/
import Derived.Test.YtgmohiojddnfgaaGreatDoorGc4k
import Derived.Test.YtgmohiojddnfgaaGreatDoorGc4g
import Derived.Test.YtgmohiojddnfgaaGreatDoorRows
namespace Go.Proofs.YtgmohiojddnfgaaGreatDoor
open Go.Gh Go.RowKit Go.ChangeShapes Go.WideShapes
set_option maxRecDepth 100000
theorem own : ownKnob Tryz.prog.godebug = none := by kernel_rfl
theorem laidOut : laidOutB Tryz.prog = true := by kernel_rfl
theorem shp_ints {n : Nat} {p : PV} (h : ArgP Tryz.prog (n + 2) 26 p) : ∃ l : List Int, l.length ≤ maxLen ∧ p = .slice (l.map irow) := by
  have h33 : Tryz.prog.underlying 26 = some (.slice 3) := Tryz.underlying26
  have h3 : Tryz.prog.underlying 3 = some (.int .i64) := Tryz.underlying3
  unfold ArgP at h
  rw [h33] at h
  simp only [Shp, h33, h3] at h
  obtain ⟨rows, h1, h2, h4⟩ := h
  have key : ∀ rows : List (List PV), (∀ r ∈ rows, ∃ m, (Lit.int .i64 m).wf = true ∧ r = [.int .i64 m]) → ∃ l : List Int, rows = l.map irow := by
    intro rows
    induction rows with
    | nil => intro _; exact ⟨[], rfl⟩
    | cons r rs ih =>
      intro h
      obtain ⟨m, _, rfl⟩ := h _ (List.mem_cons_self ..)
      obtain ⟨l, rfl⟩ := ih (fun r hr => h r (List.mem_cons_of_mem _ hr))
      exact ⟨m :: l, rfl⟩
  obtain ⟨l, rfl⟩ := key rows (fun r hr => (h2 r hr).2)
  simp only [List.cons.injEq, and_true] at h4
  exact ⟨l, by simpa using h1, h4⟩
theorem argsP_cons {P : Program} {n : Nat} {t : TypeId} {ts : List TypeId} {pvs : List PV} (h : ArgsP P n (t :: ts) pvs) : ∃ p ps, pvs = p :: ps ∧ ArgP P n t p ∧ ArgsP P n ts ps := by
  cases pvs with
  | nil => exact h.elim
  | cons p ps => exact ⟨p, ps, rfl, h⟩
theorem argsP_nil {P : Program} {n : Nat} {pvs : List PV} (h : ArgsP P n [] pvs) : pvs = [] := by
  cases pvs with
  | nil => rfl
  | cons p ps => exact h.elim
theorem cells3 : Tryz.prog.cellsOf 3 = 1 := by kernel_rfl
theorem shp_int {n : Nat} {ps : List PV} (h : Shp Tryz.prog (n + 1) 3 ps) : ∃ m, ps = [.int .i64 m] := by
  simp only [Shp, Tryz.underlying3] at h
  obtain ⟨m, _, rfl⟩ := h
  exact ⟨m, rfl⟩
theorem rows_of {α : Type} (f : α → List PV) : ∀ {rows : List (List PV)}, (∀ r ∈ rows, ∃ x : α, r = f x) → ∃ l : List α, rows = l.map f
  | [], _ => ⟨[], rfl⟩
  | r :: rs, h => by
    obtain ⟨x, rfl⟩ := h r (List.mem_cons_self ..)
    obtain ⟨l, rfl⟩ := rows_of f (rows := rs) (fun r hr => h r (List.mem_cons_of_mem _ hr))
    exact ⟨x :: l, rfl⟩
theorem arg_int {n : Nat} {p : PV} (h : ArgP Tryz.prog (n + 1) 3 p) : ∃ m, p = .int .i64 m := by
  unfold ArgP at h
  rw [Tryz.underlying3] at h
  simp only at h
  obtain ⟨m, e⟩ := shp_int h
  simp at e
  exact ⟨m, e⟩
theorem shp_str {n : Nat} {p : PV} (h : ArgP Tryz.prog (n + 1) 9 p) : ∃ l : List UInt8, l.length ≤ maxLen ∧ p = .str l := by
  have h9 : Tryz.prog.underlying 9 = some .string := Tryz.underlying9
  unfold ArgP at h
  rw [h9] at h
  simp only [Shp, h9] at h
  obtain ⟨l, h1, h2⟩ := h
  simp only [List.cons.injEq, and_true] at h2
  exact ⟨l, h1, h2⟩
theorem arg_byte {n : Nat} {p : PV} (h : ArgP Tryz.prog (n + 1) 5 p) : ∃ b : UInt8, p = .int .u8 b.toNat := by
  have h5 : Tryz.prog.underlying 5 = some (.int .u8) := Tryz.underlying5
  unfold ArgP at h
  rw [h5] at h
  simp only [Shp, h5] at h
  obtain ⟨m, hm, e⟩ := h
  simp only [List.cons.injEq, and_true] at e
  subst e
  have hr : IntKind.u8.min ≤ m ∧ m ≤ IntKind.u8.max := by simpa [Lit.wf] using hm
  have k1 : IntKind.u8.min = 0 := rfl
  have k2 : IntKind.u8.max = 255 := rfl
  rw [k1, k2] at hr
  refine ⟨UInt8.ofNat m.toNat, ?_⟩
  have : (UInt8.ofNat m.toNat).toNat = m.toNat := by simp; omega
  rw [this]
  congr 1
  omega
end Go.Proofs.YtgmohiojddnfgaaGreatDoor

/- What the hearth seat's claims share. -/
import Derived.Test.YtldhcphijclmdaaGl
import Derived.Test.YtldhcphijclmdaaFa
import Derived.Test.YtldhcphijclmdaaRows
namespace Go.Proofs.Ytldhcphijclmdaa
open Go.Gh Go.RowKit
set_option maxRecDepth 100000

theorem own : ownKnob Try.prog.godebug = none := by kernel_rfl
theorem laidOut : laidOutB Try.prog = true := by kernel_rfl

theorem shp_ints {n : Nat} {p : PV} (h : ArgP Try.prog (n + 2) 33 p) : ∃ l : List Int, l.length ≤ maxLen ∧ p = .slice (l.map irow) := by
  have h33 : Try.prog.underlying 33 = some (.slice 3) := Try.underlying33
  have h3 : Try.prog.underlying 3 = some (.int .i64) := Try.underlying3
  unfold ArgP at h
  rw [h33] at h
  simp only [Shp, h33, h3] at h
  obtain ⟨rows, h1, h2, h4⟩ := h
  have key : ∀ rows : List (List PV), (∀ r ∈ rows, ∃ m, (Lit.int .i64 m).wf = true ∧ r = [.int .i64 m]) → ∃ l : List Int, rows = l.map irow := by
    intro rows
    induction rows with
    | nil => intro _; exact ⟨[], rfl⟩
    | cons r rs ih =>
      intro h
      obtain ⟨m, _, rfl⟩ := h _ (List.mem_cons_self ..)
      obtain ⟨l, rfl⟩ := ih (fun r hr => h r (List.mem_cons_of_mem _ hr))
      exact ⟨m :: l, rfl⟩
  obtain ⟨l, rfl⟩ := key rows (fun r hr => (h2 r hr).2)
  simp only [List.cons.injEq, and_true] at h4
  exact ⟨l, by simpa using h1, h4⟩
end Go.Proofs.Ytldhcphijclmdaa

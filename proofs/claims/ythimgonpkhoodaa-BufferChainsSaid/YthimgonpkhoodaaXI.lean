/- What comes in: numbers. Own work. -/
import Derived.Test.YthimgonpkhoodaaX5
import Derived.Test.YthimgonpkhoodaaSyR
namespace Go.Proofs.Ythimgonpkhoodaa
open Go Go.Sy Go.Bu
set_option linter.unusedVariables false
set_option linter.unusedSimpArgs false
theorem int1_row {r : List Value} (h : okVs 140737488351232 [.i .i64] r) : ∃ x : Int, r = denL (encI x) ∧ -9223372036854775808 ≤ x ∧ x ≤ 9223372036854775807 := by
  match r, h with
  | [a], h =>
    obtain ⟨h1, _⟩ := h
    cases a <;> simp only [okV] at h1
    rename_i k1 m1
    obtain ⟨rfl, h1a, h1b⟩ := h1
    exact ⟨m1, rfl, by simpa [IntKind.min, IntKind.bits, IntKind.signed] using h1a, by simpa [IntKind.max, IntKind.bits, IntKind.signed] using h1b⟩
end Go.Proofs.Ythimgonpkhoodaa

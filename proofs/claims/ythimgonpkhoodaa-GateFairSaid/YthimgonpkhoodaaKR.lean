/- What comes in. Own work. -/
import Derived.Test.YthimgonpkhoodaaK9
import Derived.Test.YthimgonpkhoodaaSyR
namespace Go.Proofs.Ythimgonpkhoodaa
open Go Go.Sy
set_option linter.unusedVariables false
set_option linter.unusedSimpArgs false
theorem int_row {r : List Value} (h : okVs 140737488351232 [.i .i64] r) : ∃ x : Int, r = denL (encInt .i64 x) ∧ -9223372036854775808 ≤ x ∧ x ≤ 9223372036854775807 := by
  match r, h with
  | [a], h =>
    obtain ⟨h1, _⟩ := h
    cases a <;> simp only [okV] at h1
    rename_i k m
    obtain ⟨rfl, h4, h5⟩ := h1
    exact ⟨m, rfl, by simpa [IntKind.min, IntKind.bits, IntKind.signed] using h4, by simpa [IntKind.max, IntKind.bits, IntKind.signed] using h5⟩
end Go.Proofs.Ythimgonpkhoodaa

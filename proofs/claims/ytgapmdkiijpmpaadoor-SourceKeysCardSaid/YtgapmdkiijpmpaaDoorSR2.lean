/- What comes in: numbers. Own work. -/
import Derived.Test.YtgapmdkiijpmpaaDoorS1
import Derived.Test.YtgapmdkiijpmpaaDoorSyR
namespace Go.Proofs.YtgapmdkiijpmpaaDoor
open Go Go.Sy
set_option linter.unusedVariables false
set_option linter.unusedSimpArgs false
theorem int_row {r : List Value} (h : okVs 140737488351232 [.i .i64] r) : ∃ x : Int, r = denL (encInt .i64 x) ∧ (-9223372036854775808 ≤ x ∧ x ≤ 9223372036854775807) := by
  match r, h with
  | [a], h =>
    obtain ⟨h1, _⟩ := h
    cases a <;> simp only [okV] at h1
    rename_i k n
    obtain ⟨rfl, a1, a2⟩ := h1
    refine ⟨n, rfl, ?_, ?_⟩
    · simpa [IntKind.min, IntKind.bits, IntKind.signed] using a1
    · simpa [IntKind.max, IntKind.bits, IntKind.signed] using a2
end Go.Proofs.YtgapmdkiijpmpaaDoor

/- What comes in: pairs of numbers. Own work. -/
import Derived.Test.YthimgonpkhoodaaV5
import Derived.Test.YthimgonpkhoodaaSyR
namespace Go.Proofs.Ythimgonpkhoodaa
open Go Go.Sy
set_option linter.unusedVariables false
set_option linter.unusedSimpArgs false
theorem int2_row {r : List Value} (h : okVs 140737488351232 [.i .i64, .i .i64] r) : ∃ x : Int × Int, r = denL (enc2 x) ∧ (-9223372036854775808 ≤ x.1 ∧ x.1 ≤ 9223372036854775807) ∧ (-9223372036854775808 ≤ x.2 ∧ x.2 ≤ 9223372036854775807) := by
  match r, h with
  | [a, b], h =>
    obtain ⟨h1, h2, _⟩ := h
    cases a <;> simp only [okV] at h1
    cases b <;> simp only [okV] at h2
    rename_i k m k' m'
    obtain ⟨rfl, h4, h5⟩ := h1
    obtain ⟨rfl, h6, h7⟩ := h2
    exact ⟨(m, m'), rfl, ⟨by simpa [IntKind.min, IntKind.bits, IntKind.signed] using h4, by simpa [IntKind.max, IntKind.bits, IntKind.signed] using h5⟩, by simpa [IntKind.min, IntKind.bits, IntKind.signed] using h6, by simpa [IntKind.max, IntKind.bits, IntKind.signed] using h7⟩
end Go.Proofs.Ythimgonpkhoodaa

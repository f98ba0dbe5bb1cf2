/- What comes in: moves. Own work. -/
import Derived.Test.YthimgonpkhoodaaL8
import Derived.Test.YthimgonpkhoodaaSyR
namespace Go.Proofs.Ythimgonpkhoodaa
open Go Go.Sy
set_option linter.unusedVariables false
set_option linter.unusedSimpArgs false
theorem mv_row {r : List Value} (h : okVs 140737488351232 [.i .i64, .i .i64] r) : ∃ x : Mv, r = denL (encMv x) ∧ okMv x := by
  match r, h with
  | [a, b], h =>
    obtain ⟨h1, h2, _⟩ := h
    cases a <;> simp only [okV] at h1
    cases b <;> simp only [okV] at h2
    rename_i k1 n1 k2 n2
    obtain ⟨rfl, a1, a2⟩ := h1
    obtain ⟨rfl, b1, b2⟩ := h2
    simp only [IntKind.min, IntKind.max, IntKind.bits, IntKind.signed] at *
    exact ⟨⟨n1, n2⟩, rfl, ⟨by simpa using a1, by simpa using a2⟩, by simpa using b1, by simpa using b2⟩
end Go.Proofs.Ythimgonpkhoodaa

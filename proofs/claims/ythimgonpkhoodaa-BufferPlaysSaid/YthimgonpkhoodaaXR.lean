/- What comes in: acts of the buffer. Own work. -/
import Derived.Test.YthimgonpkhoodaaX4
import Derived.Test.YthimgonpkhoodaaSyR
namespace Go.Proofs.Ythimgonpkhoodaa
open Go Go.Sy
set_option linter.unusedVariables false
set_option linter.unusedSimpArgs false
theorem ac4_row {r : List Value} (h : okVs 140737488351232 [.i .i64, .i .i64, .i .i64, .i .i64] r) : ∃ x : Ac4, r = denL (encAc x) ∧ okAc x := by
  match r, h with
  | [a, b, c, d], h =>
    obtain ⟨h1, h2, h3, h4, _⟩ := h
    cases a <;> simp only [okV] at h1
    cases b <;> simp only [okV] at h2
    cases c <;> simp only [okV] at h3
    cases d <;> simp only [okV] at h4
    rename_i k1 m1 k2 m2 k3 m3 k4 m4
    obtain ⟨rfl, h1a, h1b⟩ := h1
    obtain ⟨rfl, h2a, h2b⟩ := h2
    obtain ⟨rfl, h3a, h3b⟩ := h3
    obtain ⟨rfl, h4a, h4b⟩ := h4
    exact ⟨⟨m1, m2, m3, m4⟩, rfl, by simpa [IntKind.min, IntKind.bits, IntKind.signed] using h1a, by simpa [IntKind.max, IntKind.bits, IntKind.signed] using h1b⟩
end Go.Proofs.Ythimgonpkhoodaa

/- An item as it comes in. Own work. -/
import Derived.Test.YtabkpaakffpmjaaP9
import Derived.Test.YtabkpaakffpmjaaSyR
namespace Go.Proofs.Ytabkpaakffpmjaa
open Go Go.Sy Go.Pk
set_option linter.unusedVariables false
set_option linter.unusedSimpArgs false

theorem item_row {r : List Value} (h : okVs 140737488351232 [.b, .i .i64, .s] r) : ∃ x : Itm, r = denL (encItem x) ∧ okI x := by
  match r, h with
  | [a, b, c], h =>
    obtain ⟨h1, h2, h3, _⟩ := h
    cases a <;> simp only [okV] at h1
    cases b <;> simp only [okV] at h2
    cases c <;> simp only [okV] at h3
    rename_i t k n s
    obtain ⟨rfl, h4, h5⟩ := h2
    refine ⟨⟨t, n, s.data.toList⟩, ?_, ?_⟩
    · simp only [encItem, denL]
      rw [den_str]; rfl
    · refine ⟨by simpa [IntKind.min, IntKind.bits, IntKind.signed] using h4, by simpa [IntKind.max, IntKind.bits, IntKind.signed] using h5, ?_⟩
      show s.data.toList.length ≤ _
      rw [Array.length_toList]
      exact h3
end Go.Proofs.Ytabkpaakffpmjaa

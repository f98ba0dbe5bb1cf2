/- What comes in: acts, a plan. Own work. -/
import Derived.Test.YthimgonpkhoodaaL6
import Derived.Test.YthimgonpkhoodaaSyR
namespace Go.Proofs.Ythimgonpkhoodaa
open Go Go.Sy
set_option linter.unusedVariables false
set_option linter.unusedSimpArgs false
theorem plan_row {r : List Value} (h : okVs 140737488351232 [.i .i64, .i .i64] r) : ∃ a b : Int, r = denL [.int .i64 a, .int .i64 b] := by
  match r, h with
  | [a, b], h =>
    obtain ⟨h1, h2, _⟩ := h
    cases a <;> simp only [okV] at h1
    cases b <;> simp only [okV] at h2
    obtain ⟨rfl, _⟩ := h1
    obtain ⟨rfl, _⟩ := h2
    exact ⟨_, _, rfl⟩
theorem ga_row {r : List Value} (h : okVs 140737488351232 [.i .i64, .i .i64, .i .i64, .s, .b] r) : ∃ x : GA, r = denL (encGA x) ∧ okGA x := by
  match r, h with
  | [a, b, c, d, e], h =>
    obtain ⟨h1, h2, h3, h4, h5, _⟩ := h
    cases a <;> simp only [okV] at h1
    cases b <;> simp only [okV] at h2
    cases c <;> simp only [okV] at h3
    cases d <;> simp only [okV] at h4
    cases e <;> simp only [okV] at h5
    rename_i k1 n1 k2 n2 k3 n3 s o
    obtain ⟨rfl, a1, a2⟩ := h1
    obtain ⟨rfl, b1, b2⟩ := h2
    obtain ⟨rfl, c1, c2⟩ := h3
    refine ⟨⟨n1, n2, n3, s.data.toList, o⟩, ?_, ⟨?_, ?_⟩, ?_⟩
    · simp only [encGA, denL]
      rw [den_str]; rfl
    · simpa [IntKind.min, IntKind.bits, IntKind.signed] using a1
    · simpa [IntKind.max, IntKind.bits, IntKind.signed] using a2
    · show s.data.toList.length ≤ _
      rw [Array.length_toList]
      exact h4
end Go.Proofs.Ythimgonpkhoodaa

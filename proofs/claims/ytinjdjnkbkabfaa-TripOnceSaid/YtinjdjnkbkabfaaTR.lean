/- What comes in: acts, numbers. Own work. -/
import Derived.Test.YtinjdjnkbkabfaaT5
import Derived.Test.YtinjdjnkbkabfaaSyR
namespace Go.Proofs.Ytinjdjnkbkabfaa
open Go Go.Sy
set_option linter.unusedVariables false
set_option linter.unusedSimpArgs false
theorem act_row {r : List Value} (h : okVs 140737488351232 [.i .i64, .i .i64, .i .i64, .i .i64] r) : ∃ x : Ac, r = denL (encAct x) ∧ okAc x := by
  match r, h with
  | [a, b, c, d], h =>
    obtain ⟨h1, h2, h3, h4, _⟩ := h
    cases a <;> simp only [okV] at h1
    cases b <;> simp only [okV] at h2
    cases c <;> simp only [okV] at h3
    cases d <;> simp only [okV] at h4
    rename_i k1 n1 k2 n2 k3 n3 k4 n4
    obtain ⟨rfl, a1, a2⟩ := h1
    obtain ⟨rfl, b1, b2⟩ := h2
    obtain ⟨rfl, c1, c2⟩ := h3
    obtain ⟨rfl, d1, d2⟩ := h4
    refine ⟨⟨n1, n2, n3, n4⟩, rfl, ⟨?_, ?_⟩, ?_, ?_⟩
    · simpa [IntKind.min, IntKind.bits, IntKind.signed] using a1
    · simpa [IntKind.max, IntKind.bits, IntKind.signed] using a2
    · simpa [IntKind.min, IntKind.bits, IntKind.signed] using c1
    · simpa [IntKind.max, IntKind.bits, IntKind.signed] using c2
theorem int_row {r : List Value} (h : okVs 140737488351232 [.i .i64] r) : ∃ x : Int, r = denL (encInt .i64 x) ∧ -9223372036854775808 ≤ x ∧ x ≤ 9223372036854775807 := by
  match r, h with
  | [a], h =>
    obtain ⟨h1, _⟩ := h
    cases a <;> simp only [okV] at h1
    rename_i k m
    obtain ⟨rfl, h4, h5⟩ := h1
    exact ⟨m, rfl, by simpa [IntKind.min, IntKind.bits, IntKind.signed] using h4, by simpa [IntKind.max, IntKind.bits, IntKind.signed] using h5⟩
end Go.Proofs.Ytinjdjnkbkabfaa

/- An act as it comes in. Own work. -/
import Derived.Test.YtbmdmeljflmcgaaE5
import Derived.Test.YtbmdmeljflmcgaaE6
import Derived.Test.YtbmdmeljflmcgaaSyR
namespace Go.Proofs.Ytbmdmeljflmcgaa
open Go Go.Sy
set_option linter.unusedVariables false
set_option linter.unusedSimpArgs false

theorem act_row {r : List Value} (h : okVs 140737488351232 [.i .i64, .i .i64, .s] r) : ∃ x : Act, r = denL (encAct x) ∧ okA x := by
  match r, h with
  | [a, b, c], h =>
    obtain ⟨h1, h2, h3, _⟩ := h
    cases a <;> simp only [okV] at h1
    cases b <;> simp only [okV] at h2
    cases c <;> simp only [okV] at h3
    rename_i k m k2 n s
    obtain ⟨rfl, h4, h5⟩ := h1
    obtain ⟨rfl, h6, h7⟩ := h2
    refine ⟨⟨m, n, s.data.toList⟩, ?_, ?_⟩
    · simp only [encAct, denL]
      rw [den_str]; rfl
    · refine ⟨⟨by simpa [IntKind.min, IntKind.bits, IntKind.signed] using h4, by simpa [IntKind.max, IntKind.bits, IntKind.signed] using h5⟩, ⟨by simpa [IntKind.min, IntKind.bits, IntKind.signed] using h6, by simpa [IntKind.max, IntKind.bits, IntKind.signed] using h7⟩⟩
theorem int_row {r : List Value} (h : okVs 140737488351232 [.i .i64] r) : ∃ x : Int, r = denL [.int .i64 x] ∧ -9223372036854775808 ≤ x ∧ x ≤ 9223372036854775807 := by
  match r, h with
  | [a], h =>
    obtain ⟨h1, _⟩ := h
    cases a <;> simp only [okV] at h1
    rename_i k m
    obtain ⟨rfl, h4, h5⟩ := h1
    exact ⟨m, rfl, by simpa [IntKind.min, IntKind.bits, IntKind.signed] using h4, by simpa [IntKind.max, IntKind.bits, IntKind.signed] using h5⟩
end Go.Proofs.Ytbmdmeljflmcgaa

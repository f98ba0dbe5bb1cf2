/- A plan as it comes in. Own work. -/
import Derived.Test.YtmnohdkfnkgcdaaR11
import Derived.Test.YtmnohdkfnkgcdaaSyR
namespace Go.Proofs.Ytmnohdkfnkgcdaa
open Go Go.Sy
set_option linter.unusedVariables false
set_option linter.unusedSimpArgs false
theorem ints3_row {r : List Value} (h : okVs 140737488351232 [.i .i64, .i .i64, .i .i64] r) : ∃ a b c : Int, r = denL [.int .i64 a, .int .i64 b, .int .i64 c] := by
  match r, h with
  | [a, b, c], h =>
    obtain ⟨h1, h2, h3, _⟩ := h
    cases a <;> simp only [okV] at h1
    cases b <;> simp only [okV] at h2
    cases c <;> simp only [okV] at h3
    obtain ⟨rfl, _⟩ := h1
    obtain ⟨rfl, _⟩ := h2
    obtain ⟨rfl, _⟩ := h3
    exact ⟨_, _, _, rfl⟩
end Go.Proofs.Ytmnohdkfnkgcdaa

/- What comes in: events. Own work. -/
import Derived.Test.YtgapmdkiijpmpaaDoorS1
import Derived.Test.YtgapmdkiijpmpaaDoorSyR
namespace Go.Proofs.YtgapmdkiijpmpaaDoor
open Go Go.Sy
set_option linter.unusedVariables false
set_option linter.unusedSimpArgs false
theorem ev_row {r : List Value} (h : okVs 140737488351232 [.s, .s, .i .i64, .i .i64, .i .i64, .i .i64, .s] r) : ∃ x : Evt, r = denL (encEv x) ∧ okE x := by
  match r, h with
  | [a, b, c, d, e, f, g], h =>
    obtain ⟨h1, h2, h3, h4, h5, h6, h7, _⟩ := h
    cases a <;> simp only [okV] at h1
    cases b <;> simp only [okV] at h2
    cases c <;> simp only [okV] at h3
    cases d <;> simp only [okV] at h4
    cases e <;> simp only [okV] at h5
    cases f <;> simp only [okV] at h6
    cases g <;> simp only [okV] at h7
    rename_i s1 s2 k1 n1 k2 n2 k3 n3 k4 n4 s3
    obtain ⟨rfl, _⟩ := h3
    obtain ⟨rfl, _⟩ := h4
    obtain ⟨rfl, _⟩ := h5
    obtain ⟨rfl, _⟩ := h6
    refine ⟨⟨s1.data.toList, s2.data.toList, n1, n2, n3, n4, s3.data.toList⟩, ?_, ?_, ?_, ?_⟩
    · simp only [encEv, denL]
      rw [den_str, den_str, den_str]; rfl
    · show s1.data.toList.length ≤ _
      rw [Array.length_toList]; exact h1
    · show s2.data.toList.length ≤ _
      rw [Array.length_toList]; exact h2
    · show s3.data.toList.length ≤ _
      rw [Array.length_toList]; exact h7
end Go.Proofs.YtgapmdkiijpmpaaDoor

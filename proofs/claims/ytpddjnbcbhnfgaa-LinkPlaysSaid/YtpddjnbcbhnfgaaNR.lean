/- What comes in: texts, moves, acts, a plan. Own work. -/
import Derived.Test.YtpddjnbcbhnfgaaN8
import Derived.Test.YtpddjnbcbhnfgaaSyR
namespace Go.Proofs.Ytpddjnbcbhnfgaa
open Go Go.Sy
set_option linter.unusedVariables false
set_option linter.unusedSimpArgs false
theorem text_row {r : List Value} (h : okVs 140737488351232 [.s] r) : ∃ x : List UInt8, r = denL (encStr x) ∧ x.length ≤ 140737488351232 := by
  match r, h with
  | [a], h =>
    obtain ⟨h1, _⟩ := h
    cases a <;> simp only [okV] at h1
    rename_i s
    refine ⟨s.data.toList, ?_, ?_⟩
    · simp only [encStr, denL]
      rw [den_str]
    · rw [Array.length_toList]
      exact h1
/-- A move of the law of order. -/
structure Mv where
  kind : Int
  n : Int
  t : List UInt8
abbrev encMv (a : Mv) : List SV := [.int .i64 a.kind, .int .i64 a.n, .str a.t]
def i64b (x : Int) : Prop := -9223372036854775808 ≤ x ∧ x ≤ 9223372036854775807
def okMv (a : Mv) : Prop := i64b a.kind ∧ i64b a.n ∧ a.t.length ≤ 140737488351232
theorem i64_of {n : Int} (a1 : IntKind.i64.min ≤ n) (a2 : n ≤ IntKind.i64.max) : i64b n := by
  constructor
  · simpa [IntKind.min, IntKind.bits, IntKind.signed] using a1
  · simpa [IntKind.max, IntKind.bits, IntKind.signed] using a2
theorem mv_row {r : List Value} (h : okVs 140737488351232 [.i .i64, .i .i64, .s] r) : ∃ x : Mv, r = denL (encMv x) ∧ okMv x := by
  match r, h with
  | [a, b, d], h =>
    obtain ⟨h1, h2, h4, _⟩ := h
    cases a <;> simp only [okV] at h1
    cases b <;> simp only [okV] at h2
    cases d <;> simp only [okV] at h4
    rename_i k1 n1 k2 n2 s
    obtain ⟨rfl, a1, a2⟩ := h1
    obtain ⟨rfl, b1, b2⟩ := h2
    refine ⟨⟨n1, n2, s.data.toList⟩, ?_, i64_of a1 a2, i64_of b1 b2, ?_⟩
    · simp only [encMv, denL]
      rw [den_str]; rfl
    · show s.data.toList.length ≤ _
      rw [Array.length_toList]
      exact h4
/-- An act of the law of plays. -/
structure LA where
  kind : Int
  n : Int
  t : List UInt8
  own : Bool
abbrev encLA (a : LA) : List SV := [.int .i64 a.kind, .int .i64 a.n, .str a.t, .bool a.own]
def okLA (a : LA) : Prop := i64b a.kind ∧ i64b a.n ∧ a.t.length ≤ 140737488351232
theorem la_row {r : List Value} (h : okVs 140737488351232 [.i .i64, .i .i64, .s, .b] r) : ∃ x : LA, r = denL (encLA x) ∧ okLA x := by
  match r, h with
  | [a, b, d, e], h =>
    obtain ⟨h1, h2, h4, h5, _⟩ := h
    cases a <;> simp only [okV] at h1
    cases b <;> simp only [okV] at h2
    cases d <;> simp only [okV] at h4
    cases e <;> simp only [okV] at h5
    rename_i k1 n1 k2 n2 s o
    obtain ⟨rfl, a1, a2⟩ := h1
    obtain ⟨rfl, b1, b2⟩ := h2
    refine ⟨⟨n1, n2, s.data.toList, o⟩, ?_, i64_of a1 a2, i64_of b1 b2, ?_⟩
    · simp only [encLA, denL]
      rw [den_str]; rfl
    · show s.data.toList.length ≤ _
      rw [Array.length_toList]
      exact h4
theorem ints5_row {r : List Value} (h : okVs 140737488351232 [.i .i64, .i .i64, .i .i64, .i .i64, .i .i64] r) : ∃ a b c d e : Int, r = denL [.int .i64 a, .int .i64 b, .int .i64 c, .int .i64 d, .int .i64 e] := by
  match r, h with
  | [a, b, c, d, e], h =>
    obtain ⟨h1, h2, h3, h4, h5, _⟩ := h
    cases a <;> simp only [okV] at h1
    cases b <;> simp only [okV] at h2
    cases c <;> simp only [okV] at h3
    cases d <;> simp only [okV] at h4
    cases e <;> simp only [okV] at h5
    obtain ⟨rfl, _⟩ := h1
    obtain ⟨rfl, _⟩ := h2
    obtain ⟨rfl, _⟩ := h3
    obtain ⟨rfl, _⟩ := h4
    obtain ⟨rfl, _⟩ := h5
    exact ⟨_, _, _, _, _, rfl⟩
end Go.Proofs.Ytpddjnbcbhnfgaa

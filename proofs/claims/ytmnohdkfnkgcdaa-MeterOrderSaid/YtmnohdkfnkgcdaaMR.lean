/- What comes in: acts, numbers, pairs. Own work. -/
import Derived.Test.YtmnohdkfnkgcdaaM12
import Derived.Test.YtmnohdkfnkgcdaaSyR
namespace Go.Proofs.Ytmnohdkfnkgcdaa
open Go Go.Sy
set_option linter.unusedVariables false
set_option linter.unusedSimpArgs false
/-- An act: what, which, count, numbers. -/
structure MA where
  c : Int
  w : Int
  k : Int
  n : Int
  x : Int
abbrev encMA (a : MA) : List SV := [.int .i64 a.c, .int .i64 a.w, .int .i64 a.k, .int .i64 a.n, .int .i64 a.x]
def okI64 (x : Int) : Prop := -9223372036854775808 ≤ x ∧ x ≤ 9223372036854775807
def okMA (a : MA) : Prop := okI64 a.c ∧ okI64 a.w ∧ okI64 a.k ∧ okI64 a.n ∧ okI64 a.x
abbrev encP2 (a : Int × Int) : List SV := [.int .i64 a.1, .int .i64 a.2]
theorem ma_row {r : List Value} (h : okVs 140737488351232 [.i .i64, .i .i64, .i .i64, .i .i64, .i .i64] r) : ∃ x : MA, r = denL (encMA x) ∧ okMA x := by
  match r, h with
  | [a, b, c, d, e], h =>
    obtain ⟨h1, h2, h3, h4, h5, _⟩ := h
    cases a <;> simp only [okV] at h1
    cases b <;> simp only [okV] at h2
    cases c <;> simp only [okV] at h3
    cases d <;> simp only [okV] at h4
    cases e <;> simp only [okV] at h5
    rename_i k1 n1 k2 n2 k3 n3 k4 n4 k5 n5
    obtain ⟨rfl, a1, a2⟩ := h1
    obtain ⟨rfl, b1, b2⟩ := h2
    obtain ⟨rfl, c1, c2⟩ := h3
    obtain ⟨rfl, d1, d2⟩ := h4
    obtain ⟨rfl, e1, e2⟩ := h5
    simp only [IntKind.min, IntKind.max, IntKind.bits, IntKind.signed] at *
    exact ⟨⟨n1, n2, n3, n4, n5⟩, rfl, ⟨by simpa using a1, by simpa using a2⟩, ⟨by simpa using b1, by simpa using b2⟩, ⟨by simpa using c1, by simpa using c2⟩, ⟨by simpa using d1, by simpa using d2⟩, ⟨by simpa using e1, by simpa using e2⟩⟩
theorem pair_row {r : List Value} (h : okVs 140737488351232 [.i .i64, .i .i64] r) : ∃ x : Int × Int, r = denL (encP2 x) ∧ okI64 x.1 ∧ okI64 x.2 := by
  match r, h with
  | [a, b], h =>
    obtain ⟨h1, h2, _⟩ := h
    cases a <;> simp only [okV] at h1
    cases b <;> simp only [okV] at h2
    rename_i k1 n1 k2 n2
    obtain ⟨rfl, a1, a2⟩ := h1
    obtain ⟨rfl, b1, b2⟩ := h2
    simp only [IntKind.min, IntKind.max, IntKind.bits, IntKind.signed] at *
    exact ⟨(n1, n2), rfl, ⟨by simpa using a1, by simpa using a2⟩, ⟨by simpa using b1, by simpa using b2⟩⟩
theorem int_row {r : List Value} (h : okVs 140737488351232 [.i .i64] r) : ∃ x : Int, r = denL (encInt .i64 x) ∧ -9223372036854775808 ≤ x ∧ x ≤ 9223372036854775807 := by
  match r, h with
  | [a], h =>
    obtain ⟨h1, _⟩ := h
    cases a <;> simp only [okV] at h1
    rename_i k m
    obtain ⟨rfl, h4, h5⟩ := h1
    exact ⟨m, rfl, by simpa [IntKind.min, IntKind.bits, IntKind.signed] using h4, by simpa [IntKind.max, IntKind.bits, IntKind.signed] using h5⟩
end Go.Proofs.Ytmnohdkfnkgcdaa

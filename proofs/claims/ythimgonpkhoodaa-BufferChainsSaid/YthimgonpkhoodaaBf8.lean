/- The buffer, plainly: a chain grows. Own work. -/
import Derived.Test.YthimgonpkhoodaaBf7
namespace Go.Bu
open Go Go.Sy
set_option linter.unusedVariables false
set_option linter.unusedSimpArgs false
def encI (x : Int) : List SV := [.int .i64 x]
/-- The numbers up to n. -/
def upto (n : Nat) : List Int := (List.range n).map fun i : Nat => (i : Int)
theorem upto_len (n : Nat) : (upto n).length = n := by simp [upto]
theorem upto_succ (n : Nat) : upto (n + 1) = upto n ++ [(n : Int)] := by simp [upto, List.range_succ]
theorem upto_at {n j : Nat} (h : j < n) : (upto n)[j]? = some (j : Int) := by
  unfold upto
  rw [List.getElem?_map, List.getElem?_range h]; rfl
theorem w_old {W : List (Int × Int)} {x : Int × Int} {i : Nat} (hi : i < W.length) : wS (W ++ [x]) i = wS W i ∧ wP (W ++ [x]) i = wP W i := by
  unfold wS wP
  rw [List.getD_eq_getElem?_getD, List.getD_eq_getElem?_getD, List.getElem?_append_left hi]
  exact ⟨rfl, rfl⟩
theorem w_new {W : List (Int × Int)} {s p : Int} : wS (W ++ [(s, p)]) W.length = s ∧ wP (W ++ [(s, p)]) W.length = p := by
  unfold wS wP
  rw [List.getD_eq_getElem?_getD, List.getElem?_append_right (Nat.le_refl _), Nat.sub_self]
  exact ⟨rfl, rfl⟩
structure CI (W : List (Int × Int)) (st pl : Int) : Prop where
  st0 : 0 ≤ st
  st7 : st ≤ 7
  pl0 : 0 ≤ pl
  plN : pl ≤ 9 * W.length
  top : ∀ j, j < W.length → wP W j ≤ pl ∧ wS W j ≤ st
  ris : rising W
  fst : 0 < W.length → 0 ≤ wP W 0
theorem CI.zero : CI [] 0 0 := ⟨by omega, by omega, by omega, by simp, fun j h => absurd h (by simp), fun i j _ h => absurd h (by simp), fun h => absurd h (by simp)⟩
theorem CI.step {W : List (Int × Int)} {st pl s p : Int} (h : CI W st pl) (hs : st ≤ s) (hs7 : s ≤ 7) (hp : pl < p) (hp9 : p ≤ pl + 9) : CI (W ++ [(s, p)]) s p := by
  obtain ⟨h1, h2, h3, h4, h5, h6, h7⟩ := h
  refine ⟨by omega, hs7, by omega, by simp; omega, fun j hj => ?_, fun i j hij hj => ?_, fun _ => ?_⟩
  · have hj : j < W.length + 1 := by simpa using hj
    by_cases hjl : j < W.length
    · rw [(w_old hjl).1, (w_old hjl).2]
      have := h5 j hjl
      omega
    · obtain rfl : j = W.length := by omega
      rw [w_new.1, w_new.2]
      omega
  · have hj : j < W.length + 1 := by simpa using hj
    have hil : i < W.length := by omega
    rw [(w_old hil).2]
    by_cases hjl : j < W.length
    · rw [(w_old hjl).2]
      exact h6 i j hij hjl
    · obtain rfl : j = W.length := by omega
      rw [w_new.2]
      have := (h5 i hil).1
      omega
  · by_cases h0 : 0 < W.length
    · rw [(w_old h0).2]; exact h7 h0
    · have e : W = [] := List.eq_nil_of_length_eq_zero (by omega)
      subst e
      show 0 ≤ p
      omega
theorem CI.put {W : List (Int × Int)} {st pl s p : Int} {N : Nat} (h : CI W st pl) (hw : WF (chE W 0 (W.length - 1)) none N) (hs : st ≤ s) (hs7 : s ≤ 7) (hp : pl < p) (hl : W.length < 61) (hp9 : p ≤ pl + 9) :
    putA (chE W 0 (W.length - 1)) s p ((W.length : Int) - 1) = (((W.length : Int), 0), chE (W ++ [(s, p)]) 0 ((W ++ [(s, p)]).length - 1)) := by
  obtain ⟨h1, h2, h3, h4, h5, h6, h7⟩ := h
  rw [chE_put hw (by omega) (by omega) (fun j hj => by have := h5 j hj; omega)]
  simp
theorem CI.pos {W : List (Int × Int)} {st pl : Int} (h : CI W st pl) {j : Nat} (hj : j < W.length) : 0 ≤ wP W j := by
  have := rising_ge h.ris h.fst j hj
  omega
end Go.Bu

/- What is read stays: plainly. Own work. -/
import Derived.Test.YtgapmdkiijpmpaaDoorS7
import Derived.Test.YtgapmdkiijpmpaaDoorS6
namespace Go.Proofs.YtgapmdkiijpmpaaDoor
open Go Go.Sy Go.Sp
set_option maxRecDepth 100000
set_option linter.unusedVariables false
set_option linter.unusedSimpArgs false
/-- The second has the first's lists as beginnings. -/
def Pre (A B : List (List Evt)) : Prop := A.length = B.length ∧ ∀ (p : Nat) (a b : List Evt), A[p]? = some a → B[p]? = some b → b.take a.length = a ∧ a.length ≤ b.length
theorem Pre.refl (A : List (List Evt)) : Pre A A := ⟨rfl, fun p a b h1 h2 => by rw [h1] at h2; cases h2; exact ⟨List.take_length, Nat.le_refl _⟩⟩
theorem Pre.put {A B B' : List (List Evt)} {x : Evt} {p o e : Int} (h : Pre A B) (hB : 1 ≤ B.length) (hp : putA B x = ((p, o, e), B')) : Pre A B' := by
  rcases putA_cases hB hp with ⟨_, _, _, rfl⟩ | ⟨k, l, k1, _, k2, _, _, _, _, _, rfl⟩
  · exact h
  · refine ⟨by rw [List.length_set]; exact h.1, fun q a b h1 h2 => ?_⟩
    rw [List.getElem?_set] at h2
    split at h2
    · rename_i hkq
      subst hkq
      cases h2
      obtain ⟨h3, h4⟩ := h.2 k a l h1 k2
      exact ⟨by rw [List.take_append_of_le_length h4]; exact h3, by simp; omega⟩
    · exact h.2 q a b h1 h2
theorem putA_len {A A' : List (List Evt)} {x : Evt} {p o e : Int} (hA : 1 ≤ A.length) (h : putA A x = ((p, o, e), A')) : A'.length = A.length := by
  rcases putA_cases hA h with ⟨_, _, _, rfl⟩ | ⟨k, l, _, _, _, _, _, _, _, _, rfl⟩
  · rfl
  · simp
theorem readA_all {A : List (List Evt)} {k : Nat} {l : List Evt} (h : A[k]? = some l) : readA A k 0 l.length = (l, 0) := by
  have hd : A.getD k [] = l := by rw [List.getD_eq_getElem?_getD, h]; rfl
  have hk := (List.getElem?_eq_some_iff.1 h).1
  unfold readA
  rw [if_neg (by omega), Int.toNat_natCast, hd, if_neg (by omega), if_neg (by omega)]
  simp
theorem readA_part {A : List (List Evt)} {k : Nat} {l : List Evt} (h : A[k]? = some l) {f m : Nat} (hf : f + m ≤ l.length) : readA A k f m = ((l.drop f).take m, 0) := by
  have hd : A.getD k [] = l := by rw [List.getD_eq_getElem?_getD, h]; rfl
  have hk := (List.getElem?_eq_some_iff.1 h).1
  unfold readA
  rw [if_neg (by omega), Int.toNat_natCast, hd, if_neg (by omega), if_neg (by omega), Int.toNat_natCast, Int.toNat_natCast, show min m (l.length - f) = m by omega]
theorem parts_join (l : List Evt) {n m : Nat} (h : n ≤ m) : l.take n ++ (l.drop n).take (m - n) = l.take m := by
  have : l.take m = (l.take n) ++ (l.drop n).take (m - n) := by
    conv => lhs; rw [show m = n + (m - n) by omega, List.take_add]
  exact this.symm
end Go.Proofs.YtgapmdkiijpmpaaDoor

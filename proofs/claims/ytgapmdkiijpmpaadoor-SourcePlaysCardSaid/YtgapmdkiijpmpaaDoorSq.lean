/- Names, plainly: a text without the signs at its ends. Own work. -/
import Derived.Test.YtgapmdkiijpmpaaDoorSyV
namespace Go.Sp
open Go Go.Sy
set_option maxRecDepth 100000
set_option linter.unusedVariables false
set_option linter.unusedSimpArgs false
def setOf (cs : List UInt8) : List Bool := (List.range 256).map fun i => cs.any fun c => c.toNat == i
theorem setOf_len (cs : List UInt8) : (setOf cs).length = 256 := by simp [setOf]
theorem setOf_get (cs : List UInt8) {i : Nat} (hi : i < 256) : (setOf cs)[i]? = some (cs.any fun c => c.toNat == i) := by
  simp [setOf, hi]
theorem setOf_snoc (cs : List UInt8) (c : UInt8) : setOf (cs ++ [c]) = (setOf cs).set c.toNat true := by
  apply List.ext_getElem?
  intro i
  rw [List.getElem?_set, setOf_len]
  by_cases hi : i < 256
  · rw [setOf_get _ hi, setOf_get _ hi, List.any_append]
    by_cases h : c.toNat = i
    · rw [if_pos h, if_pos (by omega)]
      simp [h]
    · rw [if_neg h]
      simp [h]
  · rw [List.getElem?_eq_none (by rw [setOf_len]; omega)]
    split
    · split
      · have := c.toNat_lt; omega
      · rfl
    · rw [List.getElem?_eq_none (by rw [setOf_len]; omega)]
theorem setOf_nil : setOf [] = List.replicate 256 false := by
  apply List.ext_getElem?
  intro i
  by_cases hi : i < 256
  · rw [setOf_get _ hi, List.getElem?_replicate, if_pos hi]; rfl
  · rw [List.getElem?_eq_none (by rw [setOf_len]; omega), List.getElem?_eq_none (by simp; omega)]
def inS (S : List Bool) (c : UInt8) : Bool := S.getD c.toNat false
theorem inS_get {S : List Bool} (h : S.length = 256) (c : UInt8) : S[c.toNat]? = some (inS S c) := by
  have := c.toNat_lt
  unfold inS
  rw [List.getD_eq_getElem?_getD, List.getElem?_eq_getElem (by omega)]; rfl
/-- The end's signs taken away. -/
def cutR (p : UInt8 → Bool) (l : List UInt8) : List UInt8 := (l.reverse.dropWhile p).reverse
theorem cutR_snoc (p : UInt8 → Bool) (l : List UInt8) (c : UInt8) : cutR p (l ++ [c]) = if p c then cutR p l else l ++ [c] := by
  unfold cutR
  rw [List.reverse_append, List.reverse_singleton, List.singleton_append, List.dropWhile_cons]
  split
  · rfl
  · simp
theorem cutR_nil (p : UInt8 → Bool) : cutR p [] = [] := rfl
theorem cutR_le (p : UInt8 → Bool) (l : List UInt8) : (cutR p l).length ≤ l.length := by
  unfold cutR
  rw [List.length_reverse]
  exact Nat.le_trans (List.dropWhile_sublist p).length_le (by simp)
def trimS (p : UInt8 → Bool) (l : List UInt8) : List UInt8 := (cutR p l).dropWhile p
theorem dropWhile_nil_iff {p : UInt8 → Bool} : ∀ {l : List UInt8}, l.dropWhile p = [] ↔ ∀ c ∈ l, p c = true
  | [] => by simp
  | a :: l => by
    rw [List.dropWhile_cons]
    split
    · rename_i h; rw [dropWhile_nil_iff]; simp [h]
    · rename_i h; simp [h]
theorem trimS_nil {p : UInt8 → Bool} {l : List UInt8} : trimS p l = [] ↔ ∀ c ∈ l, p c = true := by
  unfold trimS
  constructor
  · intro h
    have h1 := dropWhile_nil_iff.1 h
    have h2 : ∀ (l : List UInt8), (∀ c ∈ (l.dropWhile p).reverse, p c = true) → ∀ c ∈ l, p c = true := by
      intro l
      induction l with
      | nil => simp
      | cons a l ih =>
        intro h c hc
        rw [List.dropWhile_cons] at h
        split at h
        · rename_i ha
          rcases List.mem_cons.1 hc with rfl | hc
          · exact ha
          · exact ih h c hc
        · exact h c (List.mem_reverse.2 hc)
    intro c hc
    exact h2 l.reverse h1 c (List.mem_reverse.2 hc)
  · intro h
    have : cutR p l = [] := by
      unfold cutR
      rw [dropWhile_nil_iff.2 fun c hc => h c (List.mem_reverse.1 hc)]; rfl
    rw [this]; rfl
/-- A small sign of a name. -/
def isN (c : UInt8) : Bool := (97 ≤ c.toNat && c.toNat ≤ 122) || (48 ≤ c.toNat && c.toNat ≤ 57)
def cutN : List UInt8 := [97, 98, 99, 100, 101, 102, 103, 104, 105, 106, 107, 108, 109, 110, 111, 112, 113, 114, 115, 116, 117, 118, 119, 120, 121, 122, 48, 49, 50, 51, 52, 53, 54, 55, 56, 57]
theorem inS_cutN (c : UInt8) : inS (setOf cutN) c = isN c := by
  have h := inS_get (setOf_len cutN) c
  have hc := c.toNat_lt
  rw [setOf_get _ hc] at h
  have h := Option.some.inj h
  rw [← h]
  have key : ∀ n < 256, (cutN.any fun c => c.toNat == n) = ((97 ≤ n && n ≤ 122) || (48 ≤ n && n ≤ 57)) := by decide +kernel
  exact key c.toNat hc
def nameOk (s : List UInt8) : Bool := decide (s ≠ [] ∧ s.length ≤ 32 ∧ ∀ c ∈ s, isN c = true)
end Go.Sp

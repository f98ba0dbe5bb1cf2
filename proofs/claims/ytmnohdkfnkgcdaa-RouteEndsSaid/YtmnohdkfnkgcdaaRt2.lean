/- Ends of channels, plainly. Own work. -/
import Derived.Test.YtmnohdkfnkgcdaaR5
namespace Go.Proofs.Ytmnohdkfnkgcdaa
open Go Go.Sy Go.Rt
set_option linter.unusedVariables false
set_option linter.unusedSimpArgs false

theorem sideL_mem {p : Nat → Bool} {n k : Nat} {x : Int} (h : (sideL p n)[k]? = some x) : ∃ c : Nat, x = c ∧ c < n ∧ p c = true := by
  unfold sideL at h
  rw [List.getElem?_map] at h
  cases hc : ((List.range n).filter p)[k]? with
  | none => rw [hc] at h; simp at h
  | some c =>
    rw [hc] at h
    have hm := List.mem_of_getElem? hc
    rw [List.mem_filter, List.mem_range] at hm
    exact ⟨c, by simpa using h.symm, hm.1, hm.2⟩
theorem sideL_some {p : Nat → Bool} {n c : Nat} (hc : c < n) (hp : p c = true) : 0 < (sideL p n).length := by
  unfold sideL
  rw [List.length_map]
  exact List.length_pos_of_mem (List.mem_filter.2 ⟨List.mem_range.2 hc, hp⟩)
theorem sideL_none {p : Nat → Bool} {n : Nat} (h : ∀ c, c < n → p c = false) : (sideL p n).length = 0 := by
  unfold sideL
  rw [List.length_map, List.length_eq_zero_iff, List.filter_eq_nil_iff]
  intro c hc
  rw [h c (List.mem_range.1 hc)]
  simp

theorem ends_bounds {S M c : Nat} (hc : c < allN S M) (hM : 0 < M) : (endsAt S M c).1 < S + M ∧ S ≤ (endsAt S M c).2 ∧ (endsAt S M c).2 ≤ S + M ∧ ((endsAt S M c).1 < S → (endsAt S M c).2 < S + M) ∧ (S ≤ (endsAt S M c).1 → (endsAt S M c).2 = S + M) := by
  unfold allN at hc
  by_cases h : c < S * M
  · have e : endsAt S M c = (c / M, S + c % M) := if_pos h
    have h1 : c / M < S := by rw [Nat.div_lt_iff_lt_mul hM]; exact h
    have h2 := Nat.mod_lt c hM
    rw [e]
    dsimp only
    generalize c / M = x at *
    generalize c % M = y at *
    omega
  · have e : endsAt S M c = (S + (c - S * M), S + M) := if_neg h
    rw [e]
    dsimp only
    generalize S * M = x at *
    omega

theorem ins_len {S M t : Nat} (hS : 0 < S) (hM : 0 < M) (ht : t ≤ S + M) : (sideL (toIs S M t) (allN S M)).length = 0 ↔ t < S := by
  constructor
  · intro h
    refine Nat.lt_of_not_le fun hh => ?_
    have : 0 < (sideL (toIs S M t) (allN S M)).length := by
      by_cases h1 : t < S + M
      · refine sideL_some (c := 0 * M + (t - S)) (by unfold allN; have := Nat.le_mul_of_pos_left M hS; omega) ?_
        unfold toIs
        rw [ends_mid hS (by omega)]
        simp only [decide_eq_true_eq]; omega
      · refine sideL_some (c := S * M + 0) (by unfold allN; omega) ?_
        unfold toIs
        rw [ends_last]
        simp only [decide_eq_true_eq]; omega
    omega
  · intro h
    refine sideL_none fun c hc => ?_
    have := ends_bounds hc hM
    unfold toIs
    rw [decide_eq_false_iff_not]; omega
theorem outs_len {S M t : Nat} (hS : 0 < S) (hM : 0 < M) (ht : t ≤ S + M) : (sideL (fromIs S M t) (allN S M)).length = 0 ↔ t = S + M := by
  constructor
  · intro h
    refine Nat.le_antisymm ht (Nat.le_of_not_lt fun hh => ?_)
    have : 0 < (sideL (fromIs S M t) (allN S M)).length := by
      by_cases h1 : t < S
      · refine sideL_some (c := t * M + 0) ?_ ?_
        · have : (t + 1) * M ≤ S * M := Nat.mul_le_mul_right M (by omega)
          rw [Nat.add_mul] at this
          unfold allN; omega
        · unfold fromIs
          rw [ends_mid h1 hM]
          simp
      · refine sideL_some (c := S * M + (t - S)) (by unfold allN; omega) ?_
        unfold fromIs
        rw [ends_last]
        simp only [decide_eq_true_eq]; omega
    omega
  · rintro rfl
    refine sideL_none fun c hc => ?_
    have := ends_bounds hc hM
    unfold fromIs
    rw [decide_eq_false_iff_not]; omega

/-- How many channels come from tasks below t. -/
def below (S M t : Nat) : Nat := ((List.range (allN S M)).filter fun c => decide ((endsAt S M c).1 < t)).length
theorem below_zero (S M : Nat) : below S M 0 = 0 := by
  unfold below
  rw [List.length_eq_zero_iff, List.filter_eq_nil_iff]
  simp
theorem below_succ (S M t : Nat) : below S M (t + 1) = below S M t + (sideL (fromIs S M t) (allN S M)).length := by
  unfold below sideL
  rw [List.length_map]
  generalize List.range (allN S M) = l
  induction l with
  | nil => rfl
  | cons c l ih =>
    have hf : fromIs S M t c = decide ((endsAt S M c).1 = t) := by unfold fromIs; rw [Bool.eq_iff_iff, decide_eq_true_eq, decide_eq_true_eq]; omega
    simp only [List.filter_cons, hf, decide_eq_true_eq]
    by_cases h1 : (endsAt S M c).1 < t
    · rw [if_pos (by omega), if_pos h1, if_neg (by omega)]
      simp only [List.length_cons]; omega
    · by_cases h2 : (endsAt S M c).1 = t
      · rw [if_pos (by omega), if_neg h1, if_pos h2]
        simp only [List.length_cons]; omega
      · rw [if_neg (by omega), if_neg h1, if_neg h2]
        exact ih
theorem below_all {S M : Nat} (hM : 0 < M) : below S M (S + M) = allN S M := by
  unfold below
  rw [List.filter_eq_self.2, List.length_range]
  intro c hc
  have := ends_bounds (List.mem_range.1 hc) hM
  simp only [decide_eq_true_eq]; omega
theorem below_le (S M t : Nat) : below S M t ≤ allN S M := by
  unfold below
  exact Nat.le_trans (List.length_filter_le _ _) (by simp)
end Go.Proofs.Ytmnohdkfnkgcdaa

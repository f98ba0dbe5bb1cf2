/- Meters: one act, on both. Own work. -/
import Derived.Test.YtmnohdkfnkgcdaaM7
namespace Go.Proofs.Ytmnohdkfnkgcdaa
open Go Go.Sy
set_option maxRecDepth 100000
set_option linter.unusedVariables false
set_option linter.unusedSimpArgs false
set_option maxHeartbeats 4000000

theorem among_ob (x : Int) (n : Nat) (hx0 : -9223372036854775808 ≤ x) (hx1 : x ≤ 9223372036854775807) (hn : 0 < n) (hn2 : n ≤ 1099511627776) (K : SV → SH → Prop) (h : ∀ m : Nat, m < n → (m : Int) = x % n → K (.int .i64 m) []) : FnOb Try.prog 16 [.int .i64 x, .int .i64 n] [] K := by
  apply FnOb.tidy
  apply en16
  have h1 := Int.emod_nonneg x (show (n : Int) ≠ 0 by omega)
  have h2 := Int.emod_lt_of_pos x (show (0 : Int) < n by omega)
  have h3 : x.tmod n = x % n ∨ x.tmod n = x % n - n := by
    rw [Int.tmod_eq_emod]
    split
    · left; omega
    · right; simp
  have hk := h (x % n).toNat (by omega) (by omega)
  rw [show (((x % n).toNat : Nat) : Int) = x % n by omega] at hk
  have h4 : (x.tmod n + n) % n = x % n := by
    rcases h3 with h3 | h3
    · rw [h3, Int.add_emod_right, Int.emod_emod]
    · rw [h3, Int.sub_add_cancel, Int.emod_emod]
  have h5 : (x % n + n) % n = x % n := by rw [Int.add_emod_right, Int.emod_emod]
  by_cases hx : 0 ≤ x
  · have h6 : x.tmod n = x % n := Int.tmod_eq_emod_of_nonneg hx
    repeat' first | exact trivial | refine And.intro trivial ?_ | refine And.intro rfl ?_ | refine And.intro (one_flat (fun _ => rfl) _) ?_ | refine Fit.yes (by omega) ?_ | refine Fit.no ?_ | (refine And.intro (fun hc => ?_) (fun hc => ?_) <;> (first | ((try simp only [decide_eq_true_eq, decide_eq_false_iff_not, Bool.not_eq_true', Bool.not_eq_false', Bool.not_eq_true, Bool.not_eq_false, Bool.or_eq_true, Bool.or_eq_false_iff, Bool.and_eq_true, Bool.and_eq_false_iff, Decidable.not_not, Int.not_lt, Int.not_le, Nat.not_lt, Nat.not_le, ne_eq, reduceCtorEq, not_true_eq_false, not_false_eq_true, eq_self, or_self, or_false, false_or, or_true, true_or, and_true, true_and, and_false, false_and, and_self] at hc); exfalso; first | omega | exact absurd hc (by assumption) | exact absurd (by assumption) hc) | (simp only [decide_eq_true_eq, decide_eq_false_iff_not, Bool.not_eq_true', Bool.not_eq_false', Bool.not_eq_true, Bool.not_eq_false, Bool.or_eq_true, Bool.or_eq_false_iff, Bool.and_eq_true, Bool.and_eq_false_iff, Decidable.not_not, Int.not_lt, Int.not_le, Nat.not_lt, Nat.not_le, ne_eq, reduceCtorEq, not_true_eq_false, not_false_eq_true, eq_self, or_self, or_false, false_or, or_true, true_or, and_true, true_and, and_false, false_and, and_self] at hc; try (with_reducible change True at hc; clear hc)) | skip)) | refine And.intro (by first | omega | (simp only [List.length_append, List.length_cons, List.length_nil, List.length_take, List.length_drop, List.length_replicate, List.length_map, List.length_set, Int.toNat_natCast]; omega) | (simp only [List.length_append, List.length_cons, List.length_nil, List.length_replicate] at *; omega)) ?_ | refine And.intro ?_ ?_ | exact rfl | (refine congrArg SV.bool (decide_eq_true ?_); first | rfl | omega | assumption) | refine Pick.mk _ rfl ?_ | refine fun (bN : Nat) => ?_ | refine fun (zA : Bool) (bA : Bs) (cA : Nat) hA => ?_
    rw [h5]
    (refine ⟨_, _, ?_, ?_, hk⟩; exact rfl; refine Tells.pick [] (by decide) ?_; repeat' first | exact rfl | exact Retell.refl _ | exact Retell.lit rfl | exact Ghost.vec | refine And.intro ?_ ?_)
  · repeat' first | exact trivial | refine And.intro trivial ?_ | refine And.intro rfl ?_ | refine And.intro (one_flat (fun _ => rfl) _) ?_ | refine Fit.yes (by omega) ?_ | refine Fit.no ?_ | (refine And.intro (fun hc => ?_) (fun hc => ?_) <;> (first | ((try simp only [decide_eq_true_eq, decide_eq_false_iff_not, Bool.not_eq_true', Bool.not_eq_false', Bool.not_eq_true, Bool.not_eq_false, Bool.or_eq_true, Bool.or_eq_false_iff, Bool.and_eq_true, Bool.and_eq_false_iff, Decidable.not_not, Int.not_lt, Int.not_le, Nat.not_lt, Nat.not_le, ne_eq, reduceCtorEq, not_true_eq_false, not_false_eq_true, eq_self, or_self, or_false, false_or, or_true, true_or, and_true, true_and, and_false, false_and, and_self] at hc); exfalso; first | omega | exact absurd hc (by assumption) | exact absurd (by assumption) hc) | (simp only [decide_eq_true_eq, decide_eq_false_iff_not, Bool.not_eq_true', Bool.not_eq_false', Bool.not_eq_true, Bool.not_eq_false, Bool.or_eq_true, Bool.or_eq_false_iff, Bool.and_eq_true, Bool.and_eq_false_iff, Decidable.not_not, Int.not_lt, Int.not_le, Nat.not_lt, Nat.not_le, ne_eq, reduceCtorEq, not_true_eq_false, not_false_eq_true, eq_self, or_self, or_false, false_or, or_true, true_or, and_true, true_and, and_false, false_and, and_self] at hc; try (with_reducible change True at hc; clear hc)) | skip)) | refine And.intro (by first | omega | (simp only [List.length_append, List.length_cons, List.length_nil, List.length_take, List.length_drop, List.length_replicate, List.length_map, List.length_set, Int.toNat_natCast]; omega) | (simp only [List.length_append, List.length_cons, List.length_nil, List.length_replicate] at *; omega)) ?_ | refine And.intro ?_ ?_ | exact rfl | (refine congrArg SV.bool (decide_eq_true ?_); first | rfl | omega | assumption) | refine Pick.mk _ rfl ?_ | refine fun (bN : Nat) => ?_ | refine fun (zA : Bool) (bA : Bs) (cA : Nat) hA => ?_
    rw [h4]
    (refine ⟨_, _, ?_, ?_, hk⟩; exact rfl; refine Tells.pick [] (by decide) ?_; repeat' first | exact rfl | exact Retell.refl _ | exact Retell.lit rfl | exact Ghost.vec | refine And.intro ?_ ?_)
/-- One act on two lists of counts. -/
def actR (l m : List Int) (c k n x : Int) : List Int := if c % 7 = 0 then (addR l k n).2.2 else if c % 7 = 1 then (mostR l k n).2.2 else if c % 7 = 2 then l else if c % 7 = 3 then (swapR l k n x).2.2 else if c % 7 = 4 then (joinR l m).2 else if c % 7 = 5 then (joinR l l).2 else l
theorem okM_join {l m : List Int} (hl : okM l) (hm : okM m) : okM (joinR l m).2 := by
  unfold joinR
  split
  · exact hl
  · rename_i h
    refine ⟨by simp, fun y hy => ?_⟩
    obtain ⟨i, hi, rfl⟩ := List.mem_map.1 hy
    have hi := List.mem_range.1 hi
    obtain ⟨x, hx, hx2, hx0, hx1⟩ := okM_get hl (k := i) hi
    obtain ⟨z, hz, hz2, hz0, hz1⟩ := okM_get hm (k := i) hi
    rw [hx2, hz2]
    have : ¬ 4611686018427387904 - x < z := fun h2 => h (over_of hi (by rw [hx2, hz2]; exact h2))
    omega
theorem okM_add {l : List Int} (hl : okM l) (k n : Int) : okM (addR l k n).2.2 := by
  unfold addR
  by_cases hk : k < 0 ∨ 8 ≤ k
  · rw [if_pos hk]; exact hl
  obtain ⟨x, hx, hx2, hx0, hx1⟩ := okM_get hl (k := k.toNat) (by omega)
  rw [if_neg hk, hx2]
  split
  · exact hl
  · split
    · exact hl
    · exact okM_set hl (by omega) (by omega)
theorem okM_most {l : List Int} (hl : okM l) (k n : Int) : okM (mostR l k n).2.2 := by
  unfold mostR
  by_cases hk : k < 0 ∨ 8 ≤ k
  · rw [if_pos hk]; exact hl
  obtain ⟨x, hx, hx2, hx0, hx1⟩ := okM_get hl (k := k.toNat) (by omega)
  rw [if_neg hk, hx2]
  split
  · exact hl
  · exact okM_set hl (by omega) (by omega)
theorem okM_swap {l : List Int} (hl : okM l) (k a b : Int) : okM (swapR l k a b).2.2 := by
  unfold swapR
  by_cases hk : k < 0 ∨ 8 ≤ k
  · rw [if_pos hk]; exact hl
  rw [if_neg hk]
  split
  · exact hl
  · split
    · exact okM_set hl (by omega) (by omega)
    · exact hl
theorem okM_act {l m : List Int} (hl : okM l) (hm : okM m) (c k n x : Int) : okM (actR l m c k n x) := by
  unfold actR
  split
  · exact okM_add hl k n
  split
  · exact okM_most hl k n
  split
  · exact hl
  split
  · exact okM_swap hl k n x
  split
  · exact okM_join hl hm
  split
  · exact okM_join hl hl
  · exact hl
end Go.Proofs.Ytmnohdkfnkgcdaa

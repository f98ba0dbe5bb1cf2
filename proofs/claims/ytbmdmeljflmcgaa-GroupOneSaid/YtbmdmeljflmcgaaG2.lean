/- The groups: a key's group; a task's groups. Own work. -/
import Derived.Test.YtbmdmeljflmcgaaG1
namespace Go.Proofs.Ytbmdmeljflmcgaa
open Go Go.Sx
set_option maxRecDepth 100000
set_option linter.unusedVariables false
set_option linter.unusedSimpArgs false
set_option maxHeartbeats 4000000

theorem wrn (n : Nat) (h : n ≤ 9223372036854775807) : IntKind.i64.wrap (n : Int) = n := wr (by omega) (by omega)

theorem tdivn (a b : Nat) : ((a : Int).tdiv (b : Int)) = ((a / b : Nat) : Int) := by
  rw [Int.tdiv_eq_ediv_of_nonneg (by omega)]; rfl


theorem range_ob (g t i : Int) (H : SH) (K : SV → SH → Prop)
    (h1 : ¬ May g t → K (.tup [.int .i64 0, .int .i64 0, .int .i64 1]) H)
    (h2 : May g t → (i < 0 ∨ t ≤ i) → K (.tup [.int .i64 0, .int .i64 0, .int .i64 70]) H)
    (h3 : ∀ (g' t' i' : Nat), g = g' → t = t' → i = i' → May g t → i' < t' → K (.tup [.int .i64 (i' * g' / t' : Nat), .int .i64 ((i' + 1) * g' / t' : Nat), .int .i64 0]) H) :
    FnOb Try.prog 29 [.int .i64 g, .int .i64 t, .int .i64 i] H K := by
  apply en29
  repeat' first | refine And.intro trivial ?_ | refine And.intro rfl ?_ | (refine And.intro (fun h => ?_) (fun h => ?_) <;> try (first | (exact absurd h (by decide)) | (exfalso; simp only [decide_eq_true_eq, decide_eq_false_iff_not, Bool.not_eq_true', Bool.not_eq_false', cond_true, cond_false, Bool.false_eq_true, Bool.true_eq_false, Bool.not_true, Bool.not_false, reduceCtorEq, not_true_eq_false, not_false_eq_true, eq_self, ne_eq] at h; first | done | omega | contradiction))) | refine And.intro ?_ ?_ | exact rfl
  refine may_ob g t _ _ fun b hb => ?_
  cases b with
  | false =>
    repeat' first | refine And.intro trivial ?_ | refine And.intro rfl ?_ | (refine And.intro (fun h => ?_) (fun h => ?_) <;> try (first | (exact absurd h (by decide)) | (exfalso; simp only [decide_eq_true_eq, decide_eq_false_iff_not, Bool.not_eq_true', Bool.not_eq_false', cond_true, cond_false, Bool.false_eq_true, Bool.true_eq_false, Bool.not_true, Bool.not_false, reduceCtorEq, not_true_eq_false, not_false_eq_true, eq_self, ne_eq] at h; first | done | omega | contradiction))) | refine And.intro ?_ ?_ | exact rfl
    exact h1 (fun hm => by have := hb.2 hm; cases this)
  | true =>
    have hM := hb.1 rfl
    obtain ⟨m1, m2, m3, m4, m5⟩ := id hM
    repeat' first | refine And.intro trivial ?_ | refine And.intro rfl ?_ | (refine And.intro (fun h => ?_) (fun h => ?_) <;> try (first | (exact absurd h (by decide)) | (exfalso; simp only [decide_eq_true_eq, decide_eq_false_iff_not, Bool.not_eq_true', Bool.not_eq_false', cond_true, cond_false, Bool.false_eq_true, Bool.true_eq_false, Bool.not_true, Bool.not_false, reduceCtorEq, not_true_eq_false, not_false_eq_true, eq_self, ne_eq] at h; first | done | omega | contradiction))) | refine And.intro ?_ ?_ | exact rfl
    · exact h2 hM (.inr (of_decide_eq_true h))
    · omega
    · omega
    · have hlt := of_decide_eq_false h
      have hi0 : ¬ i < 0 := of_decide_eq_false ‹decide (i < 0) = false›
      obtain ⟨g', rfl⟩ : ∃ g' : Nat, g = g' := ⟨g.toNat, by omega⟩
      obtain ⟨t', rfl⟩ : ∃ t' : Nat, t = t' := ⟨t.toNat, by omega⟩
      obtain ⟨i', rfl⟩ : ∃ i' : Nat, i = i' := ⟨i.toNat, by omega⟩
      have hp1 : i' * g' ≤ 16 * 128 := Nat.mul_le_mul (by omega) (by omega)
      have hp2 : (i' + 1) * g' ≤ 17 * 128 := Nat.mul_le_mul (by omega) (by omega)
      have hd1 : i' * g' / t' ≤ i' * g' := Nat.div_le_self _ _
      have hd2 : (i' + 1) * g' / t' ≤ (i' + 1) * g' := Nat.div_le_self _ _
      have e1 : IntKind.i64.wrap ((i' : Int) * (g' : Int)) = ((i' * g' : Nat) : Int) := by rw [← Int.natCast_mul]; exact wr (by omega) (by omega)
      have e2 : IntKind.i64.wrap ((i' : Int) + 1) = ((i' + 1 : Nat) : Int) := wr (by omega) (by omega)
      have e3 : IntKind.i64.wrap (((i' + 1 : Nat) : Int) * (g' : Int)) = (((i' + 1) * g' : Nat) : Int) := by rw [← Int.natCast_mul]; exact wr (by omega) (by omega)
      conv => whnf
      rw [e1, e2, e3, tdivn, tdivn, wrn _ (Nat.le_trans hd1 (Nat.le_trans hp1 (by omega))), wrn _ (Nat.le_trans hd2 (Nat.le_trans hp2 (by omega)))]
      exact h3 g' t' i' rfl rfl rfl hM (by omega)
    · exact h2 hM (.inl (of_decide_eq_true ‹decide (i < 0) = true›))

theorem refrange_ob (g t i : Int) (H : SH) (K : SV → SH → Prop)
    (h1 : ¬ May g t → K (.tup [.int .i64 0, .int .i64 0, .int .i64 1]) H)
    (h2 : May g t → (i < 0 ∨ t ≤ i) → K (.tup [.int .i64 0, .int .i64 0, .int .i64 70]) H)
    (h3 : ∀ (g' t' i' : Nat), g = g' → t = t' → i = i' → May g t → i' < t' → K (.tup [.int .i64 (i' * g' / t' : Nat), .int .i64 ((i' + 1) * g' / t' : Nat), .int .i64 0]) H) :
    FnOb Try.prog 30 [.int .i64 g, .int .i64 t, .int .i64 i] H K := by
  apply en30
  repeat' first | refine And.intro trivial ?_ | refine And.intro rfl ?_ | (refine And.intro (fun h => ?_) (fun h => ?_) <;> try (first | (exact absurd h (by decide)) | (exfalso; simp only [decide_eq_true_eq, decide_eq_false_iff_not, Bool.not_eq_true', Bool.not_eq_false', cond_true, cond_false, Bool.false_eq_true, Bool.true_eq_false, Bool.not_true, Bool.not_false, reduceCtorEq, not_true_eq_false, not_false_eq_true, eq_self, ne_eq] at h; first | done | omega | contradiction))) | refine And.intro ?_ ?_ | exact rfl
  refine refmay_ob g t _ _ fun b hb => ?_
  cases b with
  | false =>
    repeat' first | refine And.intro trivial ?_ | refine And.intro rfl ?_ | (refine And.intro (fun h => ?_) (fun h => ?_) <;> try (first | (exact absurd h (by decide)) | (exfalso; simp only [decide_eq_true_eq, decide_eq_false_iff_not, Bool.not_eq_true', Bool.not_eq_false', cond_true, cond_false, Bool.false_eq_true, Bool.true_eq_false, Bool.not_true, Bool.not_false, reduceCtorEq, not_true_eq_false, not_false_eq_true, eq_self, ne_eq] at h; first | done | omega | contradiction))) | refine And.intro ?_ ?_ | exact rfl
    exact h1 (fun hm => by have := hb.2 hm; cases this)
  | true =>
    have hM := hb.1 rfl
    obtain ⟨m1, m2, m3, m4, m5⟩ := id hM
    repeat' first | refine And.intro trivial ?_ | refine And.intro rfl ?_ | (refine And.intro (fun h => ?_) (fun h => ?_) <;> try (first | (exact absurd h (by decide)) | (exfalso; simp only [decide_eq_true_eq, decide_eq_false_iff_not, Bool.not_eq_true', Bool.not_eq_false', cond_true, cond_false, Bool.false_eq_true, Bool.true_eq_false, Bool.not_true, Bool.not_false, reduceCtorEq, not_true_eq_false, not_false_eq_true, eq_self, ne_eq] at h; first | done | omega | contradiction))) | refine And.intro ?_ ?_ | exact rfl
    · exact h2 hM (.inr (of_decide_eq_true h))
    · omega
    · omega
    · have hlt := of_decide_eq_false h
      have hi0 : ¬ i < 0 := of_decide_eq_false ‹decide (i < 0) = false›
      obtain ⟨g', rfl⟩ : ∃ g' : Nat, g = g' := ⟨g.toNat, by omega⟩
      obtain ⟨t', rfl⟩ : ∃ t' : Nat, t = t' := ⟨t.toNat, by omega⟩
      obtain ⟨i', rfl⟩ : ∃ i' : Nat, i = i' := ⟨i.toNat, by omega⟩
      have hp1 : i' * g' ≤ 16 * 128 := Nat.mul_le_mul (by omega) (by omega)
      have hp2 : (i' + 1) * g' ≤ 17 * 128 := Nat.mul_le_mul (by omega) (by omega)
      have hd1 : i' * g' / t' ≤ i' * g' := Nat.div_le_self _ _
      have hd2 : (i' + 1) * g' / t' ≤ (i' + 1) * g' := Nat.div_le_self _ _
      have e1 : IntKind.i64.wrap ((i' : Int) * (g' : Int)) = ((i' * g' : Nat) : Int) := by rw [← Int.natCast_mul]; exact wr (by omega) (by omega)
      have e2 : IntKind.i64.wrap ((i' : Int) + 1) = ((i' + 1 : Nat) : Int) := wr (by omega) (by omega)
      have e3 : IntKind.i64.wrap (((i' + 1 : Nat) : Int) * (g' : Int)) = (((i' + 1) * g' : Nat) : Int) := by rw [← Int.natCast_mul]; exact wr (by omega) (by omega)
      conv => whnf
      rw [e1, e2, e3, tdivn, tdivn, wrn _ (Nat.le_trans hd1 (Nat.le_trans hp1 (by omega))), wrn _ (Nat.le_trans hd2 (Nat.le_trans hp2 (by omega)))]
      exact h3 g' t' i' rfl rfl rfl hM (by omega)
    · exact h2 hM (.inl (of_decide_eq_true ‹decide (i < 0) = true›))
end Go.Proofs.Ytbmdmeljflmcgaa

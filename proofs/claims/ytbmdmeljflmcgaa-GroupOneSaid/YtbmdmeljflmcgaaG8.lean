/- The groups that move, by the document. Own work. -/
import Derived.Test.YtbmdmeljflmcgaaG7
namespace Go.Proofs.Ytbmdmeljflmcgaa
open Go Go.Sx
set_option maxRecDepth 100000
set_option linter.unusedVariables false
set_option linter.unusedSimpArgs false
set_option maxHeartbeats 4000000

def rmL (g a b k : Nat) (q : SV) : List (Nat × SV) := [(0, .int .i64 g), (1, .int .i64 a), (2, .int .i64 b), (8, q), (9, .int .i64 k)]
def rmInv (g a b : Nat) : Nat → List (Nat × SV) → SH → Prop := fun n live H =>
  ∃ k, n + k = g ∧ ((moves g a b k = [] ∧ live = rmL g a b k .nils ∧ H = []) ∨
    ∃ (bo c : Nat) (X : List (Int × Int × Int)), moves g a b k ≠ [] ∧ (moves g a b k).length ≤ c ∧ c ≤ (moves g a b k ++ X).length ∧
      live = rmL g a b k (.sl 0 ⟨bo, 0⟩ 3 0 (moves g a b k).length c) ∧ H = [(⟨bo, 0⟩, .tab enc3 3 (moves g a b k ++ X))])

theorem refmoves_raw (g a b : Int) : FnOb Try.prog 23 [.int .i64 g, .int .i64 a, .int .i64 b] [] (movesK g a b) := by
  apply en23
  repeat' first | refine And.intro trivial ?_ | refine And.intro rfl ?_ | (refine And.intro (fun h => ?_) (fun h => ?_) <;> try (first | (exact absurd h (by decide)) | (exfalso; simp only [decide_eq_true_eq, decide_eq_false_iff_not, Bool.not_eq_true', Bool.not_eq_false', cond_true, cond_false, Bool.false_eq_true, Bool.true_eq_false, Bool.not_true, Bool.not_false, reduceCtorEq, not_true_eq_false, not_false_eq_true, eq_self, ne_eq] at h; first | done | omega | contradiction))) | refine And.intro ?_ ?_ | exact rfl
  refine refmay_ob g a _ _ fun x hx => ?_
  cases x with
  | false =>
    repeat' first | refine And.intro trivial ?_ | refine And.intro rfl ?_ | (refine And.intro (fun h => ?_) (fun h => ?_) <;> try (first | (exact absurd h (by decide)) | (exfalso; simp only [decide_eq_true_eq, decide_eq_false_iff_not, Bool.not_eq_true', Bool.not_eq_false', cond_true, cond_false, Bool.false_eq_true, Bool.true_eq_false, Bool.not_true, Bool.not_false, reduceCtorEq, not_true_eq_false, not_false_eq_true, eq_self, ne_eq] at h; first | done | omega | contradiction))) | refine And.intro ?_ ?_ | exact rfl
    exact .inl ⟨fun hm => (by have := hx.2 hm.1; cases this), rfl⟩
  | true =>
    have hM := hx.1 rfl
    repeat' first | refine And.intro trivial ?_ | refine And.intro rfl ?_ | (refine And.intro (fun h => ?_) (fun h => ?_) <;> try (first | (exact absurd h (by decide)) | (exfalso; simp only [decide_eq_true_eq, decide_eq_false_iff_not, Bool.not_eq_true', Bool.not_eq_false', cond_true, cond_false, Bool.false_eq_true, Bool.true_eq_false, Bool.not_true, Bool.not_false, reduceCtorEq, not_true_eq_false, not_false_eq_true, eq_self, ne_eq] at h; first | done | omega | contradiction))) | refine And.intro ?_ ?_ | exact rfl
    refine refmay_ob g b _ _ fun y hy => ?_
    cases y with
    | false =>
      repeat' first | refine And.intro trivial ?_ | refine And.intro rfl ?_ | (refine And.intro (fun h => ?_) (fun h => ?_) <;> try (first | (exact absurd h (by decide)) | (exfalso; simp only [decide_eq_true_eq, decide_eq_false_iff_not, Bool.not_eq_true', Bool.not_eq_false', cond_true, cond_false, Bool.false_eq_true, Bool.true_eq_false, Bool.not_true, Bool.not_false, reduceCtorEq, not_true_eq_false, not_false_eq_true, eq_self, ne_eq] at h; first | done | omega | contradiction))) | refine And.intro ?_ ?_ | exact rfl
      exact .inl ⟨fun hm => (by have := hy.2 hm.2; cases this), rfl⟩
    | true =>
      have hN := hy.1 rfl
      obtain ⟨m1, m2, m3, m4, m5⟩ := id hM
      obtain ⟨_, _, n3, n4, n5⟩ := id hN
      obtain ⟨g', rfl⟩ : ∃ g' : Nat, g = g' := ⟨g.toNat, by omega⟩
      obtain ⟨a', rfl⟩ : ∃ a' : Nat, a = a' := ⟨a.toNat, by omega⟩
      obtain ⟨b', rfl⟩ : ∃ b' : Nat, b = b' := ⟨b.toNat, by omega⟩
      repeat' first | refine And.intro trivial ?_ | refine And.intro rfl ?_ | (refine And.intro (fun h => ?_) (fun h => ?_) <;> try (first | (exact absurd h (by decide)) | (exfalso; simp only [decide_eq_true_eq, decide_eq_false_iff_not, Bool.not_eq_true', Bool.not_eq_false', cond_true, cond_false, Bool.false_eq_true, Bool.true_eq_false, Bool.not_true, Bool.not_false, reduceCtorEq, not_true_eq_false, not_false_eq_true, eq_self, ne_eq] at h; first | done | omega | contradiction))) | refine And.intro ?_ ?_ | exact rfl
      refine loop_live mixed (S := sch23) (by kernel_rfl) 54 (rmInv g' a' b') ⟨g', rmL g' a' b' 0 .nils, [], rfl, ⟨rfl, rfl, rfl, rfl, rfl, trivial⟩, Tells.refl _, 0, by omega, .inl ⟨rfl, rfl, rfl⟩⟩ ?_
      intro n live H J ⟨k, hn, hcase⟩
      rcases hcase with ⟨hnil, rfl, rfl⟩ | ⟨bo, c, X, hne, hc1, hc2, rfl, rfl⟩
      · by_cases hk : k < g'
        · by_cases hne : ownN g' a' k = ownN g' b' k
          · have hm : moves g' a' b' (k + 1) = [] := by rw [moves_succ, hnil, if_pos hne]; rfl
            repeat' first | refine And.intro trivial ?_ | refine And.intro rfl ?_ | (refine And.intro (fun h => ?_) (fun h => ?_) <;> try (first | (exact absurd h (by decide)) | (exfalso; simp only [decide_eq_true_eq, decide_eq_false_iff_not, Bool.not_eq_true', Bool.not_eq_false', cond_true, cond_false, Bool.false_eq_true, Bool.true_eq_false, Bool.not_true, Bool.not_false, reduceCtorEq, not_true_eq_false, not_false_eq_true, eq_self, ne_eq] at h; first | done | omega | contradiction))) | refine And.intro ?_ ?_ | exact rfl
            refine refowner_ob g' a' k _ _ (fun h => absurd ⟨hM, by omega, by omega⟩ h) fun g3 t3 i3 e4 e5 e6 _ _ => ?_
            obtain rfl : g' = g3 := by omega
            obtain rfl : a' = t3 := by omega
            obtain rfl : k = i3 := by omega
            repeat' first | refine And.intro trivial ?_ | refine And.intro rfl ?_ | (refine And.intro (fun h => ?_) (fun h => ?_) <;> try (first | (exact absurd h (by decide)) | (exfalso; simp only [decide_eq_true_eq, decide_eq_false_iff_not, Bool.not_eq_true', Bool.not_eq_false', cond_true, cond_false, Bool.false_eq_true, Bool.true_eq_false, Bool.not_true, Bool.not_false, reduceCtorEq, not_true_eq_false, not_false_eq_true, eq_self, ne_eq] at h; first | done | omega | contradiction))) | refine And.intro ?_ ?_ | exact rfl
            refine refowner_ob g' b' k _ _ (fun h => absurd ⟨hN, by omega, by omega⟩ h) fun g3 t3 i3 e4 e5 e6 _ _ => ?_
            obtain rfl : g' = g3 := by omega
            obtain rfl : b' = t3 := by omega
            obtain rfl : k = i3 := by omega
            repeat' first | refine And.intro trivial ?_ | refine And.intro rfl ?_ | (refine And.intro (fun h => ?_) (fun h => ?_) <;> try (first | (exact absurd h (by decide)) | (exfalso; simp only [decide_eq_true_eq, decide_eq_false_iff_not, Bool.not_eq_true', Bool.not_eq_false', cond_true, cond_false, Bool.false_eq_true, Bool.true_eq_false, Bool.not_true, Bool.not_false, reduceCtorEq, not_true_eq_false, not_false_eq_true, eq_self, ne_eq] at h; first | done | omega | contradiction))) | refine And.intro ?_ ?_ | exact rfl
            conv => whnf
            refine ⟨n - 1, rmL g' a' b' (k + 1) .nils, [], by omega, rfl, ⟨rfl, rfl, rfl, rfl, ?_, trivial⟩, Tells.refl _, k + 1, by omega, .inl ⟨hm, rfl, rfl⟩⟩
            show SV.den (.int .i64 (IntKind.i64.wrap ((k : Int) + 1))) = _
            rw [wr (by omega) (by omega)]; rfl
          · have hm : moves g' a' b' (k + 1) = [((k : Int), (ownN g' a' k : Int), (ownN g' b' k : Int))] := by rw [moves_succ, hnil, if_neg hne]; rfl
            repeat' first | refine And.intro trivial ?_ | refine And.intro rfl ?_ | (refine And.intro (fun h => ?_) (fun h => ?_) <;> try (first | (exact absurd h (by decide)) | (exfalso; simp only [decide_eq_true_eq, decide_eq_false_iff_not, Bool.not_eq_true', Bool.not_eq_false', cond_true, cond_false, Bool.false_eq_true, Bool.true_eq_false, Bool.not_true, Bool.not_false, reduceCtorEq, not_true_eq_false, not_false_eq_true, eq_self, ne_eq] at h; first | done | omega | contradiction))) | refine And.intro ?_ ?_ | exact rfl
            refine refowner_ob g' a' k _ _ (fun h => absurd ⟨hM, by omega, by omega⟩ h) fun g3 t3 i3 e4 e5 e6 _ _ => ?_
            obtain rfl : g' = g3 := by omega
            obtain rfl : a' = t3 := by omega
            obtain rfl : k = i3 := by omega
            repeat' first | refine And.intro trivial ?_ | refine And.intro rfl ?_ | (refine And.intro (fun h => ?_) (fun h => ?_) <;> try (first | (exact absurd h (by decide)) | (exfalso; simp only [decide_eq_true_eq, decide_eq_false_iff_not, Bool.not_eq_true', Bool.not_eq_false', cond_true, cond_false, Bool.false_eq_true, Bool.true_eq_false, Bool.not_true, Bool.not_false, reduceCtorEq, not_true_eq_false, not_false_eq_true, eq_self, ne_eq] at h; first | done | omega | contradiction))) | refine And.intro ?_ ?_ | exact rfl
            refine refowner_ob g' b' k _ _ (fun h => absurd ⟨hN, by omega, by omega⟩ h) fun g3 t3 i3 e4 e5 e6 _ _ => ?_
            obtain rfl : g' = g3 := by omega
            obtain rfl : b' = t3 := by omega
            obtain rfl : k = i3 := by omega
            repeat' first | refine And.intro trivial ?_ | refine And.intro rfl ?_ | (refine And.intro (fun h => ?_) (fun h => ?_) <;> try (first | (exact absurd h (by decide)) | (exfalso; simp only [decide_eq_true_eq, decide_eq_false_iff_not, Bool.not_eq_true', Bool.not_eq_false', cond_true, cond_false, Bool.false_eq_true, Bool.true_eq_false, Bool.not_true, Bool.not_false, reduceCtorEq, not_true_eq_false, not_false_eq_true, eq_self, ne_eq] at h; first | done | omega | contradiction))) | refine And.intro ?_ ?_ | exact rfl
            conv => whnf
            intro bL
            repeat' first | refine And.intro trivial ?_ | refine And.intro rfl ?_ | (refine And.intro (fun h => ?_) (fun h => ?_) <;> try (first | (exact absurd h (by decide)) | (exfalso; simp only [decide_eq_true_eq, decide_eq_false_iff_not, Bool.not_eq_true', Bool.not_eq_false', cond_true, cond_false, Bool.false_eq_true, Bool.true_eq_false, Bool.not_true, Bool.not_false, reduceCtorEq, not_true_eq_false, not_false_eq_true, eq_self, ne_eq] at h; first | done | omega | contradiction))) | refine And.intro ?_ ?_ | exact rfl
            · show (0 + 1) * 24 ≤ 140737488355328
              omega
            · omega
            conv => whnf
            refine ⟨Int × Int × Int, enc3, [], [((k : Int), (ownN g' a' k : Int), (ownN g' b' k : Int))], (0, 0, 0), fun _ => rfl, rfl, rfl, rfl, ?_⟩
            intro bN cN hcN
            repeat' first | refine And.intro trivial ?_ | refine And.intro rfl ?_ | (refine And.intro (fun h => ?_) (fun h => ?_) <;> try (first | (exact absurd h (by decide)) | (exfalso; simp only [decide_eq_true_eq, decide_eq_false_iff_not, Bool.not_eq_true', Bool.not_eq_false', cond_true, cond_false, Bool.false_eq_true, Bool.true_eq_false, Bool.not_true, Bool.not_false, reduceCtorEq, not_true_eq_false, not_false_eq_true, eq_self, ne_eq] at h; first | done | omega | contradiction))) | refine And.intro ?_ ?_ | exact rfl
            conv => whnf
            refine ⟨n - 1, rmL g' a' b' (k + 1) (.sl 0 ⟨bN, 0⟩ 3 0 1 cN), [(⟨bN, 0⟩, .tab enc3 3 ([] ++ [((k : Int), (ownN g' a' k : Int), (ownN g' b' k : Int))] ++ List.replicate (cN - (0 + 1)) (0, 0, 0)))], by omega, rfl, ⟨rfl, rfl, rfl, rfl, ?_, trivial⟩, Tells.pick [1] [9, 0] (by decide) rfl, k + 1, by omega, .inr ⟨bN, cN, List.replicate (cN - (0 + 1)) (0, 0, 0), by rw [hm]; simp, by rw [hm]; exact hcN, by rw [hm]; simp; omega, by rw [hm]; rfl, by rw [hm]; rfl⟩⟩
            show SV.den (.int .i64 (IntKind.i64.wrap ((k : Int) + 1))) = _
            rw [wr (by omega) (by omega)]; rfl
        · repeat' first | refine And.intro trivial ?_ | refine And.intro rfl ?_ | (refine And.intro (fun h => ?_) (fun h => ?_) <;> try (first | (exact absurd h (by decide)) | (exfalso; simp only [decide_eq_true_eq, decide_eq_false_iff_not, Bool.not_eq_true', Bool.not_eq_false', cond_true, cond_false, Bool.false_eq_true, Bool.true_eq_false, Bool.not_true, Bool.not_false, reduceCtorEq, not_true_eq_false, not_false_eq_true, eq_self, ne_eq] at h; first | done | omega | contradiction))) | refine And.intro ?_ ?_ | exact rfl
          obtain rfl : k = g' := by omega
          exact .inr ⟨k, a', b', rfl, rfl, rfl, hM, hN, .inl ⟨hnil, rfl⟩⟩
      · by_cases hk : k < g'
        · by_cases hne' : ownN g' a' k = ownN g' b' k
          · have hm : moves g' a' b' (k + 1) = moves g' a' b' k := by rw [moves_succ, if_pos hne', List.append_nil]
            repeat' first | refine And.intro trivial ?_ | refine And.intro rfl ?_ | (refine And.intro (fun h => ?_) (fun h => ?_) <;> try (first | (exact absurd h (by decide)) | (exfalso; simp only [decide_eq_true_eq, decide_eq_false_iff_not, Bool.not_eq_true', Bool.not_eq_false', cond_true, cond_false, Bool.false_eq_true, Bool.true_eq_false, Bool.not_true, Bool.not_false, reduceCtorEq, not_true_eq_false, not_false_eq_true, eq_self, ne_eq] at h; first | done | omega | contradiction))) | refine And.intro ?_ ?_ | exact rfl
            refine refowner_ob g' a' k _ _ (fun h => absurd ⟨hM, by omega, by omega⟩ h) fun g3 t3 i3 e4 e5 e6 _ _ => ?_
            obtain rfl : g' = g3 := by omega
            obtain rfl : a' = t3 := by omega
            obtain rfl : k = i3 := by omega
            repeat' first | refine And.intro trivial ?_ | refine And.intro rfl ?_ | (refine And.intro (fun h => ?_) (fun h => ?_) <;> try (first | (exact absurd h (by decide)) | (exfalso; simp only [decide_eq_true_eq, decide_eq_false_iff_not, Bool.not_eq_true', Bool.not_eq_false', cond_true, cond_false, Bool.false_eq_true, Bool.true_eq_false, Bool.not_true, Bool.not_false, reduceCtorEq, not_true_eq_false, not_false_eq_true, eq_self, ne_eq] at h; first | done | omega | contradiction))) | refine And.intro ?_ ?_ | exact rfl
            refine refowner_ob g' b' k _ _ (fun h => absurd ⟨hN, by omega, by omega⟩ h) fun g3 t3 i3 e4 e5 e6 _ _ => ?_
            obtain rfl : g' = g3 := by omega
            obtain rfl : b' = t3 := by omega
            obtain rfl : k = i3 := by omega
            repeat' first | refine And.intro trivial ?_ | refine And.intro rfl ?_ | (refine And.intro (fun h => ?_) (fun h => ?_) <;> try (first | (exact absurd h (by decide)) | (exfalso; simp only [decide_eq_true_eq, decide_eq_false_iff_not, Bool.not_eq_true', Bool.not_eq_false', cond_true, cond_false, Bool.false_eq_true, Bool.true_eq_false, Bool.not_true, Bool.not_false, reduceCtorEq, not_true_eq_false, not_false_eq_true, eq_self, ne_eq] at h; first | done | omega | contradiction))) | refine And.intro ?_ ?_ | exact rfl
            conv => whnf
            refine ⟨n - 1, rmL g' a' b' (k + 1) (.sl 0 ⟨bo, 0⟩ 3 0 (moves g' a' b' k).length c), [(⟨bo, 0⟩, .tab enc3 3 (moves g' a' b' k ++ X))], by omega, rfl, ⟨rfl, rfl, rfl, rfl, ?_, trivial⟩, Tells.refl _, k + 1, by omega, .inr ⟨bo, c, X, by rw [hm]; exact hne, by rw [hm]; exact hc1, by rw [hm]; exact hc2, by rw [hm], by rw [hm]⟩⟩
            show SV.den (.int .i64 (IntKind.i64.wrap ((k : Int) + 1))) = _
            rw [wr (by omega) (by omega)]; rfl
          · have hm : moves g' a' b' (k + 1) = moves g' a' b' k ++ [((k : Int), (ownN g' a' k : Int), (ownN g' b' k : Int))] := by rw [moves_succ, if_neg hne']
            have hlen := moves_len g' a' b' k
            repeat' first | refine And.intro trivial ?_ | refine And.intro rfl ?_ | (refine And.intro (fun h => ?_) (fun h => ?_) <;> try (first | (exact absurd h (by decide)) | (exfalso; simp only [decide_eq_true_eq, decide_eq_false_iff_not, Bool.not_eq_true', Bool.not_eq_false', cond_true, cond_false, Bool.false_eq_true, Bool.true_eq_false, Bool.not_true, Bool.not_false, reduceCtorEq, not_true_eq_false, not_false_eq_true, eq_self, ne_eq] at h; first | done | omega | contradiction))) | refine And.intro ?_ ?_ | exact rfl
            refine refowner_ob g' a' k _ _ (fun h => absurd ⟨hM, by omega, by omega⟩ h) fun g3 t3 i3 e4 e5 e6 _ _ => ?_
            obtain rfl : g' = g3 := by omega
            obtain rfl : a' = t3 := by omega
            obtain rfl : k = i3 := by omega
            repeat' first | refine And.intro trivial ?_ | refine And.intro rfl ?_ | (refine And.intro (fun h => ?_) (fun h => ?_) <;> try (first | (exact absurd h (by decide)) | (exfalso; simp only [decide_eq_true_eq, decide_eq_false_iff_not, Bool.not_eq_true', Bool.not_eq_false', cond_true, cond_false, Bool.false_eq_true, Bool.true_eq_false, Bool.not_true, Bool.not_false, reduceCtorEq, not_true_eq_false, not_false_eq_true, eq_self, ne_eq] at h; first | done | omega | contradiction))) | refine And.intro ?_ ?_ | exact rfl
            refine refowner_ob g' b' k _ _ (fun h => absurd ⟨hN, by omega, by omega⟩ h) fun g3 t3 i3 e4 e5 e6 _ _ => ?_
            obtain rfl : g' = g3 := by omega
            obtain rfl : b' = t3 := by omega
            obtain rfl : k = i3 := by omega
            repeat' first | refine And.intro trivial ?_ | refine And.intro rfl ?_ | (refine And.intro (fun h => ?_) (fun h => ?_) <;> try (first | (exact absurd h (by decide)) | (exfalso; simp only [decide_eq_true_eq, decide_eq_false_iff_not, Bool.not_eq_true', Bool.not_eq_false', cond_true, cond_false, Bool.false_eq_true, Bool.true_eq_false, Bool.not_true, Bool.not_false, reduceCtorEq, not_true_eq_false, not_false_eq_true, eq_self, ne_eq] at h; first | done | omega | contradiction))) | refine And.intro ?_ ?_ | exact rfl
            conv => whnf
            intro bL
            repeat' first | refine And.intro trivial ?_ | refine And.intro rfl ?_ | (refine And.intro (fun h => ?_) (fun h => ?_) <;> try (first | (exact absurd h (by decide)) | (exfalso; simp only [decide_eq_true_eq, decide_eq_false_iff_not, Bool.not_eq_true', Bool.not_eq_false', cond_true, cond_false, Bool.false_eq_true, Bool.true_eq_false, Bool.not_true, Bool.not_false, reduceCtorEq, not_true_eq_false, not_false_eq_true, eq_self, ne_eq] at h; first | done | omega | contradiction))) | refine And.intro ?_ ?_ | exact rfl
            · have hfit := h
              refine ⟨[((k : Int), (ownN g' a' k : Int), (ownN g' b' k : Int))], rfl, fun _ _ => rfl, by simp at hc2 ⊢; omega, ?_⟩
              have eT : List.take (0 + (moves g' a' b' k).length) (moves g' a' b' k ++ X) ++ [((k : Int), (ownN g' a' k : Int), (ownN g' b' k : Int))] ++ List.drop (0 + (moves g' a' b' k).length + [((k : Int), (ownN g' a' k : Int), (ownN g' b' k : Int))].length) (moves g' a' b' k ++ X) = moves g' a' b' (k + 1) ++ X.drop 1 := by
                rw [hm, Nat.zero_add, List.take_left']
                · rw [← List.drop_drop, List.drop_left']
                  · rfl
                  · rfl
                · rfl
              rw [eT]
              repeat' first | refine And.intro trivial ?_ | refine And.intro rfl ?_ | (refine And.intro (fun h => ?_) (fun h => ?_) <;> try (first | (exact absurd h (by decide)) | (exfalso; simp only [decide_eq_true_eq, decide_eq_false_iff_not, Bool.not_eq_true', Bool.not_eq_false', cond_true, cond_false, Bool.false_eq_true, Bool.true_eq_false, Bool.not_true, Bool.not_false, reduceCtorEq, not_true_eq_false, not_false_eq_true, eq_self, ne_eq] at h; first | done | omega | contradiction))) | refine And.intro ?_ ?_ | exact rfl
              conv => whnf
              refine ⟨n - 1, rmL g' a' b' (k + 1) (.sl 0 ⟨bo, 0⟩ 3 0 ((moves g' a' b' k).length + 1) c), [(⟨bo, 0⟩, .tab enc3 3 (moves g' a' b' (k + 1) ++ X.drop 1))], by omega, rfl, ⟨rfl, rfl, rfl, rfl, ?_, trivial⟩, Tells.pick [0] [0] (by decide) rfl, k + 1, by omega, .inr ⟨bo, c, X.drop 1, by rw [hm]; simp, by rw [hm]; simpa using hfit, by rw [hm]; simp at hc2 ⊢; omega, by rw [hm]; simp, rfl⟩⟩
              show SV.den (.int .i64 (IntKind.i64.wrap ((k : Int) + 1))) = _
              rw [wr (by omega) (by omega)]; rfl
            · show ((moves g' a' b' k).length + 1) * 24 ≤ 140737488355328
              omega
            · omega
            · show (List.take ((moves g' a' b' k).length * 3) (List.drop (0 * 3) (List.flatMap enc3 (moves g' a' b' k ++ X)))).length = _
              rw [flatMap_drop enc3 3 _ (fun _ _ => rfl), flatMap_take enc3 3 _ (fun _ _ => rfl), flatMap_length enc3 3 _ (fun _ _ => rfl)]; simp
            conv => whnf
            refine ⟨Int × Int × Int, enc3, moves g' a' b' k, [((k : Int), (ownN g' a' k : Int), (ownN g' b' k : Int))], (0, 0, 0), fun _ => rfl, ?_, rfl, rfl, ?_⟩
            · show _ = List.take ((moves g' a' b' k).length * 3) (List.drop (0 * 3) (List.flatMap enc3 (moves g' a' b' k ++ X)))
              rw [flatMap_drop enc3 3 _ (fun _ _ => rfl), flatMap_take enc3 3 _ (fun _ _ => rfl)]; simp
            intro bN cN hcN
            rw [← hm]
            repeat' first | refine And.intro trivial ?_ | refine And.intro rfl ?_ | (refine And.intro (fun h => ?_) (fun h => ?_) <;> try (first | (exact absurd h (by decide)) | (exfalso; simp only [decide_eq_true_eq, decide_eq_false_iff_not, Bool.not_eq_true', Bool.not_eq_false', cond_true, cond_false, Bool.false_eq_true, Bool.true_eq_false, Bool.not_true, Bool.not_false, reduceCtorEq, not_true_eq_false, not_false_eq_true, eq_self, ne_eq] at h; first | done | omega | contradiction))) | refine And.intro ?_ ?_ | exact rfl
            conv => whnf
            refine ⟨n - 1, rmL g' a' b' (k + 1) (.sl 0 ⟨bN, 0⟩ 3 0 ((moves g' a' b' k).length + 1) cN), [(⟨bN, 0⟩, .tab enc3 3 (moves g' a' b' (k + 1) ++ List.replicate (cN - ((moves g' a' b' k).length + 1)) (0, 0, 0)))], by omega, rfl, ⟨rfl, rfl, rfl, rfl, ?_, trivial⟩, Tells.pick [2] [9, 9, 0] (by decide) rfl, k + 1, by omega, .inr ⟨bN, cN, _, by rw [hm]; simp, by rw [hm]; simpa using hcN, by rw [hm]; simp; omega, by rw [hm]; simp, rfl⟩⟩
            show SV.den (.int .i64 (IntKind.i64.wrap ((k : Int) + 1))) = _
            rw [wr (by omega) (by omega)]; rfl
        · repeat' first | refine And.intro trivial ?_ | refine And.intro rfl ?_ | (refine And.intro (fun h => ?_) (fun h => ?_) <;> try (first | (exact absurd h (by decide)) | (exfalso; simp only [decide_eq_true_eq, decide_eq_false_iff_not, Bool.not_eq_true', Bool.not_eq_false', cond_true, cond_false, Bool.false_eq_true, Bool.true_eq_false, Bool.not_true, Bool.not_false, reduceCtorEq, not_true_eq_false, not_false_eq_true, eq_self, ne_eq] at h; first | done | omega | contradiction))) | refine And.intro ?_ ?_ | exact rfl
          obtain rfl : k = g' := by omega
          exact .inr ⟨k, a', b', rfl, rfl, rfl, hM, hN, .inr ⟨0, bo, c, X, hne, hc1, hc2, rfl, rfl⟩⟩
end Go.Proofs.Ytbmdmeljflmcgaa

/- The group laws: which groups move. Own work. -/
import Derived.Test.YtbmdmeljflmcgaaG8
namespace Go.Proofs.Ytbmdmeljflmcgaa
open Go Go.Sx
set_option maxRecDepth 100000
set_option linter.unusedVariables false
set_option linter.unusedSimpArgs false
set_option maxHeartbeats 4000000

theorem refmoves_ob (g a b : Int) (K : SV → SH → Prop)
    (h1 : ¬ (May g a ∧ May g b) → K (.tup [.nils, .int .i64 1]) [])
    (h2 : ∀ (g' a' b' : Nat), g = g' → a = a' → b = b' → May g a → May g b → moves g' a' b' g' = [] → K (.tup [.nils, .int .i64 0]) [])
    (h3 : ∀ (g' a' b' bo c : Nat) (J : List (Int × Int × Int)), g = g' → a = a' → b = b' → May g a → May g b → moves g' a' b' g' ≠ [] → (moves g' a' b' g').length ≤ c → c ≤ (moves g' a' b' g' ++ J).length → K (.tup [.sl 0 ⟨bo, 0⟩ 3 0 (moves g' a' b' g').length c, .int .i64 0]) [(⟨bo, 0⟩, .tab enc3 3 (moves g' a' b' g' ++ J))]) :
    FnOb Try.prog 23 [.int .i64 g, .int .i64 a, .int .i64 b] [] K := by
  refine (refmoves_raw g a b).retell fun r H' hr => ?_
  rcases hr with ⟨hn, rfl⟩ | ⟨g', a', b', e1, e2, e3, hM, hN, ⟨hnil, rfl⟩ | ⟨i, bo, c, J, hne, hc1, hc2, rfl, hi⟩⟩
  · exact ⟨_, [], rfl, Tells.drop [] H', h1 hn⟩
  · exact ⟨_, [], rfl, Tells.drop [] H', h2 g' a' b' e1 e2 e3 hM hN hnil⟩
  · refine ⟨_, [(⟨bo, 0⟩, .tab enc3 3 (moves g' a' b' g' ++ J))], ?_, Tells.pick [i] [] (by simp) (by simp [hi, rnP, rnB]), h3 g' a' b' bo c J e1 e2 e3 hM hN hne hc1 hc2⟩
    rfl

theorem groupMoves_ob (g : Int) (_ : -9223372036854775808 ≤ g) (_ : g ≤ 9223372036854775807) (a : Int) (_ : -9223372036854775808 ≤ a) (_ : a ≤ 9223372036854775807) (b : Int) (_ : -9223372036854775808 ≤ b) (_ : b ≤ 9223372036854775807) : FnOb Try.prog 4 [.int .i64 g, .int .i64 a, .int .i64 b] [] fun r _ => r = .bool true := by
  apply en4
  refine FnOb.grow [] [0] (moves_ob g a b _ (fun hn => ?_) (fun g' a' b' e1 e2 e3 hM hN he => ?_) fun g' a' b' bo c X e1 e2 e3 hM hN hne hc1 hc2 => ?_) (by decide) rfl rfl
  · repeat' first | refine And.intro trivial ?_ | refine And.intro rfl ?_ | (refine And.intro (fun h => ?_) (fun h => ?_) <;> try (first | (exact absurd h (by decide)) | (exfalso; simp only [decide_eq_true_eq, decide_eq_false_iff_not, Bool.not_eq_true', Bool.not_eq_false', cond_true, cond_false, Bool.false_eq_true, Bool.true_eq_false, Bool.not_true, Bool.not_false, reduceCtorEq, not_true_eq_false, not_false_eq_true, eq_self, ne_eq] at h; first | done | omega | contradiction))) | refine And.intro ?_ ?_ | exact rfl
    refine FnOb.grow [] [0] (refmoves_ob g a b _ (fun _ => ?_) (fun _ _ _ _ _ _ h1 h2 _ => absurd ⟨h1, h2⟩ hn) fun _ _ _ _ _ _ _ _ _ h1 h2 _ _ _ => absurd ⟨h1, h2⟩ hn) (by decide) rfl rfl
    repeat' first | refine And.intro trivial ?_ | refine And.intro rfl ?_ | (refine And.intro (fun h => ?_) (fun h => ?_) <;> try (first | (exact absurd h (by decide)) | (exfalso; simp only [decide_eq_true_eq, decide_eq_false_iff_not, Bool.not_eq_true', Bool.not_eq_false', cond_true, cond_false, Bool.false_eq_true, Bool.true_eq_false, Bool.not_true, Bool.not_false, reduceCtorEq, not_true_eq_false, not_false_eq_true, eq_self, ne_eq] at h; first | done | omega | contradiction))) | refine And.intro ?_ ?_ | exact rfl
    refine loop_live mixed (S := sch4) (by kernel_rfl) 52 (fun n live H' => live = [(7, .nils), (11, .int .i64 0)]) ⟨1, [(7, .nils), (11, .int .i64 0)], _, rfl, ⟨rfl, rfl, trivial⟩, Tells.refl _, rfl⟩ ?_
    intro n live H J hinv
    subst hinv
    repeat' first | refine And.intro trivial ?_ | refine And.intro rfl ?_ | (refine And.intro (fun h => ?_) (fun h => ?_) <;> try (first | (exact absurd h (by decide)) | (exfalso; simp only [decide_eq_true_eq, decide_eq_false_iff_not, Bool.not_eq_true', Bool.not_eq_false', cond_true, cond_false, Bool.false_eq_true, Bool.true_eq_false, Bool.not_true, Bool.not_false, reduceCtorEq, not_true_eq_false, not_false_eq_true, eq_self, ne_eq] at h; first | done | omega | contradiction))) | refine And.intro ?_ ?_ | exact rfl
    refine works06_ob _ _ ?_
    repeat' first | refine And.intro trivial ?_ | refine And.intro rfl ?_ | (refine And.intro (fun h => ?_) (fun h => ?_) <;> try (first | (exact absurd h (by decide)) | (exfalso; simp only [decide_eq_true_eq, decide_eq_false_iff_not, Bool.not_eq_true', Bool.not_eq_false', cond_true, cond_false, Bool.false_eq_true, Bool.true_eq_false, Bool.not_true, Bool.not_false, reduceCtorEq, not_true_eq_false, not_false_eq_true, eq_self, ne_eq] at h; first | done | omega | contradiction))) | refine And.intro ?_ ?_ | exact rfl
  · repeat' first | refine And.intro trivial ?_ | refine And.intro rfl ?_ | (refine And.intro (fun h => ?_) (fun h => ?_) <;> try (first | (exact absurd h (by decide)) | (exfalso; simp only [decide_eq_true_eq, decide_eq_false_iff_not, Bool.not_eq_true', Bool.not_eq_false', cond_true, cond_false, Bool.false_eq_true, Bool.true_eq_false, Bool.not_true, Bool.not_false, reduceCtorEq, not_true_eq_false, not_false_eq_true, eq_self, ne_eq] at h; first | done | omega | contradiction))) | refine And.intro ?_ ?_ | exact rfl
    refine FnOb.grow [] [0] (refmoves_ob g a b _ (fun hn => absurd ⟨hM, hN⟩ hn) (fun _ _ _ _ _ _ _ _ _ => ?_) fun g1 a1 b1 _ _ _ f1 f2 f3 _ _ hne _ _ => ?_) (by decide) rfl rfl
    · repeat' first | refine And.intro trivial ?_ | refine And.intro rfl ?_ | (refine And.intro (fun h => ?_) (fun h => ?_) <;> try (first | (exact absurd h (by decide)) | (exfalso; simp only [decide_eq_true_eq, decide_eq_false_iff_not, Bool.not_eq_true', Bool.not_eq_false', cond_true, cond_false, Bool.false_eq_true, Bool.true_eq_false, Bool.not_true, Bool.not_false, reduceCtorEq, not_true_eq_false, not_false_eq_true, eq_self, ne_eq] at h; first | done | omega | contradiction))) | refine And.intro ?_ ?_ | exact rfl
      refine loop_live mixed (S := sch4) (by kernel_rfl) 52 (fun n live H' => live = [(7, .nils), (11, .int .i64 0)]) ⟨1, [(7, .nils), (11, .int .i64 0)], _, rfl, ⟨rfl, rfl, trivial⟩, Tells.refl _, rfl⟩ ?_
      intro n live H J hinv
      subst hinv
      repeat' first | refine And.intro trivial ?_ | refine And.intro rfl ?_ | (refine And.intro (fun h => ?_) (fun h => ?_) <;> try (first | (exact absurd h (by decide)) | (exfalso; simp only [decide_eq_true_eq, decide_eq_false_iff_not, Bool.not_eq_true', Bool.not_eq_false', cond_true, cond_false, Bool.false_eq_true, Bool.true_eq_false, Bool.not_true, Bool.not_false, reduceCtorEq, not_true_eq_false, not_false_eq_true, eq_self, ne_eq] at h; first | done | omega | contradiction))) | refine And.intro ?_ ?_ | exact rfl
      refine works06_ob _ _ ?_
      repeat' first | refine And.intro trivial ?_ | refine And.intro rfl ?_ | (refine And.intro (fun h => ?_) (fun h => ?_) <;> try (first | (exact absurd h (by decide)) | (exfalso; simp only [decide_eq_true_eq, decide_eq_false_iff_not, Bool.not_eq_true', Bool.not_eq_false', cond_true, cond_false, Bool.false_eq_true, Bool.true_eq_false, Bool.not_true, Bool.not_false, reduceCtorEq, not_true_eq_false, not_false_eq_true, eq_self, ne_eq] at h; first | done | omega | contradiction))) | refine And.intro ?_ ?_ | exact rfl
    · obtain rfl : g' = g1 := by omega
      obtain rfl : a' = a1 := by omega
      obtain rfl : b' = b1 := by omega
      exact absurd he hne
  · repeat' first | refine And.intro trivial ?_ | refine And.intro rfl ?_ | (refine And.intro (fun h => ?_) (fun h => ?_) <;> try (first | (exact absurd h (by decide)) | (exfalso; simp only [decide_eq_true_eq, decide_eq_false_iff_not, Bool.not_eq_true', Bool.not_eq_false', cond_true, cond_false, Bool.false_eq_true, Bool.true_eq_false, Bool.not_true, Bool.not_false, reduceCtorEq, not_true_eq_false, not_false_eq_true, eq_self, ne_eq] at h; first | done | omega | contradiction))) | refine And.intro ?_ ?_ | exact rfl
    refine FnOb.grow [] [1] (refmoves_ob g a b _ (fun hn => absurd ⟨hM, hN⟩ hn) (fun g1 a1 b1 f1 f2 f3 _ _ he => ?_) fun g1 a1 b1 bo2 c2 X2 f1 f2 f3 _ _ _ hd1 hd2 => ?_) (by decide) rfl rfl
    · obtain rfl : g' = g1 := by omega
      obtain rfl : a' = a1 := by omega
      obtain rfl : b' = b1 := by omega
      exact absurd he hne
    obtain rfl : g' = g1 := by omega
    obtain rfl : a' = a1 := by omega
    obtain rfl : b' = b1 := by omega
    have hlen := moves_len g' a' b' g'
    have hg : g' ≤ 128 := by have := hM.2.1; omega
    generalize hL : moves g' a' b' g' = L at *
    repeat' first | refine And.intro trivial ?_ | refine And.intro rfl ?_ | (refine And.intro (fun h => ?_) (fun h => ?_) <;> try (first | (exact absurd h (by decide)) | (exfalso; simp only [decide_eq_true_eq, decide_eq_false_iff_not, Bool.not_eq_true', Bool.not_eq_false', cond_true, cond_false, Bool.false_eq_true, Bool.true_eq_false, Bool.not_true, Bool.not_false, reduceCtorEq, not_true_eq_false, not_false_eq_true, eq_self, ne_eq] at h; first | done | omega | contradiction))) | refine And.intro ?_ ?_ | exact rfl
    refine loop_live mixed (S := sch4) (by kernel_rfl) 52 (fun n live H' => ∃ k, n + k = L.length ∧ H' = [(⟨bo, 0⟩, .tab enc3 3 (L ++ X)), (⟨bo2, 0⟩, .tab enc3 3 (L ++ X2))] ∧ live = [(7, .sl 0 ⟨bo, 0⟩ 3 0 L.length c), (9, .sl 1 ⟨bo2, 0⟩ 3 0 L.length c2), (11, .int .i64 k)]) ⟨L.length, [(7, .sl 0 ⟨bo, 0⟩ 3 0 L.length c), (9, .sl 1 ⟨bo2, 0⟩ 3 0 L.length c2), (11, .int .i64 (0 : Nat))], _, rfl, ⟨rfl, rfl, rfl, trivial⟩, Tells.refl _, 0, by omega, rfl, rfl⟩ ?_
    intro n live H J ⟨k, hn, e4, e5⟩
    subst e4; subst e5
    by_cases hk : k < L.length
    · repeat' first | refine And.intro trivial ?_ | refine And.intro rfl ?_ | (refine And.intro (fun h => ?_) (fun h => ?_) <;> try (first | (exact absurd h (by decide)) | (exfalso; simp only [decide_eq_true_eq, decide_eq_false_iff_not, Bool.not_eq_true', Bool.not_eq_false', cond_true, cond_false, Bool.false_eq_true, Bool.true_eq_false, Bool.not_true, Bool.not_false, reduceCtorEq, not_true_eq_false, not_false_eq_true, eq_self, ne_eq] at h; first | done | omega | contradiction))) | refine And.intro ?_ ?_ | exact rfl
      · omega
      · omega
      · simp; omega
      intro x hx
      repeat' first | refine And.intro trivial ?_ | refine And.intro rfl ?_ | (refine And.intro (fun h => ?_) (fun h => ?_) <;> try (first | (exact absurd h (by decide)) | (exfalso; simp only [decide_eq_true_eq, decide_eq_false_iff_not, Bool.not_eq_true', Bool.not_eq_false', cond_true, cond_false, Bool.false_eq_true, Bool.true_eq_false, Bool.not_true, Bool.not_false, reduceCtorEq, not_true_eq_false, not_false_eq_true, eq_self, ne_eq] at h; first | done | omega | contradiction))) | refine And.intro ?_ ?_ | exact rfl
      · omega
      · omega
      · simp; omega
      intro y hy
      obtain rfl : y = x := by
        rw [show 0 + (k : Int).toNat = k from by omega, List.getElem?_append_left hk] at hx hy
        rw [hx] at hy; exact (Option.some.inj hy).symm
      repeat' first | refine And.intro trivial ?_ | refine And.intro rfl ?_ | (refine And.intro (fun h => ?_) (fun h => ?_) <;> try (first | (exact absurd h (by decide)) | (exfalso; simp only [decide_eq_true_eq, decide_eq_false_iff_not, Bool.not_eq_true', Bool.not_eq_false', cond_true, cond_false, Bool.false_eq_true, Bool.true_eq_false, Bool.not_true, Bool.not_false, reduceCtorEq, not_true_eq_false, not_false_eq_true, eq_self, ne_eq] at h; first | done | omega | contradiction))) | refine And.intro ?_ ?_ | exact rfl
      · conv => whnf
        refine ⟨n - 1, [(7, .sl 0 ⟨bo, 0⟩ 3 0 L.length c), (9, .sl 1 ⟨bo2, 0⟩ 3 0 L.length c2), (11, .int .i64 (k + 1 : Nat))], _, by omega, rfl, ⟨rfl, rfl, ?_, trivial⟩, Tells.refl _, k + 1, by omega, rfl, rfl⟩
        show SV.den (.int .i64 (IntKind.i64.wrap ((k : Int) + 1))) = _
        rw [wr (by omega) (by omega)]; rfl
    · repeat' first | refine And.intro trivial ?_ | refine And.intro rfl ?_ | (refine And.intro (fun h => ?_) (fun h => ?_) <;> try (first | (exact absurd h (by decide)) | (exfalso; simp only [decide_eq_true_eq, decide_eq_false_iff_not, Bool.not_eq_true', Bool.not_eq_false', cond_true, cond_false, Bool.false_eq_true, Bool.true_eq_false, Bool.not_true, Bool.not_false, reduceCtorEq, not_true_eq_false, not_false_eq_true, eq_self, ne_eq] at h; first | done | omega | contradiction))) | refine And.intro ?_ ?_ | exact rfl
      refine works06_ob _ _ ?_
      repeat' first | refine And.intro trivial ?_ | refine And.intro rfl ?_ | (refine And.intro (fun h => ?_) (fun h => ?_) <;> try (first | (exact absurd h (by decide)) | (exfalso; simp only [decide_eq_true_eq, decide_eq_false_iff_not, Bool.not_eq_true', Bool.not_eq_false', cond_true, cond_false, Bool.false_eq_true, Bool.true_eq_false, Bool.not_true, Bool.not_false, reduceCtorEq, not_true_eq_false, not_false_eq_true, eq_self, ne_eq] at h; first | done | omega | contradiction))) | refine And.intro ?_ ?_ | exact rfl
end Go.Proofs.Ytbmdmeljflmcgaa

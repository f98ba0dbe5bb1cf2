/- The group laws: each has one. Own work. -/
import Derived.Test.YtbmdmeljflmcgaaG9
namespace Go.Proofs.Ytbmdmeljflmcgaa
open Go Go.Sx
set_option maxRecDepth 100000
set_option linter.unusedVariables false
set_option linter.unusedSimpArgs false
set_option maxHeartbeats 4000000

theorem size_two (g t i : Nat) (ht : 0 < t) : i * g / t + g / t ≤ (i + 1) * g / t ∧ (i + 1) * g / t ≤ i * g / t + g / t + 1 := by
  have e : (i + 1) * g = i * g + g := by rw [Nat.add_mul, Nat.one_mul]
  rw [e]
  constructor
  · rw [Nat.add_div ht]; split <;> omega
  · rw [Nat.add_div ht]; split <;> omega

def oneInv (g t : Nat) : Nat → List (Nat × SV) → SH → Prop := fun n live H =>
  ∃ (i least most : Nat), n + i = t ∧ H = [] ∧ (1 ≤ i → g / t ≤ least ∧ least ≤ g / t + 1 ∧ g / t ≤ most ∧ most ≤ g / t + 1) ∧ (i = 0 → least = 0 ∧ most = 0) ∧
    live = [(0, .int .i64 g), (1, .int .i64 t), (5, .int .i64 least), (6, .int .i64 most), (7, .int .i64 (i * g / t : Nat)), (8, .int .i64 i)]

theorem groupOne_ob (g : Int) (_ : -9223372036854775808 ≤ g) (_ : g ≤ 9223372036854775807) (t : Int) (_ : -9223372036854775808 ≤ t) (_ : t ≤ 9223372036854775807) : FnOb Try.prog 8 [.int .i64 g, .int .i64 t] [] fun r _ => r = .bool true := by
  apply en8
  refine works06_ob _ _ ?_
  repeat' first | refine And.intro trivial ?_ | refine And.intro rfl ?_ | (refine And.intro (fun h => ?_) (fun h => ?_) <;> try (first | (exact absurd h (by decide)) | (exfalso; simp only [decide_eq_true_eq, decide_eq_false_iff_not, Bool.not_eq_true', Bool.not_eq_false', cond_true, cond_false, Bool.false_eq_true, Bool.true_eq_false, Bool.not_true, Bool.not_false, reduceCtorEq, not_true_eq_false, not_false_eq_true, eq_self, ne_eq] at h; first | done | omega | contradiction))) | refine And.intro ?_ ?_ | exact rfl
  by_cases hM : May g t
  · obtain ⟨m1, m2, m3, m4, m5⟩ := id hM
    obtain ⟨g', rfl⟩ : ∃ g' : Nat, g = g' := ⟨g.toNat, by omega⟩
    obtain ⟨t', rfl⟩ : ∃ t' : Nat, t = t' := ⟨t.toNat, by omega⟩
    have ht : 0 < t' := by omega
    have hg : 0 < g' := by omega
    refine loop_live mixed (S := sch8) (by kernel_rfl) 124 (oneInv g' t') ⟨t', [(0, .int .i64 g'), (1, .int .i64 t'), (5, .int .i64 (0 : Nat)), (6, .int .i64 (0 : Nat)), (7, .int .i64 (0 : Nat)), (8, .int .i64 (0 : Nat))], [], rfl, ⟨rfl, rfl, rfl, rfl, rfl, rfl, trivial⟩, Tells.refl _, 0, 0, 0, by omega, rfl, by omega, by omega, by rw [Nat.zero_mul, Nat.zero_div]⟩ ?_
    intro n live H J ⟨i, least, most, hn, e1, hlm, hz, e2⟩
    subst e1; subst e2
    by_cases hi : i < t'
    · have hsz := size_two g' t' i ht
      have hq : 1 ≤ g' / t' := (Nat.le_div_iff_mul_le ht).2 (by omega)
      have hup : (i + 1) * g' / t' ≤ g' := by
        have := Nat.div_le_div_right (c := t') (Nat.mul_le_mul_right g' (show i + 1 ≤ t' by omega))
        rwa [Nat.mul_div_cancel_left _ ht] at this
      repeat' first | refine And.intro trivial ?_ | refine And.intro rfl ?_ | (refine And.intro (fun h => ?_) (fun h => ?_) <;> try (first | (exact absurd h (by decide)) | (exfalso; simp only [decide_eq_true_eq, decide_eq_false_iff_not, Bool.not_eq_true', Bool.not_eq_false', cond_true, cond_false, Bool.false_eq_true, Bool.true_eq_false, Bool.not_true, Bool.not_false, reduceCtorEq, not_true_eq_false, not_false_eq_true, eq_self, ne_eq] at h; first | done | omega | contradiction))) | refine And.intro ?_ ?_ | exact rfl
      refine range_ob g' t' i _ _ (fun h => absurd hM h) (fun _ h => by omega) fun g1 t1 i1 e1 e2 e3 _ _ => ?_
      obtain rfl : g' = g1 := by omega
      obtain rfl : t' = t1 := by omega
      obtain rfl : i = i1 := by omega
      have hown : ∀ k, i * g' / t' ≤ k → k < (i + 1) * g' / t' → ownN g' t' k = i := fun k h1 h2 => (own_iff g' t' k i hg ht).2 ⟨h1, h2⟩
      generalize hlo : i * g' / t' = lo at *
      generalize hhi : (i + 1) * g' / t' = up at *
      generalize hqq : g' / t' = qq at *
      repeat' first | refine And.intro trivial ?_ | refine And.intro rfl ?_ | (refine And.intro (fun h => ?_) (fun h => ?_) <;> try (first | (exact absurd h (by decide)) | (exfalso; simp only [decide_eq_true_eq, decide_eq_false_iff_not, Bool.not_eq_true', Bool.not_eq_false', cond_true, cond_false, Bool.false_eq_true, Bool.true_eq_false, Bool.not_true, Bool.not_false, reduceCtorEq, not_true_eq_false, not_false_eq_true, eq_self, ne_eq] at h; first | done | omega | contradiction))) | refine And.intro ?_ ?_ | exact rfl
      refine loop_live mixed (S := sch8) (by kernel_rfl) 124 (fun n1 live H => ∃ k, n1 + k = up ∧ lo ≤ k ∧ H = [] ∧ live = [(0, .int .i64 g'), (1, .int .i64 t'), (5, .int .i64 least), (6, .int .i64 most), (8, .int .i64 i), (9, .int .i64 lo), (10, .int .i64 up), (12, .int .i64 k)]) ⟨up - lo, [(0, .int .i64 g'), (1, .int .i64 t'), (5, .int .i64 least), (6, .int .i64 most), (8, .int .i64 i), (9, .int .i64 lo), (10, .int .i64 up), (12, .int .i64 lo)], [], rfl, ⟨rfl, rfl, rfl, rfl, rfl, rfl, rfl, rfl, trivial⟩, Tells.refl _, lo, by omega, by omega, rfl, rfl⟩ ?_
      intro n1 live1 H1 J1 ⟨k, hn1, hk1, e4, e5⟩
      subst e4; subst e5
      by_cases hk : k < up
      · have ho := hown k hk1 hk
        repeat' first | refine And.intro trivial ?_ | refine And.intro rfl ?_ | (refine And.intro (fun h => ?_) (fun h => ?_) <;> try (first | (exact absurd h (by decide)) | (exfalso; simp only [decide_eq_true_eq, decide_eq_false_iff_not, Bool.not_eq_true', Bool.not_eq_false', cond_true, cond_false, Bool.false_eq_true, Bool.true_eq_false, Bool.not_true, Bool.not_false, reduceCtorEq, not_true_eq_false, not_false_eq_true, eq_self, ne_eq] at h; first | done | omega | contradiction))) | refine And.intro ?_ ?_ | exact rfl
        refine owner_ob g' t' k _ _ (fun h => absurd ⟨hM, by omega, by omega⟩ h) fun g2 t2 k2 q1 q2 q3 _ _ => ?_
        obtain rfl : g' = g2 := by omega
        obtain rfl : t' = t2 := by omega
        obtain rfl : k = k2 := by omega
        rw [ho]
        repeat' first | refine And.intro trivial ?_ | refine And.intro rfl ?_ | (refine And.intro (fun h => ?_) (fun h => ?_) <;> try (first | (exact absurd h (by decide)) | (exfalso; simp only [decide_eq_true_eq, decide_eq_false_iff_not, Bool.not_eq_true', Bool.not_eq_false', cond_true, cond_false, Bool.false_eq_true, Bool.true_eq_false, Bool.not_true, Bool.not_false, reduceCtorEq, not_true_eq_false, not_false_eq_true, eq_self, ne_eq] at h; first | done | omega | contradiction))) | refine And.intro ?_ ?_ | exact rfl
        conv => whnf
        refine ⟨n1 - 1, [(0, .int .i64 g'), (1, .int .i64 t'), (5, .int .i64 least), (6, .int .i64 most), (8, .int .i64 i), (9, .int .i64 lo), (10, .int .i64 up), (12, .int .i64 (k + 1 : Nat))], [], by omega, rfl, ⟨rfl, rfl, rfl, rfl, rfl, rfl, rfl, ?_, trivial⟩, Tells.refl _, k + 1, by omega, by omega, rfl, rfl⟩
        show SV.den (.int .i64 (IntKind.i64.wrap ((k : Int) + 1))) = _
        rw [wr (by omega) (by omega)]; rfl
      · obtain rfl : k = up := by omega
        have esz : IntKind.i64.wrap ((k : Int) - (lo : Int)) = ((k - lo : Nat) : Int) := by rw [wr (by omega) (by omega)]; omega
        by_cases hi0 : i = 0
        · repeat' first | refine And.intro trivial ?_ | refine And.intro rfl ?_ | (refine And.intro (fun h => ?_) (fun h => ?_) <;> try (first | (exact absurd h (by decide)) | (exfalso; simp only [decide_eq_true_eq, decide_eq_false_iff_not, Bool.not_eq_true', Bool.not_eq_false', cond_true, cond_false, Bool.false_eq_true, Bool.true_eq_false, Bool.not_true, Bool.not_false, reduceCtorEq, not_true_eq_false, not_false_eq_true, eq_self, ne_eq] at h; first | done | omega | contradiction))) | refine And.intro ?_ ?_ | exact rfl
          conv => whnf
          rw [esz]
          refine ⟨n - 1, [(0, .int .i64 g'), (1, .int .i64 t'), (5, .int .i64 ((k - lo) : Nat)), (6, .int .i64 (max most (k - lo) : Nat)), (7, .int .i64 ((i + 1) * g' / t' : Nat)), (8, .int .i64 (i + 1 : Nat))], [], by omega, rfl, ⟨rfl, rfl, ?_, ?_, ?_, ?_, trivial⟩, Tells.refl _, i + 1, (k - lo), max most (k - lo), by omega, rfl, ?_, by omega, rfl⟩
          · show SV.den (.int .i64 _) = SV.den (.int .i64 _)
            rfl
          · show SV.den (.int .i64 (max (most : Int) ((k - lo : Nat) : Int))) = SV.den (.int .i64 ((max most (k - lo) : Nat) : Int))
            refine congrArg (fun x => SV.den (.int .i64 x)) ?_
            clear hhi
            simp only [Int.max_def, Nat.max_def]
            split <;> split <;> omega
          · show SV.den (.int .i64 (k : Int)) = SV.den (.int .i64 (((i + 1) * g' / t' : Nat) : Int))
            rw [hhi]
          · show SV.den (.int .i64 (IntKind.i64.wrap ((i : Int) + 1))) = _
            rw [wr (by omega) (by omega)]; rfl
          · intro _
            rw [hqq]
            have hb : most ≤ qq + 1 := by
              by_cases h0 : i = 0
              · have := (hz h0).2; omega
              · exact (hlm (by omega)).2.2.2
            have hc : qq ≤ k - lo ∧ k - lo ≤ qq + 1 := by omega
            exact ⟨by first | exact hc.1 | exact (hlm (by omega)).1, by first | exact hc.2 | exact (hlm (by omega)).2.1, Nat.le_trans hc.1 (Nat.le_max_right _ _), Nat.max_le.2 ⟨hb, hc.2⟩⟩
        · by_cases hls : k - lo < least
          · repeat' first | refine And.intro trivial ?_ | refine And.intro rfl ?_ | (refine And.intro (fun h => ?_) (fun h => ?_) <;> try (first | (exact absurd h (by decide)) | (exfalso; simp only [decide_eq_true_eq, decide_eq_false_iff_not, Bool.not_eq_true', Bool.not_eq_false', cond_true, cond_false, Bool.false_eq_true, Bool.true_eq_false, Bool.not_true, Bool.not_false, reduceCtorEq, not_true_eq_false, not_false_eq_true, eq_self, ne_eq] at h; first | done | omega | contradiction))) | refine And.intro ?_ ?_ | exact rfl
            conv => whnf
            rw [esz]
            refine ⟨n - 1, [(0, .int .i64 g'), (1, .int .i64 t'), (5, .int .i64 ((k - lo) : Nat)), (6, .int .i64 (max most (k - lo) : Nat)), (7, .int .i64 ((i + 1) * g' / t' : Nat)), (8, .int .i64 (i + 1 : Nat))], [], by omega, rfl, ⟨rfl, rfl, ?_, ?_, ?_, ?_, trivial⟩, Tells.refl _, i + 1, (k - lo), max most (k - lo), by omega, rfl, ?_, by omega, rfl⟩
            · show SV.den (.int .i64 _) = SV.den (.int .i64 _)
              rfl
            · show SV.den (.int .i64 (max (most : Int) ((k - lo : Nat) : Int))) = SV.den (.int .i64 ((max most (k - lo) : Nat) : Int))
              refine congrArg (fun x => SV.den (.int .i64 x)) ?_
              clear hhi
              simp only [Int.max_def, Nat.max_def]
              split <;> split <;> omega
            · show SV.den (.int .i64 (k : Int)) = SV.den (.int .i64 (((i + 1) * g' / t' : Nat) : Int))
              rw [hhi]
            · show SV.den (.int .i64 (IntKind.i64.wrap ((i : Int) + 1))) = _
              rw [wr (by omega) (by omega)]; rfl
            · intro _
              rw [hqq]
              have hb : most ≤ qq + 1 := by
                by_cases h0 : i = 0
                · have := (hz h0).2; omega
                · exact (hlm (by omega)).2.2.2
              have hc : qq ≤ k - lo ∧ k - lo ≤ qq + 1 := by omega
              exact ⟨by first | exact hc.1 | exact (hlm (by omega)).1, by first | exact hc.2 | exact (hlm (by omega)).2.1, Nat.le_trans hc.1 (Nat.le_max_right _ _), Nat.max_le.2 ⟨hb, hc.2⟩⟩
          · repeat' first | refine And.intro trivial ?_ | refine And.intro rfl ?_ | (refine And.intro (fun h => ?_) (fun h => ?_) <;> try (first | (exact absurd h (by decide)) | (exfalso; simp only [decide_eq_true_eq, decide_eq_false_iff_not, Bool.not_eq_true', Bool.not_eq_false', cond_true, cond_false, Bool.false_eq_true, Bool.true_eq_false, Bool.not_true, Bool.not_false, reduceCtorEq, not_true_eq_false, not_false_eq_true, eq_self, ne_eq] at h; first | done | omega | contradiction))) | refine And.intro ?_ ?_ | exact rfl
            conv => whnf
            rw [esz]
            refine ⟨n - 1, [(0, .int .i64 g'), (1, .int .i64 t'), (5, .int .i64 (least : Nat)), (6, .int .i64 (max most (k - lo) : Nat)), (7, .int .i64 ((i + 1) * g' / t' : Nat)), (8, .int .i64 (i + 1 : Nat))], [], by omega, rfl, ⟨rfl, rfl, ?_, ?_, ?_, ?_, trivial⟩, Tells.refl _, i + 1, least, max most (k - lo), by omega, rfl, ?_, by omega, rfl⟩
            · show SV.den (.int .i64 _) = SV.den (.int .i64 _)
              rfl
            · show SV.den (.int .i64 (max (most : Int) ((k - lo : Nat) : Int))) = SV.den (.int .i64 ((max most (k - lo) : Nat) : Int))
              refine congrArg (fun x => SV.den (.int .i64 x)) ?_
              clear hhi
              simp only [Int.max_def, Nat.max_def]
              split <;> split <;> omega
            · show SV.den (.int .i64 (k : Int)) = SV.den (.int .i64 (((i + 1) * g' / t' : Nat) : Int))
              rw [hhi]
            · show SV.den (.int .i64 (IntKind.i64.wrap ((i : Int) + 1))) = _
              rw [wr (by omega) (by omega)]; rfl
            · intro _
              rw [hqq]
              have hb : most ≤ qq + 1 := by
                by_cases h0 : i = 0
                · have := (hz h0).2; omega
                · exact (hlm (by omega)).2.2.2
              have hc : qq ≤ k - lo ∧ k - lo ≤ qq + 1 := by omega
              exact ⟨by first | exact hc.1 | exact (hlm (by omega)).1, by first | exact hc.2 | exact (hlm (by omega)).2.1, Nat.le_trans hc.1 (Nat.le_max_right _ _), Nat.max_le.2 ⟨hb, hc.2⟩⟩
    · obtain rfl : i = t' := by omega
      have hmul : i * g' / i = g' := Nat.mul_div_cancel_left _ ht
      have hlm := hlm (by omega)
      rw [hmul]
      repeat' first | refine And.intro trivial ?_ | refine And.intro rfl ?_ | (refine And.intro (fun h => ?_) (fun h => ?_) <;> try (first | (exact absurd h (by decide)) | (exfalso; simp only [decide_eq_true_eq, decide_eq_false_iff_not, Bool.not_eq_true', Bool.not_eq_false', cond_true, cond_false, Bool.false_eq_true, Bool.true_eq_false, Bool.not_true, Bool.not_false, reduceCtorEq, not_true_eq_false, not_false_eq_true, eq_self, ne_eq] at h; first | done | omega | contradiction))) | refine And.intro ?_ ?_ | exact rfl
      all_goals conv => whnf
      all_goals (rw [wr (by omega) (by omega)]; congr 1; exact decide_eq_true (by omega))
  · refine loop_live mixed (S := sch8) (by kernel_rfl) 124 (fun n live H => live = [(0, .int .i64 g), (1, .int .i64 t), (8, .int .i64 0)]) ⟨1, [(0, .int .i64 g), (1, .int .i64 t), (8, .int .i64 0)], _, rfl, ⟨rfl, rfl, rfl, trivial⟩, Tells.refl _, rfl⟩ ?_
    intro n live H J hinv
    subst hinv
    by_cases ht : t < 1
    · repeat' first | refine And.intro trivial ?_ | refine And.intro rfl ?_ | (refine And.intro (fun h => ?_) (fun h => ?_) <;> try (first | (exact absurd h (by decide)) | (exfalso; simp only [decide_eq_true_eq, decide_eq_false_iff_not, Bool.not_eq_true', Bool.not_eq_false', cond_true, cond_false, Bool.false_eq_true, Bool.true_eq_false, Bool.not_true, Bool.not_false, reduceCtorEq, not_true_eq_false, not_false_eq_true, eq_self, ne_eq] at h; first | done | omega | contradiction))) | refine And.intro ?_ ?_ | exact rfl
      refine range_ob g t 0 _ _ (fun _ => ?_) (fun h _ => absurd h hM) fun _ _ _ _ _ _ h _ => absurd h hM
      repeat' first | refine And.intro trivial ?_ | refine And.intro rfl ?_ | (refine And.intro (fun h => ?_) (fun h => ?_) <;> try (first | (exact absurd h (by decide)) | (exfalso; simp only [decide_eq_true_eq, decide_eq_false_iff_not, Bool.not_eq_true', Bool.not_eq_false', cond_true, cond_false, Bool.false_eq_true, Bool.true_eq_false, Bool.not_true, Bool.not_false, reduceCtorEq, not_true_eq_false, not_false_eq_true, eq_self, ne_eq] at h; first | done | omega | contradiction))) | refine And.intro ?_ ?_ | exact rfl
    · repeat' first | refine And.intro trivial ?_ | refine And.intro rfl ?_ | (refine And.intro (fun h => ?_) (fun h => ?_) <;> try (first | (exact absurd h (by decide)) | (exfalso; simp only [decide_eq_true_eq, decide_eq_false_iff_not, Bool.not_eq_true', Bool.not_eq_false', cond_true, cond_false, Bool.false_eq_true, Bool.true_eq_false, Bool.not_true, Bool.not_false, reduceCtorEq, not_true_eq_false, not_false_eq_true, eq_self, ne_eq] at h; first | done | omega | contradiction))) | refine And.intro ?_ ?_ | exact rfl
      refine range_ob g t 0 _ _ (fun _ => ?_) (fun h _ => absurd h hM) fun _ _ _ _ _ _ h _ => absurd h hM
      repeat' first | refine And.intro trivial ?_ | refine And.intro rfl ?_ | (refine And.intro (fun h => ?_) (fun h => ?_) <;> try (first | (exact absurd h (by decide)) | (exfalso; simp only [decide_eq_true_eq, decide_eq_false_iff_not, Bool.not_eq_true', Bool.not_eq_false', cond_true, cond_false, Bool.false_eq_true, Bool.true_eq_false, Bool.not_true, Bool.not_false, reduceCtorEq, not_true_eq_false, not_false_eq_true, eq_self, ne_eq] at h; first | done | omega | contradiction))) | refine And.intro ?_ ?_ | exact rfl
      conv => whnf
      have : 16 < t := by
        unfold May at hM
        simp only [decide_eq_false_iff_not] at *
        omega
      simp [this]
end Go.Proofs.Ytbmdmeljflmcgaa

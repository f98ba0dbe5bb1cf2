/- The group laws: hashes, ranges, shares. Own work. -/
import Derived.Test.YtbmdmeljflmcgaaG5
namespace Go.Proofs.Ytbmdmeljflmcgaa
open Go Go.Sx
set_option maxRecDepth 100000
set_option linter.unusedVariables false
set_option linter.unusedSimpArgs false
set_option maxHeartbeats 4000000

theorem groupHashes_ob (s : List UInt8) (hs : s.length ≤ 9223372036854775807) : FnOb Try.prog 5 [.str s] [] fun r _ => r = .bool true := by
  apply en5
  refine works06_ob _ _ ?_
  repeat' first | refine And.intro trivial ?_ | refine And.intro rfl ?_ | (refine And.intro (fun h => ?_) (fun h => ?_) <;> try (first | (exact absurd h (by decide)) | (exfalso; simp only [decide_eq_true_eq, decide_eq_false_iff_not, Bool.not_eq_true', Bool.not_eq_false', cond_true, cond_false, Bool.false_eq_true, Bool.true_eq_false, Bool.not_true, Bool.not_false, reduceCtorEq, not_true_eq_false, not_false_eq_true, eq_self, ne_eq] at h; first | done | omega | contradiction))) | refine And.intro ?_ ?_ | exact rfl
  refine hash_ob [] (by simp) _ _ ?_
  repeat' first | refine And.intro trivial ?_ | refine And.intro rfl ?_ | (refine And.intro (fun h => ?_) (fun h => ?_) <;> try (first | (exact absurd h (by decide)) | (exfalso; simp only [decide_eq_true_eq, decide_eq_false_iff_not, Bool.not_eq_true', Bool.not_eq_false', cond_true, cond_false, Bool.false_eq_true, Bool.true_eq_false, Bool.not_true, Bool.not_false, reduceCtorEq, not_true_eq_false, not_false_eq_true, eq_self, ne_eq] at h; first | done | omega | contradiction))) | refine And.intro ?_ ?_ | exact rfl
  refine loop_live mixed (S := sch5) (by kernel_rfl) 35 (fun n live H' => ∃ k, n + k = s.length ∧ H' = [] ∧ live = [(0, .str s), (3, .int .u32 (hashN (s.take k))), (12, .int .i64 s.length), (13, .int .i64 k)]) ⟨s.length, [(0, .str s), (3, .int .u32 (hashN (s.take 0))), (12, .int .i64 s.length), (13, .int .i64 (0 : Nat))], [], rfl, ⟨rfl, rfl, rfl, rfl, trivial⟩, Tells.refl _, 0, by omega, rfl, rfl⟩ ?_
  intro n live H' J ⟨k, hn, e1, e2⟩
  subst e1; subst e2
  by_cases hk : k < s.length
  · have hc := (s.getD (k : Int).toNat 0).toNat_lt
    have ex : IntKind.u32.wrap (ibits .xor .u32 (hashN (s.take k)) (IntKind.u32.wrap (s.getD (k : Int).toNat 0).toNat) * 16777619) = (hashN (s.take (k + 1)) : Nat) := by
      rw [show IntKind.u32.wrap (((s.getD (k : Int).toNat 0).toNat : Nat) : Int) = ((s.getD (k : Int).toNat 0).toNat : Nat) from wu32 (by omega) (by omega), xor32 (hashN_lt _) (by omega), mul32, take_getD s k hk, hashN_snoc]; rfl
    have ek : IntKind.i64.wrap ((k : Int) + 1) = ((k + 1 : Nat) : Int) := by rw [wr (by omega) (by omega)]; rfl
    repeat' first | refine And.intro trivial ?_ | refine And.intro rfl ?_ | (refine And.intro (fun h => ?_) (fun h => ?_) <;> try (first | (exact absurd h (by decide)) | (exfalso; simp only [decide_eq_true_eq, decide_eq_false_iff_not, Bool.not_eq_true', Bool.not_eq_false', cond_true, cond_false, Bool.false_eq_true, Bool.true_eq_false, Bool.not_true, Bool.not_false, reduceCtorEq, not_true_eq_false, not_false_eq_true, eq_self, ne_eq] at h; first | done | omega | contradiction))) | refine And.intro ?_ ?_ | exact rfl
    · omega
    · omega
    · rw [ek]; omega
    · rw [ek]; omega
    rw [ex, ek]
    refine hash_ob _ ?_ _ _ ?_
    · simp; omega
    rw [show ((k + 1 : Nat) : Int).toNat = k + 1 from by omega, List.drop_zero]
    repeat' first | refine And.intro trivial ?_ | refine And.intro rfl ?_ | (refine And.intro (fun h => ?_) (fun h => ?_) <;> try (first | (exact absurd h (by decide)) | (exfalso; simp only [decide_eq_true_eq, decide_eq_false_iff_not, Bool.not_eq_true', Bool.not_eq_false', cond_true, cond_false, Bool.false_eq_true, Bool.true_eq_false, Bool.not_true, Bool.not_false, reduceCtorEq, not_true_eq_false, not_false_eq_true, eq_self, ne_eq] at h; first | done | omega | contradiction))) | refine And.intro ?_ ?_ | exact rfl
    conv => whnf
    refine ⟨n - 1, [(0, .str s), (3, .int .u32 (hashN (s.take (k + 1)))), (12, .int .i64 s.length), (13, .int .i64 (k + 1 : Nat))], [], by omega, rfl, ⟨rfl, rfl, rfl, ?_, trivial⟩, Tells.refl _, k + 1, by omega, rfl, rfl⟩
    show SV.den (.int .i64 (IntKind.i64.wrap ((k : Int) + 1))) = _
    rw [ek]
  · have et : s.take k = s := List.take_of_length_le (by omega)
    rw [et]
    repeat' first | refine And.intro trivial ?_ | refine And.intro rfl ?_ | (refine And.intro (fun h => ?_) (fun h => ?_) <;> try (first | (exact absurd h (by decide)) | (exfalso; simp only [decide_eq_true_eq, decide_eq_false_iff_not, Bool.not_eq_true', Bool.not_eq_false', cond_true, cond_false, Bool.false_eq_true, Bool.true_eq_false, Bool.not_true, Bool.not_false, reduceCtorEq, not_true_eq_false, not_false_eq_true, eq_self, ne_eq] at h; first | done | omega | contradiction))) | refine And.intro ?_ ?_ | exact rfl
    refine hash_ob s hs _ _ ?_
    repeat' first | refine And.intro trivial ?_ | refine And.intro rfl ?_ | (refine And.intro (fun h => ?_) (fun h => ?_) <;> try (first | (exact absurd h (by decide)) | (exfalso; simp only [decide_eq_true_eq, decide_eq_false_iff_not, Bool.not_eq_true', Bool.not_eq_false', cond_true, cond_false, Bool.false_eq_true, Bool.true_eq_false, Bool.not_true, Bool.not_false, reduceCtorEq, not_true_eq_false, not_false_eq_true, eq_self, ne_eq] at h; first | done | omega | contradiction))) | refine And.intro ?_ ?_ | exact rfl
    conv => whnf
    simp

theorem groupShares_ob (s : List UInt8) (hs : s.length ≤ 9223372036854775807) (g : Int) (hg0 : -9223372036854775808 ≤ g) (hg1 : g ≤ 9223372036854775807) : FnOb Try.prog 10 [.str s, .int .i64 g] [] fun r _ => r = .bool true := by
  apply en10
  refine works06_ob _ _ ?_
  repeat' first | refine And.intro trivial ?_ | refine And.intro rfl ?_ | (refine And.intro (fun h => ?_) (fun h => ?_) <;> try (first | (exact absurd h (by decide)) | (exfalso; simp only [decide_eq_true_eq, decide_eq_false_iff_not, Bool.not_eq_true', Bool.not_eq_false', cond_true, cond_false, Bool.false_eq_true, Bool.true_eq_false, Bool.not_true, Bool.not_false, reduceCtorEq, not_true_eq_false, not_false_eq_true, eq_self, ne_eq] at h; first | done | omega | contradiction))) | refine And.intro ?_ ?_ | exact rfl
  · decide
  conv => whnf
  have eu : IntKind.u64.wrap g = g % 18446744073709551616 := by
    simp only [IntKind.wrap, IntKind.bits, IntKind.signed, Bool.false_and, Bool.false_eq_true, if_false]; omega
  have ev : (IntKind.u64.wrap g).tmod 16 = g % 18446744073709551616 % 16 := by
    rw [eu, Int.tmod_eq_emod_of_nonneg (by omega)]
  have ew : IntKind.i64.wrap (1 + IntKind.i64.wrap ((IntKind.u64.wrap g).tmod 16)) = ((1 + (g % 18446744073709551616 % 16).toNat : Nat) : Int) := by
    rw [ev, show IntKind.i64.wrap (g % 18446744073709551616 % 16) = g % 18446744073709551616 % 16 from wr (by omega) (by omega), wr (by omega) (by omega)]; omega
  rw [ew]
  generalize hmm : 1 + (g % 18446744073709551616 % 16).toNat = m
  have hm1 : 1 ≤ m := by omega
  have hm2 : m ≤ 16 := by omega
  clear hmm ew ev eu
  refine of_ob s hs m _ _ (fun h => by omega) fun g' e1 _ _ => ?_
  obtain rfl : m = g' := by omega
  have hmod : hashN s % m < m := Nat.mod_lt _ (by omega)
  have e32 : IntKind.u32.wrap (m : Int) = m := wu32 (by omega) (by omega)
  have e2 : IntKind.i64.wrap ((hashN s : Int).tmod (IntKind.u32.wrap (m : Int))) = (hashN s % m : Nat) := by
    rw [e32, tmod_nat, wrn _ (by omega)]
  generalize hkk : hashN s % m = k at *
  have hM1 : May m m := by unfold May; omega
  have hM2 : May m 1 := by unfold May; omega
  have o1 : ownN m m k = k := by
    rw [own_iff m m k k (by omega) (by omega), Nat.mul_div_cancel _ (by omega), Nat.mul_div_cancel _ (by omega)]; omega
  have o2 : ownN m 1 k = 0 := by
    rw [own_iff m 1 k 0 (by omega) (by omega), Nat.zero_mul, Nat.div_one, Nat.div_one, Nat.zero_add, Nat.one_mul]; omega
  repeat' first | refine And.intro trivial ?_ | refine And.intro rfl ?_ | (refine And.intro (fun h => ?_) (fun h => ?_) <;> try (first | (exact absurd h (by decide)) | (exfalso; simp only [decide_eq_true_eq, decide_eq_false_iff_not, Bool.not_eq_true', Bool.not_eq_false', cond_true, cond_false, Bool.false_eq_true, Bool.true_eq_false, Bool.not_true, Bool.not_false, reduceCtorEq, not_true_eq_false, not_false_eq_true, eq_self, ne_eq] at h; first | done | omega | contradiction))) | refine And.intro ?_ ?_ | exact rfl
  refine hash_ob s hs _ _ ?_
  repeat' first | refine And.intro trivial ?_ | refine And.intro rfl ?_ | (refine And.intro (fun h => ?_) (fun h => ?_) <;> try (first | (exact absurd h (by decide)) | (exfalso; simp only [decide_eq_true_eq, decide_eq_false_iff_not, Bool.not_eq_true', Bool.not_eq_false', cond_true, cond_false, Bool.false_eq_true, Bool.true_eq_false, Bool.not_true, Bool.not_false, reduceCtorEq, not_true_eq_false, not_false_eq_true, eq_self, ne_eq] at h; first | done | omega | contradiction))) | refine And.intro ?_ ?_ | exact rfl
  · rw [e32]; omega
  refine owner_ob m m k _ _ (fun h => absurd ⟨hM1, by omega, by omega⟩ h) fun g' t' k' q1 q2 q3 _ _ => ?_
  obtain rfl : m = g' := by omega
  obtain rfl : m = t' := by omega
  obtain rfl : k = k' := by omega
  rw [o1]
  repeat' first | refine And.intro trivial ?_ | refine And.intro rfl ?_ | (refine And.intro (fun h => ?_) (fun h => ?_) <;> try (first | (exact absurd h (by decide)) | (exfalso; simp only [decide_eq_true_eq, decide_eq_false_iff_not, Bool.not_eq_true', Bool.not_eq_false', cond_true, cond_false, Bool.false_eq_true, Bool.true_eq_false, Bool.not_true, Bool.not_false, reduceCtorEq, not_true_eq_false, not_false_eq_true, eq_self, ne_eq] at h; first | done | omega | contradiction))) | refine And.intro ?_ ?_ | exact rfl
  refine owner_ob m 1 k _ _ (fun h => absurd ⟨hM2, by omega, by omega⟩ h) fun g' t' k' q1 q2 q3 _ _ => ?_
  obtain rfl : m = g' := by omega
  obtain rfl : t' = 1 := by omega
  obtain rfl : k = k' := by omega
  rw [o2]
  repeat' first | refine And.intro trivial ?_ | refine And.intro rfl ?_ | (refine And.intro (fun h => ?_) (fun h => ?_) <;> try (first | (exact absurd h (by decide)) | (exfalso; simp only [decide_eq_true_eq, decide_eq_false_iff_not, Bool.not_eq_true', Bool.not_eq_false', cond_true, cond_false, Bool.false_eq_true, Bool.true_eq_false, Bool.not_true, Bool.not_false, reduceCtorEq, not_true_eq_false, not_false_eq_true, eq_self, ne_eq] at h; first | done | omega | contradiction))) | refine And.intro ?_ ?_ | exact rfl
end Go.Proofs.Ytbmdmeljflmcgaa

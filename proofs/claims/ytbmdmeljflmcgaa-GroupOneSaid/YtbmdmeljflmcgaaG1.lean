/- The groups: which numbers may be; a key's hash. Own work. -/
import Derived.Test.YtbmdmeljflmcgaaC1
namespace Go.Proofs.Ytbmdmeljflmcgaa
open Go Go.Sx
set_option maxRecDepth 100000
set_option linter.unusedVariables false
set_option linter.unusedSimpArgs false
set_option maxHeartbeats 4000000

def May (g t : Int) : Prop := 1 ≤ g ∧ g ≤ 128 ∧ 1 ≤ t ∧ t ≤ g ∧ t ≤ 16

theorem may_ob (g t : Int) (H : SH) (K : SV → SH → Prop) (hK : ∀ b : Bool, (b = true ↔ May g t) → K (.bool b) H) : FnOb Try.prog 39 [.int .i64 g, .int .i64 t] H K := by
  apply en39
  repeat' first | refine And.intro trivial ?_ | refine And.intro rfl ?_ | (refine And.intro (fun h => ?_) (fun h => ?_) <;> try (first | (exact absurd h (by decide)) | (exfalso; simp only [decide_eq_true_eq, decide_eq_false_iff_not, Bool.not_eq_true', Bool.not_eq_false', cond_true, cond_false, Bool.false_eq_true, Bool.true_eq_false, Bool.not_true, Bool.not_false, reduceCtorEq, not_true_eq_false, not_false_eq_true, eq_self, ne_eq] at h; first | done | omega | contradiction))) | refine And.intro ?_ ?_ | exact rfl
  all_goals
    conv => whnf
    refine hK _ ?_
    clear hK
    simp only [decide_eq_true_eq, decide_eq_false_iff_not, May, Bool.false_eq_true, false_iff] at *
    omega

theorem refmay_ob (g t : Int) (H : SH) (K : SV → SH → Prop) (hK : ∀ b : Bool, (b = true ↔ May g t) → K (.bool b) H) : FnOb Try.prog 41 [.int .i64 g, .int .i64 t] H K := by
  apply en41
  repeat' first | refine And.intro trivial ?_ | refine And.intro rfl ?_ | (refine And.intro (fun h => ?_) (fun h => ?_) <;> try (first | (exact absurd h (by decide)) | (exfalso; simp only [decide_eq_true_eq, decide_eq_false_iff_not, Bool.not_eq_true', Bool.not_eq_false', cond_true, cond_false, Bool.false_eq_true, Bool.true_eq_false, Bool.not_true, Bool.not_false, reduceCtorEq, not_true_eq_false, not_false_eq_true, eq_self, ne_eq] at h; first | done | omega | contradiction))) | refine And.intro ?_ ?_ | exact rfl
  all_goals
    conv => whnf
    refine hK _ ?_
    clear hK
    simp only [decide_eq_true_eq, decide_eq_false_iff_not, May, Bool.false_eq_true, false_iff] at *
    omega

/-- A key's hash, on and on. -/
def hstep (n : Nat) (c : UInt8) : Nat := ((n ^^^ c.toNat) * 16777619) % 4294967296
theorem hstep_lt (n : Nat) (c : UInt8) : hstep n c < 4294967296 := Nat.mod_lt _ (by omega)
def hashN (s : List UInt8) : Nat := s.foldl hstep 2166136261
theorem hashN_snoc (s : List UInt8) (c : UInt8) : hashN (s ++ [c]) = hstep (hashN s) c := by
  unfold hashN
  rw [List.foldl_append, List.foldl_cons, List.foldl_nil]
theorem hashN_nil : hashN [] = 2166136261 := rfl
theorem foldl_lt (s : List UInt8) : ∀ n : Nat, n < 4294967296 → s.foldl hstep n < 4294967296 := by
  induction s with
  | nil => intro n h; exact h
  | cons c s ih => intro n h; rw [List.foldl_cons]; exact ih _ (hstep_lt n c)
theorem hashN_lt (s : List UInt8) : hashN s < 4294967296 := foldl_lt s _ (by omega)

theorem xor_lt {n c : Nat} (hn : n < 4294967296) (hc : c < 256) : n ^^^ c < 4294967296 := Nat.xor_lt_two_pow (n := 32) hn (by omega)

theorem xorbv (w n c : Nat) (hn : n < 2 ^ w) (hc : c < 2 ^ w) : (BitVec.ofNat w n ^^^ BitVec.ofNat w c).toNat = n ^^^ c := by
  rw [BitVec.toNat_xor, BitVec.toNat_ofNat, BitVec.toNat_ofNat, Nat.mod_eq_of_lt hn, Nat.mod_eq_of_lt hc]
theorem xor32 {n c : Nat} (hn : n < 4294967296) (hc : c < 256) : ibits .xor .u32 n c = ((n ^^^ c : Nat) : Int) := by
  have := xor_lt hn hc
  show IntKind.u32.wrap ((BitVec.ofInt 32 (n : Int) ^^^ BitVec.ofInt 32 (c : Int)).toNat : Nat) = _
  rw [BitVec.ofInt_natCast, BitVec.ofInt_natCast, xorbv 32 n c (by omega) (by omega)]
  simp only [IntKind.wrap, IntKind.bits, IntKind.signed, Bool.false_and, Bool.false_eq_true, if_false]
  omega
theorem xor64 {n c : Nat} (hn : n < 4294967296) (hc : c < 256) : ibits .xor .u64 n c = ((n ^^^ c : Nat) : Int) := by
  have := xor_lt hn hc
  show IntKind.u64.wrap ((BitVec.ofInt 64 (n : Int) ^^^ BitVec.ofInt 64 (c : Int)).toNat : Nat) = _
  rw [BitVec.ofInt_natCast, BitVec.ofInt_natCast, xorbv 64 n c (by omega) (by omega)]
  simp only [IntKind.wrap, IntKind.bits, IntKind.signed, Bool.false_and, Bool.false_eq_true, if_false]
  omega
theorem mul32 (n : Nat) : IntKind.u32.wrap ((n : Int) * 16777619) = ((n * 16777619 % 4294967296 : Nat) : Int) := by
  simp only [IntKind.wrap, IntKind.bits, IntKind.signed, Bool.false_and, Bool.false_eq_true, if_false]
  omega
theorem mul64 {n : Nat} (hn : n < 4294967296) : (IntKind.u64.wrap ((n : Int) * 16777619)).tmod 4294967296 = ((n * 16777619 % 4294967296 : Nat) : Int) := by
  have e : IntKind.u64.wrap ((n : Int) * 16777619) = ((n * 16777619 : Nat) : Int) := by
    simp [IntKind.wrap, IntKind.bits, IntKind.signed]; omega
  rw [e]; exact tmod_nat _ _

theorem wu32 {n : Int} (h0 : 0 ≤ n) (h : n < 4294967296) : IntKind.u32.wrap n = n := by
  simp only [IntKind.wrap, IntKind.bits, IntKind.signed, Bool.false_and, Bool.false_eq_true, if_false]; omega
theorem wu64 {n : Int} (h0 : 0 ≤ n) (h : n < 18446744073709551616) : IntKind.u64.wrap n = n := by
  simp only [IntKind.wrap, IntKind.bits, IntKind.signed, Bool.false_and, Bool.false_eq_true, if_false]; omega

theorem take_getD (s : List UInt8) (k : Nat) (h : k < s.length) : s.take (k + 1) = s.take k ++ [s.getD (k : Int).toNat 0] := by
  rw [List.take_add_one]
  simp [List.getD_eq_getElem?_getD, h]

theorem hash_ob (s : List UInt8) (hs : s.length ≤ 9223372036854775807) (H : SH) (K : SV → SH → Prop) (hK : K (.int .u32 (hashN s)) H) : FnOb Try.prog 25 [.str s] H K := by
  apply en25
  repeat' first | refine And.intro trivial ?_ | refine And.intro rfl ?_ | (refine And.intro (fun h => ?_) (fun h => ?_) <;> try (first | (exact absurd h (by decide)) | (exfalso; simp only [decide_eq_true_eq, decide_eq_false_iff_not, Bool.not_eq_true', Bool.not_eq_false', cond_true, cond_false, Bool.false_eq_true, Bool.true_eq_false, Bool.not_true, Bool.not_false, reduceCtorEq, not_true_eq_false, not_false_eq_true, eq_self, ne_eq] at h; first | done | omega | contradiction))) | refine And.intro ?_ ?_ | exact rfl
  refine loop_live mixed (S := sch25) (by kernel_rfl) 19 (fun n live H' => ∃ k, n + k = s.length ∧ H' = H ∧ live = [(0, .str s), (3, .int .u32 (hashN (s.take k))), (6, .int .i64 s.length), (7, .int .i64 k)]) ⟨s.length, _, H, rfl, ?_, Tells.refl H, 0, by omega, rfl, rfl⟩ ?_
  · exact ⟨rfl, rfl, rfl, rfl, trivial⟩
  intro n live H' J ⟨k, hn, e1, e2⟩
  subst e1; subst e2
  repeat' first | refine And.intro trivial ?_ | refine And.intro rfl ?_ | (refine And.intro (fun h => ?_) (fun h => ?_) <;> try (first | (exact absurd h (by decide)) | (exfalso; simp only [decide_eq_true_eq, decide_eq_false_iff_not, Bool.not_eq_true', Bool.not_eq_false', cond_true, cond_false, Bool.false_eq_true, Bool.true_eq_false, Bool.not_true, Bool.not_false, reduceCtorEq, not_true_eq_false, not_false_eq_true, eq_self, ne_eq] at h; first | done | omega | contradiction))) | refine And.intro ?_ ?_ | exact rfl
  · omega
  · have := of_decide_eq_true h; omega
  · have hk : k < s.length := by have := of_decide_eq_true h; omega
    conv => whnf
    refine ⟨n - 1, [(0, .str s), (3, .int .u32 (hashN (s.take (k + 1)))), (6, .int .i64 s.length), (7, .int .i64 (k + 1 : Nat))], H', by omega, rfl, ⟨rfl, ?_, rfl, ?_, trivial⟩, Tells.refl _, k + 1, by omega, rfl, rfl⟩
    · show SV.den (.int .u32 (IntKind.u32.wrap (ibits .xor .u32 (hashN (s.take k)) (IntKind.u32.wrap (s.getD (k : Int).toNat 0).toNat) * 16777619))) = _
      have hc := (s.getD (k : Int).toNat 0).toNat_lt
      rw [show IntKind.u32.wrap (((s.getD (k : Int).toNat 0).toNat : Nat) : Int) = ((s.getD (k : Int).toNat 0).toNat : Nat) from wu32 (by omega) (by omega), xor32 (hashN_lt _) (by omega), mul32, take_getD s k hk, hashN_snoc]; rfl
    · show SV.den (.int .i64 (IntKind.i64.wrap ((k : Int) + 1))) = _
      rw [wr (by omega) (by omega)]; rfl
  · have hk : k = s.length := by have := of_decide_eq_false h; omega
    subst hk
    conv => whnf
    rw [List.take_length]
    exact hK

theorem refhash_ob (s : List UInt8) (hs : s.length ≤ 9223372036854775807) (H : SH) (K : SV → SH → Prop) (hK : K (.int .u32 (hashN s)) H) : FnOb Try.prog 28 [.str s] H K := by
  apply en28
  repeat' first | refine And.intro trivial ?_ | refine And.intro rfl ?_ | (refine And.intro (fun h => ?_) (fun h => ?_) <;> try (first | (exact absurd h (by decide)) | (exfalso; simp only [decide_eq_true_eq, decide_eq_false_iff_not, Bool.not_eq_true', Bool.not_eq_false', cond_true, cond_false, Bool.false_eq_true, Bool.true_eq_false, Bool.not_true, Bool.not_false, reduceCtorEq, not_true_eq_false, not_false_eq_true, eq_self, ne_eq] at h; first | done | omega | contradiction))) | refine And.intro ?_ ?_ | exact rfl
  refine loop_live mixed (S := sch28) (by kernel_rfl) 21 (fun n live H' => ∃ k, n + k = s.length ∧ H' = H ∧ live = [(0, .str s), (3, .int .u64 (hashN (s.take k))), (4, .int .i64 k)]) ⟨s.length, _, H, rfl, ?_, Tells.refl H, 0, by omega, rfl, rfl⟩ ?_
  · exact ⟨rfl, rfl, rfl, trivial⟩
  intro n live H' J ⟨k, hn, e1, e2⟩
  subst e1; subst e2
  repeat' first | refine And.intro trivial ?_ | refine And.intro rfl ?_ | (refine And.intro (fun h => ?_) (fun h => ?_) <;> try (first | (exact absurd h (by decide)) | (exfalso; simp only [decide_eq_true_eq, decide_eq_false_iff_not, Bool.not_eq_true', Bool.not_eq_false', cond_true, cond_false, Bool.false_eq_true, Bool.true_eq_false, Bool.not_true, Bool.not_false, reduceCtorEq, not_true_eq_false, not_false_eq_true, eq_self, ne_eq] at h; first | done | omega | contradiction))) | refine And.intro ?_ ?_ | exact rfl
  · omega
  · have := of_decide_eq_true h; omega
  · decide
  · have hk : k < s.length := by have := of_decide_eq_true h; omega
    conv => whnf
    refine ⟨n - 1, [(0, .str s), (3, .int .u64 (hashN (s.take (k + 1)))), (4, .int .i64 (k + 1 : Nat))], H', by omega, rfl, ⟨rfl, ?_, ?_, trivial⟩, Tells.refl _, k + 1, by omega, rfl, rfl⟩
    · show SV.den (.int .u64 ((IntKind.u64.wrap (ibits .xor .u64 (hashN (s.take k)) (IntKind.u64.wrap (s.getD (k : Int).toNat 0).toNat) * 16777619)).tmod 4294967296)) = _
      have hc := (s.getD (k : Int).toNat 0).toNat_lt
      have hx := xor_lt (hashN_lt (s.take k)) hc
      rw [show IntKind.u64.wrap (((s.getD (k : Int).toNat 0).toNat : Nat) : Int) = ((s.getD (k : Int).toNat 0).toNat : Nat) from wu64 (by omega) (by omega), xor64 (hashN_lt _) (by omega), mul64 hx, take_getD s k hk, hashN_snoc]; rfl
    · show SV.den (.int .i64 (IntKind.i64.wrap ((k : Int) + 1))) = _
      rw [wr (by omega) (by omega)]; rfl
  · have hk : k = s.length := by have := of_decide_eq_false h; omega
    subst hk
    conv => whnf
    rw [List.take_length, wu32 (by omega) (by have := hashN_lt s; omega)]
    exact hK
end Go.Proofs.Ytbmdmeljflmcgaa

/- The pack's numbers: zig, zag and their like of the document. Own work. -/
import Derived.Test.YtbcnpklmhgcenaaDoorB
import Derived.Test.YtbcnpklmhgcenaaDoorPk
namespace Go.Proofs.YtbcnpklmhgcenaaDoor
open Go Go.Sy Go.Pk
set_option maxRecDepth 100000
set_option linter.unusedVariables false
set_option linter.unusedSimpArgs false

theorem zig_val {n : Int} (h0 : -9223372036854775808 ≤ n) (h1 : n ≤ 9223372036854775807) :
    ibits .xor .u64 (IntKind.u64.wrap (IntKind.u64.wrap n * 2 ^ min (Int.toNat 1) IntKind.u64.bits)) (IntKind.u64.wrap (n.fdiv (2 ^ min (Int.toNat 63) IntKind.i64.bits))) = (zig n : Int) := by
  have e1 : IntKind.u64.wrap (IntKind.u64.wrap n * 2 ^ min (Int.toNat 1) IntKind.u64.bits) = (((2 * n) % 18446744073709551616).toNat : Int) := by
    simp [IntKind.wrap, IntKind.bits, IntKind.signed]; omega
  have e2 : n.fdiv (2 ^ min (Int.toNat 63) IntKind.i64.bits) = if n < 0 then -1 else 0 := by
    rw [show (2 ^ min (Int.toNat 63) IntKind.i64.bits : Int) = 9223372036854775808 from rfl, Int.fdiv_eq_ediv_of_nonneg _ (by omega)]
    split <;> omega
  have hl : ((2 * n) % 18446744073709551616).toNat < 2 ^ 64 := by omega
  rw [e1, e2]
  by_cases hn : n < 0
  · have e3 : IntKind.u64.wrap (-1) = ((2 ^ 64 - 1 : Nat) : Int) := by decide
    rw [if_pos hn, e3, xor_nat (by decide) hl (by decide), xor_ones 64 hl]
    unfold zig
    rw [if_pos hn]
    omega
  · have e3 : IntKind.u64.wrap 0 = ((0 : Nat) : Int) := by decide
    rw [if_neg hn, e3, xor_nat (by decide) hl (by decide), Nat.xor_zero]
    unfold zig
    rw [if_neg hn]
    omega

theorem zig_ob (n : Int) (h0 : -9223372036854775808 ≤ n) (h1 : n ≤ 9223372036854775807) (K : SV → SH → Prop) (h : K (.int .u64 (zig n)) []) : FnOb Tryd.prog 70 [.int .i64 n] [] K := by
  apply en70
  repeat' first | exact trivial | refine And.intro trivial ?_ | refine And.intro rfl ?_ | refine And.intro (one_flat (fun _ => rfl) _) ?_ | refine Fit.yes (by omega) ?_ | refine Fit.no ?_ | (refine And.intro (fun hc => ?_) (fun hc => ?_) <;> ((try simp only [Sy.nf, ne_eq, reduceCtorEq, eq_self] at hc); first | (exfalso; first | omega | exact absurd hc (by assumption) | exact absurd (by assumption) hc) | (with_reducible change True at hc; clear hc) | skip)) | refine And.intro (by first | omega | (simp only [Sy.lc, Sy.ll]; omega) | (simp only [Sy.lc] at *; omega)) ?_ | refine And.intro ?_ ?_ | exact rfl | (refine congrArg SV.bool (decide_eq_true ?_); first | rfl | omega | assumption) | refine Pick.mk _ rfl ?_ | refine fun (bN : Nat) => ?_ | refine fun (zA : Bool) (bA : Bs) (cA : Nat) hA => ?_
  rw [← zig_val h0 h1] at h
  exact h

theorem zag_val {u : Nat} (hu : u < 18446744073709551616) :
    ibits .xor .i64 ((u / 2 : Nat) : Int) (-((u % 2 : Nat) : Int)) = zag u := by
  unfold ibits
  show IntKind.i64.wrap (((BitVec.ofInt 64 ((u / 2 : Nat) : Int) ^^^ BitVec.ofInt 64 (-((u % 2 : Nat) : Int)) : BitVec 64).toNat : Nat) : Int) = _
  unfold zag
  by_cases h : u % 2 = 1
  · have e : BitVec.ofInt 64 (-((u % 2 : Nat) : Int)) = BitVec.allOnes 64 := by rw [h]; decide
    rw [e, BitVec.xor_allOnes, BitVec.toNat_not, bv_nat, if_pos h]
    simp only [IntKind.wrap, IntKind.bits, IntKind.signed]
    simp
    omega
  · have h0 : u % 2 = 0 := by omega
    have e : BitVec.ofInt 64 (-((u % 2 : Nat) : Int)) = 0#64 := by rw [h0]; decide
    rw [e, BitVec.xor_zero, bv_nat, if_neg h]
    simp only [IntKind.wrap, IntKind.bits, IntKind.signed]
    simp
    omega

theorem zag_ob (u : Nat) (h0 : u < 18446744073709551616) (K : SV → SH → Prop) (h : K (.int .i64 (zag u)) []) : FnOb Tryd.prog 85 [.int .u64 u] [] K := by
  apply en85
  repeat' first | exact trivial | refine And.intro trivial ?_ | refine And.intro rfl ?_ | refine And.intro (one_flat (fun _ => rfl) _) ?_ | refine Fit.yes (by omega) ?_ | refine Fit.no ?_ | (refine And.intro (fun hc => ?_) (fun hc => ?_) <;> ((try simp only [Sy.nf, ne_eq, reduceCtorEq, eq_self] at hc); first | (exfalso; first | omega | exact absurd hc (by assumption) | exact absurd (by assumption) hc) | (with_reducible change True at hc; clear hc) | skip)) | refine And.intro (by first | omega | (simp only [Sy.lc, Sy.ll]; omega) | (simp only [Sy.lc] at *; omega)) ?_ | refine And.intro ?_ ?_ | exact rfl | (refine congrArg SV.bool (decide_eq_true ?_); first | rfl | omega | assumption) | refine Pick.mk _ rfl ?_ | refine fun (bN : Nat) => ?_ | refine fun (zA : Bool) (bA : Bs) (cA : Nat) hA => ?_
  conv => whnf
  refine kint h ?_
  have e1 : ibits .and .u64 (u : Int) 1 = ((u % 2 : Nat) : Int) := by
    rw [show (1 : Int) = ((1 : Nat) : Int) from rfl, and_nat (by decide) h0 (by decide), Nat.and_one_is_mod]
  have e2 := shr_lit .u64 u 1 1 rfl
  have e3 : (u : Int).fdiv (2 ^ min (Int.toNat 1) IntKind.u64.bits) = ((u / 2 : Nat) : Int) := e2
  rw [e1, e3, wrap_i64 (n := ((u / 2 : Nat) : Int)) (by omega), wrap_i64 (n := ((u % 2 : Nat) : Int)) (by omega), wrap_i64 (by omega), ← zag_val h0]
  congr 1; omega
theorem turned_ob (n : Int) (h0 : -9223372036854775808 ≤ n) (h1 : n ≤ 9223372036854775807) (K : SV → SH → Prop) (h : K (.int .u64 (zig n)) []) : FnOb Tryd.prog 84 [.int .i64 n] [] K := by
  by_cases hn : n < 0
  all_goals
    apply en84
    repeat' first | exact trivial | refine And.intro trivial ?_ | refine And.intro rfl ?_ | refine And.intro (one_flat (fun _ => rfl) _) ?_ | refine Fit.yes (by omega) ?_ | refine Fit.no ?_ | (refine And.intro (fun hc => ?_) (fun hc => ?_) <;> ((try simp only [Sy.nf, ne_eq, reduceCtorEq, eq_self] at hc); first | (exfalso; first | omega | exact absurd hc (by assumption) | exact absurd (by assumption) hc) | (with_reducible change True at hc; clear hc) | skip)) | refine And.intro (by first | omega | (simp only [Sy.lc, Sy.ll]; omega) | (simp only [Sy.lc] at *; omega)) ?_ | refine And.intro ?_ ?_ | exact rfl | (refine congrArg SV.bool (decide_eq_true ?_); first | rfl | omega | assumption) | refine Pick.mk _ rfl ?_ | refine fun (bN : Nat) => ?_ | refine fun (zA : Bool) (bA : Bs) (cA : Nat) hA => ?_
    refine kint h ?_
    unfold zig
    first | rw [if_pos hn] | rw [if_neg hn]
    omega
theorem back_ob (u : Nat) (h0 : u < 18446744073709551616) (K : SV → SH → Prop) (h : K (.int .i64 (zag u)) []) : FnOb Tryd.prog 80 [.int .u64 u] [] K := by
  by_cases hu : u % 2 = 1
  all_goals
    apply en80
    repeat' first | exact trivial | refine And.intro trivial ?_ | refine And.intro rfl ?_ | refine And.intro (one_flat (fun _ => rfl) _) ?_ | refine Fit.yes (by omega) ?_ | refine Fit.no ?_ | (refine And.intro (fun hc => ?_) (fun hc => ?_) <;> ((try simp only [Sy.nf, ne_eq, reduceCtorEq, eq_self] at hc); first | (exfalso; first | omega | exact absurd hc (by assumption) | exact absurd (by assumption) hc) | (with_reducible change True at hc; clear hc) | skip)) | refine And.intro (by first | omega | (simp only [Sy.lc, Sy.ll]; omega) | (simp only [Sy.lc] at *; omega)) ?_ | refine And.intro ?_ ?_ | exact rfl | (refine congrArg SV.bool (decide_eq_true ?_); first | rfl | omega | assumption) | refine Pick.mk _ rfl ?_ | refine fun (bN : Nat) => ?_ | refine fun (zA : Bool) (bA : Bs) (cA : Nat) hA => ?_
    refine kint h ?_
    unfold zag
    first | rw [if_pos hu] | rw [if_neg hu]
    omega

theorem or_mark (x : Nat) : ibits .or .u8 (IntKind.u8.wrap (x : Int)) 128 = ((x % 128 + 128 : Nat) : Int) := by
  rw [wrapU_mod (by decide), show (128 : Int) = ((128 : Nat) : Int) from rfl, or_nat (by decide) (Nat.mod_lt _ (by decide)) (by decide)]
  have key : ∀ y : Fin 256, y.val ||| 128 = y.val % 128 + 128 := by decide
  have := key ⟨x % 256, Nat.mod_lt _ (by decide)⟩
  simp only [ubits] at *
  rw [show 2 ^ 8 = 256 from rfl, this]
  congr 1; omega
theorem andNot_mark (x : Nat) : ibits .andNot .u8 (IntKind.u8.wrap (x : Int)) 128 = ((x % 128 : Nat) : Int) := by
  rw [wrapU_mod (by decide), show (128 : Int) = ((128 : Nat) : Int) from rfl, andNot_nat (by decide) (Nat.mod_lt _ (by decide)) (by decide)]
  have key : ∀ y : Fin 256, y.val &&& (2 ^ 8 - 1 - 128) = y.val % 128 := by decide
  have := key ⟨x % 256, Nat.mod_lt _ (by decide)⟩
  simp only [ubits] at *
  rw [show 2 ^ 8 = 256 from rfl] at this ⊢
  rw [this]
  congr 1; omega
theorem enc_byte {n : Int} {x : Nat} (hx : x < 256) (h : n = (x : Int)) : encByte (UInt8.ofNat x) = [.int .u8 n] := by
  rw [h]
  unfold encByte
  rw [UInt8.toNat_ofNat']
  simp [Nat.mod_eq_of_lt hx]

/-- An impl's number: how far to shift, then byte by byte. -/
theorem number_ob (n : Int) (h0 : -9223372036854775808 ≤ n) (h1 : n ≤ 9223372036854775807) (z : Bool) (b : Bs) (c : Nat) (L : List UInt8) (hL : L.length ≤ 1000000000000) (K : SV → SH → Prop)
    (h : ∀ z b c, K (.sl 0 z b 1 0 (L ++ num (zig n)).length c) [(b, .vec z c encByte 1 (L ++ num (zig n)))]) : FnOb Tryd.prog 56 [.sl 0 z b 1 0 L.length c, .int .i64 n] [(b, .vec z c encByte 1 L)] K := by
  apply FnOb.tidy
  apply en56
  repeat' first | exact trivial | refine And.intro trivial ?_ | refine And.intro rfl ?_ | refine And.intro (one_flat (fun _ => rfl) _) ?_ | refine Fit.yes (by omega) ?_ | refine Fit.no ?_ | (refine And.intro (fun hc => ?_) (fun hc => ?_) <;> ((try simp only [Sy.nf, ne_eq, reduceCtorEq, eq_self] at hc); first | (exfalso; first | omega | exact absurd hc (by assumption) | exact absurd (by assumption) hc) | (with_reducible change True at hc; clear hc) | skip)) | refine And.intro (by first | omega | (simp only [Sy.lc, Sy.ll]; omega) | (simp only [Sy.lc] at *; omega)) ?_ | refine And.intro ?_ ?_ | exact rfl | (refine congrArg SV.bool (decide_eq_true ?_); first | rfl | omega | assumption) | refine Pick.mk _ rfl ?_ | refine fun (bN : Nat) => ?_ | refine fun (zA : Bool) (bA : Bs) (cA : Nat) hA => ?_
  refine FnOb.pure (zig_ob n h0 h1 _ ?_)
  have hu := zig_lt h0 h1
  generalize zig n = u at *
  repeat' first | exact trivial | refine And.intro trivial ?_ | refine And.intro rfl ?_ | refine And.intro (one_flat (fun _ => rfl) _) ?_ | refine Fit.yes (by omega) ?_ | refine Fit.no ?_ | (refine And.intro (fun hc => ?_) (fun hc => ?_) <;> ((try simp only [Sy.nf, ne_eq, reduceCtorEq, eq_self] at hc); first | (exfalso; first | omega | exact absurd hc (by assumption) | exact absurd (by assumption) hc) | (with_reducible change True at hc; clear hc) | skip)) | refine And.intro (by first | omega | (simp only [Sy.lc, Sy.ll]; omega) | (simp only [Sy.lc] at *; omega)) ?_ | refine And.intro ?_ ?_ | exact rfl | (refine congrArg SV.bool (decide_eq_true ?_); first | rfl | omega | assumption) | refine Pick.mk _ rfl ?_ | refine fun (bN : Nat) => ?_ | refine fun (zA : Bool) (bA : Bs) (cA : Nat) hA => ?_
  refine loop_st mixed (S := sch56) (by kernel_rfl) 33 (σ := Nat) (fun k => [(0, .sl 0 z b 1 0 L.length c), (5, .int .u64 u), (6, .int .i64 (7 * k : Nat))]) (fun _ => [(b, .vec z c encByte 1 L)]) (fun k => k ≤ 9 ∧ (k = 0 ∨ u / 128 ^ k ≠ 0)) (fun k => 10 - k) 0 rfl ⟨by omega, .inl rfl⟩ ⟨rfl, rfl, rfl, trivial⟩ (Tells.refl _) ?_
  intro k J ⟨hk, hku⟩
  have e7 : (2 : Nat) ^ (7 * k) = 128 ^ k := by rw [Nat.pow_mul]
  have eS : (u : Int).fdiv (2 ^ min ((7 * k : Nat) : Int).toNat IntKind.u64.bits) = ((u / 128 ^ k : Nat) : Int) := by
    rw [shr_nat .u64 u (7 * k) (by simp [IntKind.bits]; omega), e7]
  repeat' first | exact trivial | refine And.intro trivial ?_ | refine And.intro rfl ?_ | refine And.intro (one_flat (fun _ => rfl) _) ?_ | refine Fit.yes (by omega) ?_ | refine Fit.no ?_ | (refine And.intro (fun hc => ?_) (fun hc => ?_) <;> ((try simp only [Sy.nf, ne_eq, reduceCtorEq, eq_self] at hc); first | (exfalso; first | omega | exact absurd hc (by assumption) | exact absurd (by assumption) hc) | (with_reducible change True at hc; clear hc) | skip)) | refine And.intro (by first | omega | (simp only [Sy.lc, Sy.ll]; omega) | (simp only [Sy.lc] at *; omega)) ?_ | refine And.intro ?_ ?_ | exact rfl | (refine congrArg SV.bool (decide_eq_true ?_); first | rfl | omega | assumption) | refine Pick.mk _ rfl ?_ | refine fun (bN : Nat) => ?_ | refine fun (zA : Bool) (bA : Bs) (cA : Nat) hA => ?_
  · rw [eS] at hc
    have hq : u / 128 ^ (k + 1) = u / 128 ^ k / 128 := by rw [Nat.pow_succ, Nat.div_div_eq_div_mul]
    have hk9 : k ≠ 9 := by
      rintro rfl
      have : u / 128 ^ 9 < 128 := by omega
      omega
    exact ⟨k + 1, (by first | omega | (dsimp only; omega) | (simp; omega)), ⟨(by first | omega | (dsimp only; omega) | (simp; omega)), .inr (by omega)⟩, rfl, ⟨rfl, rfl, rfl, trivial⟩, Tells.refl _⟩
  · rw [eS] at hc
    have hz : hi (u / 128 ^ (k + 1)) = [] := by rw [Nat.pow_succ, ← Nat.div_div_eq_div_mul, Nat.div_eq_of_lt (Int.ofNat_lt.1 hc), hi_zero]
    refine loop_st mixed (S := sch56) (by kernel_rfl) 33 (σ := Nat × List UInt8 × Bool × Bs × Nat) (fun (k, L, z, b, c) => [(0, .sl 0 z b 1 0 L.length c), (5, .int .u64 u), (6, .int .i64 (7 * k : Nat))])
      (fun (k, L, z, b, c) => [(b, .vec z c encByte 1 L)]) (fun (k, L', z, b, c) => k ≤ 9 ∧ (k = 0 ∨ u / 128 ^ k ≠ 0) ∧ L' = L ++ hi (u / 128 ^ (k + 1))) (fun (k, _) => k) (k, L, z, b, c) rfl ⟨hk, hku, by simp [hz]⟩ ⟨rfl, rfl, rfl, trivial⟩ (Tells.refl _) ?_
    clear hk hku hc e7 eS hz z b c k J
    intro ⟨k, L', z, b, c⟩ J ⟨hk, hku, hL'⟩
    have e7 : (2 : Nat) ^ (7 * k) = 128 ^ k := by rw [Nat.pow_mul]
    have eS : (u : Int).fdiv (2 ^ min ((7 * k : Nat) : Int).toNat IntKind.u64.bits) = ((u / 128 ^ k : Nat) : Int) := by
      rw [shr_nat .u64 u (7 * k) (by simp [IntKind.bits]; omega), e7]
    have hq : u / 128 ^ (k + 1) = u / 128 ^ k / 128 := by rw [Nat.pow_succ, Nat.div_div_eq_div_mul]
    have hl : (hi (u / 128 ^ (k + 1))).length ≤ 10 := hi_len 10 _ (Nat.lt_of_le_of_lt (Nat.div_le_self _ _) (by omega))
    have hlL : L'.length ≤ L.length + 10 := by rw [hL', List.length_append]; omega
    by_cases h0 : k = 0
    · subst h0
      repeat' first | exact trivial | refine And.intro trivial ?_ | refine And.intro rfl ?_ | refine And.intro (one_flat (fun _ => rfl) _) ?_ | refine Fit.yes (by omega) ?_ | refine Fit.no ?_ | (refine And.intro (fun hc => ?_) (fun hc => ?_) <;> ((try simp only [Sy.nf, ne_eq, reduceCtorEq, eq_self] at hc); first | (exfalso; first | omega | exact absurd hc (by assumption) | exact absurd (by assumption) hc) | (with_reducible change True at hc; clear hc) | skip)) | refine And.intro (by first | omega | (simp only [Sy.lc, Sy.ll]; omega) | (simp only [Sy.lc] at *; omega)) ?_ | refine And.intro ?_ ?_ | exact rfl | (refine congrArg SV.bool (decide_eq_true ?_); first | rfl | omega | assumption) | refine Pick.mk _ rfl ?_ | refine fun (bN : Nat) => ?_ | refine fun (zA : Bool) (bA : Bs) (cA : Nat) hA => ?_
      refine Pick.mk (UInt8.ofNat (u % 128)) (enc_byte (by omega) (andNot_mark u)) ?_
      repeat' first | exact trivial | refine And.intro trivial ?_ | refine And.intro rfl ?_ | refine And.intro (one_flat (fun _ => rfl) _) ?_ | refine Fit.yes (by omega) ?_ | refine Fit.no ?_ | (refine And.intro (fun hc => ?_) (fun hc => ?_) <;> ((try simp only [Sy.nf, ne_eq, reduceCtorEq, eq_self] at hc); first | (exfalso; first | omega | exact absurd hc (by assumption) | exact absurd (by assumption) hc) | (with_reducible change True at hc; clear hc) | skip)) | refine And.intro (by first | omega | (simp only [Sy.lc, Sy.ll]; omega) | (simp only [Sy.lc] at *; omega)) ?_ | refine And.intro ?_ ?_ | exact rfl | (refine congrArg SV.bool (decide_eq_true ?_); first | rfl | omega | assumption) | refine Pick.mk _ rfl ?_ | refine fun (bN : Nat) => ?_ | refine fun (zA : Bool) (bA : Bs) (cA : Nat) hA => ?_
      have := h zA bA cA
      have e : L ++ num u = L' ++ [UInt8.ofNat (u % 128)] := by rw [hL']; unfold num; simp
      rw [e] at this
      (refine ⟨_, _, ?_, ?_, this⟩; exact rfl; refine Tells.pick [some 0] (by decide) ?_; repeat' first | exact rfl | exact Retell.refl _ | exact Retell.lit rfl | exact Retell.rows | exact Ghost.vec | exact Ghost.win | refine And.intro ?_ ?_)
    · repeat' first | exact trivial | refine And.intro trivial ?_ | refine And.intro rfl ?_ | refine And.intro (one_flat (fun _ => rfl) _) ?_ | refine Fit.yes (by omega) ?_ | refine Fit.no ?_ | (refine And.intro (fun hc => ?_) (fun hc => ?_) <;> ((try simp only [Sy.nf, ne_eq, reduceCtorEq, eq_self] at hc); first | (exfalso; first | omega | exact absurd hc (by assumption) | exact absurd (by assumption) hc) | (with_reducible change True at hc; clear hc) | skip)) | refine And.intro (by first | omega | (simp only [Sy.lc, Sy.ll]; omega) | (simp only [Sy.lc] at *; omega)) ?_ | refine And.intro ?_ ?_ | exact rfl | (refine congrArg SV.bool (decide_eq_true ?_); first | rfl | omega | assumption) | refine Pick.mk _ rfl ?_ | refine fun (bN : Nat) => ?_ | refine fun (zA : Bool) (bA : Bs) (cA : Nat) hA => ?_
      refine Pick.mk (UInt8.ofNat (u / 128 ^ k % 128 + 128)) (enc_byte (by omega) (by rw [eS]; exact or_mark _)) ?_
      repeat' first | exact trivial | refine And.intro trivial ?_ | refine And.intro rfl ?_ | refine And.intro (one_flat (fun _ => rfl) _) ?_ | refine Fit.yes (by omega) ?_ | refine Fit.no ?_ | (refine And.intro (fun hc => ?_) (fun hc => ?_) <;> ((try simp only [Sy.nf, ne_eq, reduceCtorEq, eq_self] at hc); first | (exfalso; first | omega | exact absurd hc (by assumption) | exact absurd (by assumption) hc) | (with_reducible change True at hc; clear hc) | skip)) | refine And.intro (by first | omega | (simp only [Sy.lc, Sy.ll]; omega) | (simp only [Sy.lc] at *; omega)) ?_ | refine And.intro ?_ ?_ | exact rfl | (refine congrArg SV.bool (decide_eq_true ?_); first | rfl | omega | assumption) | refine Pick.mk _ rfl ?_ | refine fun (bN : Nat) => ?_ | refine fun (zA : Bool) (bA : Bs) (cA : Nat) hA => ?_
      have e : u / 128 ^ k = u / 128 ^ (k - 1) / 128 := by
        rw [Nat.div_div_eq_div_mul, ← Nat.pow_succ]; congr 2; omega
      refine ⟨(k - 1, L' ++ [UInt8.ofNat (u / 128 ^ k % 128 + 128)], zA, bA, cA), (by first | omega | (dsimp only; omega) | (simp; omega)), ⟨(by first | omega | (dsimp only; omega) | (simp; omega)), .inr (fun h => ?_), ?_⟩, rfl, ⟨rfl, rfl, den_intE (by first | omega | (dsimp only; omega) | (simp; omega)), trivial⟩, by (refine Tells.pick [some 0] (by decide) ?_; repeat' first | exact rfl | exact Retell.refl _ | exact Retell.lit rfl | exact Retell.rows | exact Ghost.vec | exact Ghost.win | refine And.intro ?_ ?_)⟩
      · rw [h] at e; omega
      · rw [show k - 1 + 1 = k by omega, hi_pos (by omega), ← hq, ← List.append_assoc, hL']
end Go.Proofs.YtbcnpklmhgcenaaDoor

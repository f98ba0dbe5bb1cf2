/- The chapter's example; the law of plays. Own work. -/
import Derived.Test.YtinjdjnkbkabfaaT4
namespace Go.Proofs.Ytinjdjnkbkabfaa
open Go Go.Sy
set_option maxRecDepth 100000
set_option linter.unusedVariables false
set_option linter.unusedSimpArgs false
set_option maxHeartbeats 4000000

theorem use2_ob {b : Bs} {t t' : Tp} (ht : t.ok) {n at_ e : Int} (hR : useS t n at_ = (e, t')) (K : SV → SH → Prop) (h : K (.int .i64 e) [(b, tB t')]) : FnOb Try.prog 12 [.ptr 0 b 0 0 0, .int .i64 n, .int .i64 at_] [(b, tB t)] K := use_ob b t ht n at_ K (by rw [hR]; exact h)
theorem back2_ob {b : Bs} {t t' : Tp} (ht : t.ok) {n e : Int} (hR : backS t n = (e, t')) (K : SV → SH → Prop) (h : K (.int .i64 e) [(b, tB t')]) : FnOb Try.prog 14 [.ptr 0 b 0 0 0, .int .i64 n] [(b, tB t)] K := back_ob b t ht n K (by rw [hR]; exact h)
theorem fail2_ob {b : Bs} {t t' : Tp} {code at_ e : Int} {x : Bool} (hR : failS t code at_ = (x, e, t')) (K : SV → SH → Prop) (h : K (.tup [.bool x, .int .i64 e]) [(b, tB t')]) : FnOb Try.prog 10 [.ptr 0 b 0 0 0, .int .i64 code, .int .i64 at_] [(b, tB t)] K := fail_ob b t code at_ K (by rw [hR]; exact h)
theorem refUse2_ob {b : Bs} {t t' : Tp} (ht : t.ok) {n at_ e : Int} (hR : useS t n at_ = (e, t')) (K : SV → SH → Prop) (h : K (.int .i64 e) [(b, rB t')]) : FnOb Try.prog 13 [.ptr 0 b 0 0 0, .int .i64 n, .int .i64 at_] [(b, rB t)] K := refUse_ob b t ht n at_ K (by rw [hR]; exact h)
theorem refBack2_ob {b : Bs} {t t' : Tp} (ht : t.ok) {n e : Int} (hR : backS t n = (e, t')) (K : SV → SH → Prop) (h : K (.int .i64 e) [(b, rB t')]) : FnOb Try.prog 15 [.ptr 0 b 0 0 0, .int .i64 n] [(b, rB t)] K := refBack_ob b t ht n K (by rw [hR]; exact h)
theorem refFail2_ob {b : Bs} {t t' : Tp} {code at_ e : Int} {x : Bool} (hR : failS t code at_ = (x, e, t')) (K : SV → SH → Prop) (h : K (.tup [.bool x, .int .i64 e]) [(b, rB t')]) : FnOb Try.prog 11 [.ptr 0 b 0 0 0, .int .i64 code, .int .i64 at_] [(b, rB t)] K := refFail_ob b t code at_ K (by rw [hR]; exact h)
def why (t : Tp) : Int × Int := if t.f then (t.a, t.c) else (0, 0)
theorem fallen2_ob {b : Bs} {t : Tp} {a c : Int} {f : Bool} (hR : why t = (a, c)) (hf : t.f = f) (K : SV → SH → Prop) (h : K (.tup [.agg [.int .i64 a, .int .i64 c], .bool f]) [(b, tB t)]) : FnOb Try.prog 16 [.ptr 0 b 0 0 0] [(b, tB t)] K := by
  refine fallen_ob b t K ?_
  unfold why at hR
  subst hf
  obtain ⟨f, a', c', u, l⟩ := t
  cases f
  · rw [if_neg (by simp)] at hR
    cases hR
    exact h
  · rw [if_pos rfl] at hR
    cases hR
    exact h

theorem kinds38 : kindsT Try.prog 12 38 = some [.i .i64, .i .i64] := by kernel_rfl
theorem works09_ob (K : SV → SH → Prop) (h : K (.bool true) []) : FnOb Try.prog 18 [] [] K := by
  apply FnOb.tidy
  apply en18
  repeat' first | exact trivial | refine And.intro trivial ?_ | refine And.intro rfl ?_ | refine And.intro (one_flat (fun _ => rfl) _) ?_ | refine Fit.yes (by omega) ?_ | refine Fit.no ?_ | (refine And.intro (fun hc => ?_) (fun hc => ?_) <;> (first | ((try simp only [decide_eq_true_eq, decide_eq_false_iff_not, Bool.not_eq_true', Bool.not_eq_false', Bool.not_eq_true, Bool.not_eq_false, Bool.or_eq_true, Bool.or_eq_false_iff, Bool.and_eq_true, Bool.and_eq_false_iff, Decidable.not_not, Int.not_lt, Int.not_le, Nat.not_lt, Nat.not_le, ne_eq, reduceCtorEq, not_true_eq_false, not_false_eq_true, eq_self, or_self, or_false, false_or, or_true, true_or, and_true, true_and, and_false, false_and, and_self] at hc); exfalso; first | omega | exact absurd hc (by assumption) | exact absurd (by assumption) hc) | (simp only [decide_eq_true_eq, decide_eq_false_iff_not, Bool.not_eq_true', Bool.not_eq_false', Bool.not_eq_true, Bool.not_eq_false, Bool.or_eq_true, Bool.or_eq_false_iff, Bool.and_eq_true, Bool.and_eq_false_iff, Decidable.not_not, Int.not_lt, Int.not_le, Nat.not_lt, Nat.not_le, ne_eq, reduceCtorEq, not_true_eq_false, not_false_eq_true, eq_self, or_self, or_false, false_or, or_true, true_or, and_true, true_and, and_false, false_and, and_self] at hc; try (with_reducible change True at hc; clear hc)) | skip)) | refine And.intro (by first | omega | (simp only [List.length_append, List.length_cons, List.length_nil, List.length_take, List.length_drop, List.length_replicate, List.length_map, List.length_set, Int.toNat_natCast]; omega) | (simp only [List.length_append, List.length_cons, List.length_nil, List.length_replicate] at *; omega)) ?_ | refine And.intro ?_ ?_ | exact rfl | (refine congrArg SV.bool (decide_eq_true ?_); first | rfl | omega | assumption) | refine Pick.mk _ rfl ?_ | refine fun (bN : Nat) => ?_ | refine fun (zA : Bool) (bA : Bs) (cA : Nat) hA => ?_
  refine FnOb.call [] (new_ob 3 _ (fun hh => absurd hh (by decide)) (fun _ n => ?_)) (by decide) rfl rfl
  repeat' first | exact trivial | refine And.intro trivial ?_ | refine And.intro rfl ?_ | refine And.intro (one_flat (fun _ => rfl) _) ?_ | refine Fit.yes (by omega) ?_ | refine Fit.no ?_ | (refine And.intro (fun hc => ?_) (fun hc => ?_) <;> (first | ((try simp only [decide_eq_true_eq, decide_eq_false_iff_not, Bool.not_eq_true', Bool.not_eq_false', Bool.not_eq_true, Bool.not_eq_false, Bool.or_eq_true, Bool.or_eq_false_iff, Bool.and_eq_true, Bool.and_eq_false_iff, Decidable.not_not, Int.not_lt, Int.not_le, Nat.not_lt, Nat.not_le, ne_eq, reduceCtorEq, not_true_eq_false, not_false_eq_true, eq_self, or_self, or_false, false_or, or_true, true_or, and_true, true_and, and_false, false_and, and_self] at hc); exfalso; first | omega | exact absurd hc (by assumption) | exact absurd (by assumption) hc) | (simp only [decide_eq_true_eq, decide_eq_false_iff_not, Bool.not_eq_true', Bool.not_eq_false', Bool.not_eq_true, Bool.not_eq_false, Bool.or_eq_true, Bool.or_eq_false_iff, Bool.and_eq_true, Bool.and_eq_false_iff, Decidable.not_not, Int.not_lt, Int.not_le, Nat.not_lt, Nat.not_le, ne_eq, reduceCtorEq, not_true_eq_false, not_false_eq_true, eq_self, or_self, or_false, false_or, or_true, true_or, and_true, true_and, and_false, false_and, and_self] at hc; try (with_reducible change True at hc; clear hc)) | skip)) | refine And.intro (by first | omega | (simp only [List.length_append, List.length_cons, List.length_nil, List.length_take, List.length_drop, List.length_replicate, List.length_map, List.length_set, Int.toNat_natCast]; omega) | (simp only [List.length_append, List.length_cons, List.length_nil, List.length_replicate] at *; omega)) ?_ | refine And.intro ?_ ?_ | exact rfl | (refine congrArg SV.bool (decide_eq_true ?_); first | rfl | omega | assumption) | refine Pick.mk _ rfl ?_ | refine fun (bN : Nat) => ?_ | refine fun (zA : Bool) (bA : Bs) (cA : Nat) hA => ?_
  refine FnOb.call [0] (use2_ob (t' := ⟨false, 0, 0, 2, 1⟩) (e := 0) (by unfold Tp.ok tp0; decide) rfl _ ?_) (by decide) rfl rfl
  repeat' first | exact trivial | refine And.intro trivial ?_ | refine And.intro rfl ?_ | refine And.intro (one_flat (fun _ => rfl) _) ?_ | refine Fit.yes (by omega) ?_ | refine Fit.no ?_ | (refine And.intro (fun hc => ?_) (fun hc => ?_) <;> (first | exact absurd hc (by decide) | ((try simp only [decide_eq_true_eq, decide_eq_false_iff_not, Bool.not_eq_true', Bool.not_eq_false', Bool.not_eq_true, Bool.not_eq_false, Bool.or_eq_true, Bool.or_eq_false_iff, Bool.and_eq_true, Bool.and_eq_false_iff, Decidable.not_not, Int.not_lt, Int.not_le, Nat.not_lt, Nat.not_le, ne_eq, reduceCtorEq, not_true_eq_false, not_false_eq_true, eq_self, or_self, or_false, false_or, or_true, true_or, and_true, true_and, and_false, false_and, and_self] at hc); exfalso; first | omega | exact absurd hc (by assumption) | exact absurd (by assumption) hc) | (simp only [decide_eq_true_eq, decide_eq_false_iff_not, Bool.not_eq_true', Bool.not_eq_false', Bool.not_eq_true, Bool.not_eq_false, Bool.or_eq_true, Bool.or_eq_false_iff, Bool.and_eq_true, Bool.and_eq_false_iff, Decidable.not_not, Int.not_lt, Int.not_le, Nat.not_lt, Nat.not_le, ne_eq, reduceCtorEq, not_true_eq_false, not_false_eq_true, eq_self, or_self, or_false, false_or, or_true, true_or, and_true, true_and, and_false, false_and, and_self] at hc; try (with_reducible change True at hc; clear hc)) | skip)) | refine And.intro (by first | omega | (simp only [List.length_append, List.length_cons, List.length_nil, List.length_take, List.length_drop, List.length_replicate, List.length_map, List.length_set, Int.toNat_natCast]; omega) | (simp only [List.length_append, List.length_cons, List.length_nil, List.length_replicate] at *; omega)) ?_ | refine And.intro ?_ ?_ | exact rfl | (refine congrArg SV.bool (decide_eq_true ?_); first | rfl | omega | assumption) | refine Pick.mk _ rfl ?_ | refine fun (bN : Nat) => ?_ | refine fun (zA : Bool) (bA : Bs) (cA : Nat) hA => ?_
  refine FnOb.call [0] (use2_ob (t' := ⟨true, 6, 32, 2, 1⟩) (e := 32) (by unfold Tp.ok; decide) rfl _ ?_) (by decide) rfl rfl
  repeat' first | exact trivial | refine And.intro trivial ?_ | refine And.intro rfl ?_ | refine And.intro (one_flat (fun _ => rfl) _) ?_ | refine Fit.yes (by omega) ?_ | refine Fit.no ?_ | (refine And.intro (fun hc => ?_) (fun hc => ?_) <;> (first | exact absurd hc (by decide) | ((try simp only [decide_eq_true_eq, decide_eq_false_iff_not, Bool.not_eq_true', Bool.not_eq_false', Bool.not_eq_true, Bool.not_eq_false, Bool.or_eq_true, Bool.or_eq_false_iff, Bool.and_eq_true, Bool.and_eq_false_iff, Decidable.not_not, Int.not_lt, Int.not_le, Nat.not_lt, Nat.not_le, ne_eq, reduceCtorEq, not_true_eq_false, not_false_eq_true, eq_self, or_self, or_false, false_or, or_true, true_or, and_true, true_and, and_false, false_and, and_self] at hc); exfalso; first | omega | exact absurd hc (by assumption) | exact absurd (by assumption) hc) | (simp only [decide_eq_true_eq, decide_eq_false_iff_not, Bool.not_eq_true', Bool.not_eq_false', Bool.not_eq_true, Bool.not_eq_false, Bool.or_eq_true, Bool.or_eq_false_iff, Bool.and_eq_true, Bool.and_eq_false_iff, Decidable.not_not, Int.not_lt, Int.not_le, Nat.not_lt, Nat.not_le, ne_eq, reduceCtorEq, not_true_eq_false, not_false_eq_true, eq_self, or_self, or_false, false_or, or_true, true_or, and_true, true_and, and_false, false_and, and_self] at hc; try (with_reducible change True at hc; clear hc)) | skip)) | refine And.intro (by first | omega | (simp only [List.length_append, List.length_cons, List.length_nil, List.length_take, List.length_drop, List.length_replicate, List.length_map, List.length_set, Int.toNat_natCast]; omega) | (simp only [List.length_append, List.length_cons, List.length_nil, List.length_replicate] at *; omega)) ?_ | refine And.intro ?_ ?_ | exact rfl | (refine congrArg SV.bool (decide_eq_true ?_); first | rfl | omega | assumption) | refine Pick.mk _ rfl ?_ | refine fun (bN : Nat) => ?_ | refine fun (zA : Bool) (bA : Bs) (cA : Nat) hA => ?_
  refine FnOb.call [0] (fail2_ob (t' := ⟨true, 6, 32, 2, 1⟩) (x := false) (e := 0) rfl _ ?_) (by decide) rfl rfl
  repeat' first | exact trivial | refine And.intro trivial ?_ | refine And.intro rfl ?_ | refine And.intro (one_flat (fun _ => rfl) _) ?_ | refine Fit.yes (by omega) ?_ | refine Fit.no ?_ | (refine And.intro (fun hc => ?_) (fun hc => ?_) <;> (first | exact absurd hc (by decide) | ((try simp only [decide_eq_true_eq, decide_eq_false_iff_not, Bool.not_eq_true', Bool.not_eq_false', Bool.not_eq_true, Bool.not_eq_false, Bool.or_eq_true, Bool.or_eq_false_iff, Bool.and_eq_true, Bool.and_eq_false_iff, Decidable.not_not, Int.not_lt, Int.not_le, Nat.not_lt, Nat.not_le, ne_eq, reduceCtorEq, not_true_eq_false, not_false_eq_true, eq_self, or_self, or_false, false_or, or_true, true_or, and_true, true_and, and_false, false_and, and_self] at hc); exfalso; first | omega | exact absurd hc (by assumption) | exact absurd (by assumption) hc) | (simp only [decide_eq_true_eq, decide_eq_false_iff_not, Bool.not_eq_true', Bool.not_eq_false', Bool.not_eq_true, Bool.not_eq_false, Bool.or_eq_true, Bool.or_eq_false_iff, Bool.and_eq_true, Bool.and_eq_false_iff, Decidable.not_not, Int.not_lt, Int.not_le, Nat.not_lt, Nat.not_le, ne_eq, reduceCtorEq, not_true_eq_false, not_false_eq_true, eq_self, or_self, or_false, false_or, or_true, true_or, and_true, true_and, and_false, false_and, and_self] at hc; try (with_reducible change True at hc; clear hc)) | skip)) | refine And.intro (by first | omega | (simp only [List.length_append, List.length_cons, List.length_nil, List.length_take, List.length_drop, List.length_replicate, List.length_map, List.length_set, Int.toNat_natCast]; omega) | (simp only [List.length_append, List.length_cons, List.length_nil, List.length_replicate] at *; omega)) ?_ | refine And.intro ?_ ?_ | exact rfl | (refine congrArg SV.bool (decide_eq_true ?_); first | rfl | omega | assumption) | refine Pick.mk _ rfl ?_ | refine fun (bN : Nat) => ?_ | refine fun (zA : Bool) (bA : Bs) (cA : Nat) hA => ?_
  refine FnOb.call [0] (fallen2_ob (a := 6) (c := 32) (f := true) rfl rfl _ ?_) (by decide) rfl rfl
  repeat' first | exact trivial | refine And.intro trivial ?_ | refine And.intro rfl ?_ | refine And.intro (one_flat (fun _ => rfl) _) ?_ | refine Fit.yes (by omega) ?_ | refine Fit.no ?_ | (refine And.intro (fun hc => ?_) (fun hc => ?_) <;> (first | exact absurd hc (by decide) | ((try simp only [decide_eq_true_eq, decide_eq_false_iff_not, Bool.not_eq_true', Bool.not_eq_false', Bool.not_eq_true, Bool.not_eq_false, Bool.or_eq_true, Bool.or_eq_false_iff, Bool.and_eq_true, Bool.and_eq_false_iff, Decidable.not_not, Int.not_lt, Int.not_le, Nat.not_lt, Nat.not_le, ne_eq, reduceCtorEq, not_true_eq_false, not_false_eq_true, eq_self, or_self, or_false, false_or, or_true, true_or, and_true, true_and, and_false, false_and, and_self] at hc); exfalso; first | omega | exact absurd hc (by assumption) | exact absurd (by assumption) hc) | (simp only [decide_eq_true_eq, decide_eq_false_iff_not, Bool.not_eq_true', Bool.not_eq_false', Bool.not_eq_true, Bool.not_eq_false, Bool.or_eq_true, Bool.or_eq_false_iff, Bool.and_eq_true, Bool.and_eq_false_iff, Decidable.not_not, Int.not_lt, Int.not_le, Nat.not_lt, Nat.not_le, ne_eq, reduceCtorEq, not_true_eq_false, not_false_eq_true, eq_self, or_self, or_false, false_or, or_true, true_or, and_true, true_and, and_false, false_and, and_self] at hc; try (with_reducible change True at hc; clear hc)) | skip)) | refine And.intro (by first | omega | (simp only [List.length_append, List.length_cons, List.length_nil, List.length_take, List.length_drop, List.length_replicate, List.length_map, List.length_set, Int.toNat_natCast]; omega) | (simp only [List.length_append, List.length_cons, List.length_nil, List.length_replicate] at *; omega)) ?_ | refine And.intro ?_ ?_ | exact rfl | (refine congrArg SV.bool (decide_eq_true ?_); first | rfl | omega | assumption) | refine Pick.mk _ rfl ?_ | refine fun (bN : Nat) => ?_ | refine fun (zA : Bool) (bA : Bs) (cA : Nat) hA => ?_
  conv => whnf
  rw [kinds38]
  repeat' first | exact trivial | refine And.intro trivial ?_ | refine And.intro rfl ?_ | refine And.intro (one_flat (fun _ => rfl) _) ?_ | refine Fit.yes (by omega) ?_ | refine Fit.no ?_ | (refine And.intro (fun hc => ?_) (fun hc => ?_) <;> (first | exact absurd hc (by decide) | ((try simp only [decide_eq_true_eq, decide_eq_false_iff_not, Bool.not_eq_true', Bool.not_eq_false', Bool.not_eq_true, Bool.not_eq_false, Bool.or_eq_true, Bool.or_eq_false_iff, Bool.and_eq_true, Bool.and_eq_false_iff, Decidable.not_not, Int.not_lt, Int.not_le, Nat.not_lt, Nat.not_le, ne_eq, reduceCtorEq, not_true_eq_false, not_false_eq_true, eq_self, or_self, or_false, false_or, or_true, true_or, and_true, true_and, and_false, false_and, and_self] at hc); exfalso; first | omega | exact absurd hc (by assumption) | exact absurd (by assumption) hc) | (simp only [decide_eq_true_eq, decide_eq_false_iff_not, Bool.not_eq_true', Bool.not_eq_false', Bool.not_eq_true, Bool.not_eq_false, Bool.or_eq_true, Bool.or_eq_false_iff, Bool.and_eq_true, Bool.and_eq_false_iff, Decidable.not_not, Int.not_lt, Int.not_le, Nat.not_lt, Nat.not_le, ne_eq, reduceCtorEq, not_true_eq_false, not_false_eq_true, eq_self, or_self, or_false, false_or, or_true, true_or, and_true, true_and, and_false, false_and, and_self] at hc; try (with_reducible change True at hc; clear hc)) | skip)) | refine And.intro (by first | omega | (simp only [List.length_append, List.length_cons, List.length_nil, List.length_take, List.length_drop, List.length_replicate, List.length_map, List.length_set, Int.toNat_natCast]; omega) | (simp only [List.length_append, List.length_cons, List.length_nil, List.length_replicate] at *; omega)) ?_ | refine And.intro ?_ ?_ | exact rfl | (refine congrArg SV.bool (decide_eq_true ?_); first | rfl | omega | assumption) | refine Pick.mk _ rfl ?_ | refine fun (bN : Nat) => ?_ | refine fun (zA : Bool) (bA : Bs) (cA : Nat) hA => ?_
  · kernel_rfl
  refine FnOb.call [0] (back2_ob (t' := ⟨true, 6, 32, 2, 1⟩) (e := 90) (by unfold Tp.ok; decide) rfl _ ?_) (by decide) rfl rfl
  repeat' first | exact trivial | refine And.intro trivial ?_ | refine And.intro rfl ?_ | refine And.intro (one_flat (fun _ => rfl) _) ?_ | refine Fit.yes (by omega) ?_ | refine Fit.no ?_ | (refine And.intro (fun hc => ?_) (fun hc => ?_) <;> (first | exact absurd hc (by decide) | ((try simp only [decide_eq_true_eq, decide_eq_false_iff_not, Bool.not_eq_true', Bool.not_eq_false', Bool.not_eq_true, Bool.not_eq_false, Bool.or_eq_true, Bool.or_eq_false_iff, Bool.and_eq_true, Bool.and_eq_false_iff, Decidable.not_not, Int.not_lt, Int.not_le, Nat.not_lt, Nat.not_le, ne_eq, reduceCtorEq, not_true_eq_false, not_false_eq_true, eq_self, or_self, or_false, false_or, or_true, true_or, and_true, true_and, and_false, false_and, and_self] at hc); exfalso; first | omega | exact absurd hc (by assumption) | exact absurd (by assumption) hc) | (simp only [decide_eq_true_eq, decide_eq_false_iff_not, Bool.not_eq_true', Bool.not_eq_false', Bool.not_eq_true, Bool.not_eq_false, Bool.or_eq_true, Bool.or_eq_false_iff, Bool.and_eq_true, Bool.and_eq_false_iff, Decidable.not_not, Int.not_lt, Int.not_le, Nat.not_lt, Nat.not_le, ne_eq, reduceCtorEq, not_true_eq_false, not_false_eq_true, eq_self, or_self, or_false, false_or, or_true, true_or, and_true, true_and, and_false, false_and, and_self] at hc; try (with_reducible change True at hc; clear hc)) | skip)) | refine And.intro (by first | omega | (simp only [List.length_append, List.length_cons, List.length_nil, List.length_take, List.length_drop, List.length_replicate, List.length_map, List.length_set, Int.toNat_natCast]; omega) | (simp only [List.length_append, List.length_cons, List.length_nil, List.length_replicate] at *; omega)) ?_ | refine And.intro ?_ ?_ | exact rfl | (refine congrArg SV.bool (decide_eq_true ?_); first | rfl | omega | assumption) | refine Pick.mk _ rfl ?_ | refine fun (bN : Nat) => ?_ | refine fun (zA : Bool) (bA : Bs) (cA : Nat) hA => ?_
  refine FnOb.call [0] (room_ob _ ⟨true, 6, 32, 2, 1⟩ _ ?_) (by decide) rfl rfl
  repeat' first | exact trivial | refine And.intro trivial ?_ | refine And.intro rfl ?_ | refine And.intro (one_flat (fun _ => rfl) _) ?_ | refine Fit.yes (by omega) ?_ | refine Fit.no ?_ | (refine And.intro (fun hc => ?_) (fun hc => ?_) <;> (first | exact absurd hc (by decide) | ((try simp only [decide_eq_true_eq, decide_eq_false_iff_not, Bool.not_eq_true', Bool.not_eq_false', Bool.not_eq_true, Bool.not_eq_false, Bool.or_eq_true, Bool.or_eq_false_iff, Bool.and_eq_true, Bool.and_eq_false_iff, Decidable.not_not, Int.not_lt, Int.not_le, Nat.not_lt, Nat.not_le, ne_eq, reduceCtorEq, not_true_eq_false, not_false_eq_true, eq_self, or_self, or_false, false_or, or_true, true_or, and_true, true_and, and_false, false_and, and_self] at hc); exfalso; first | omega | exact absurd hc (by assumption) | exact absurd (by assumption) hc) | (simp only [decide_eq_true_eq, decide_eq_false_iff_not, Bool.not_eq_true', Bool.not_eq_false', Bool.not_eq_true, Bool.not_eq_false, Bool.or_eq_true, Bool.or_eq_false_iff, Bool.and_eq_true, Bool.and_eq_false_iff, Decidable.not_not, Int.not_lt, Int.not_le, Nat.not_lt, Nat.not_le, ne_eq, reduceCtorEq, not_true_eq_false, not_false_eq_true, eq_self, or_self, or_false, false_or, or_true, true_or, and_true, true_and, and_false, false_and, and_self] at hc; try (with_reducible change True at hc; clear hc)) | skip)) | refine And.intro (by first | omega | (simp only [List.length_append, List.length_cons, List.length_nil, List.length_take, List.length_drop, List.length_replicate, List.length_map, List.length_set, Int.toNat_natCast]; omega) | (simp only [List.length_append, List.length_cons, List.length_nil, List.length_replicate] at *; omega)) ?_ | refine And.intro ?_ ?_ | exact rfl | (refine congrArg SV.bool (decide_eq_true ?_); first | rfl | omega | assumption) | refine Pick.mk _ rfl ?_ | refine fun (bN : Nat) => ?_ | refine fun (zA : Bool) (bA : Bs) (cA : Nat) hA => ?_
  (refine ⟨_, _, ?_, ?_, h⟩; exact rfl; refine Tells.pick [] (by decide) ?_; repeat' first | exact rfl | exact Retell.refl _ | exact Retell.lit rfl | exact Ghost.vec | refine And.intro ?_ ?_)

/-- An act. -/
structure Ac where
  k : Int
  c : Int
  n : Int
  a : Int
def encAct (x : Ac) : List SV := [.int .i64 x.k, .int .i64 x.c, .int .i64 x.n, .int .i64 x.a]
def okAc (x : Ac) : Prop := (-9223372036854775808 ≤ x.k ∧ x.k ≤ 9223372036854775807) ∧ (-9223372036854775808 ≤ x.n ∧ x.n ≤ 9223372036854775807)
theorem useS_ok {t : Tp} (h : t.ok) (n a : Int) : (useS t n a).2.ok := by
  obtain ⟨f, x, y, u, l⟩ := t
  obtain ⟨h1, h2, h3⟩ := h
  dsimp only at h1 h2 h3
  unfold useS Tp.ok
  split
  · exact ⟨h1, h2, h3⟩
  · split
    · exact ⟨h1, h2, h3⟩
    · split
      · exact ⟨h1, h2, h3⟩
      · dsimp only at *; omega
theorem backS_ok {t : Tp} (h : t.ok) (n : Int) : (backS t n).2.ok := by
  obtain ⟨f, x, y, u, l⟩ := t
  obtain ⟨h1, h2, h3⟩ := h
  dsimp only at h1 h2 h3
  unfold backS Tp.ok
  split
  · exact ⟨h1, h2, h3⟩
  · split
    · exact ⟨h1, h2, h3⟩
    · dsimp only at *; omega
theorem failS_ok {t : Tp} (h : t.ok) (c a : Int) : (failS t c a).2.2.ok := by
  obtain ⟨f, x, y, u, l⟩ := t
  obtain ⟨h1, h2, h3⟩ := h
  dsimp only at h1 h2 h3
  unfold failS Tp.ok
  split
  · exact ⟨h1, h2, h3⟩
  · split <;> exact ⟨h1, h2, h3⟩
/-- One that has not fallen has no reason. -/
def Tp.cln (t : Tp) : Prop := t.f = false → t.a = 0 ∧ t.c = 0
theorem useS_cln {t : Tp} (h : t.cln) (n a : Int) : (useS t n a).2.cln := by
  unfold useS
  split
  · exact h
  · split
    · exact h
    · split
      · intro h; cases h
      · exact h
theorem backS_cln {t : Tp} (h : t.cln) (n : Int) : (backS t n).2.cln := by
  unfold backS
  split
  · exact h
  · split
    · exact h
    · exact h
theorem failS_cln {t : Tp} (h : t.cln) (c a : Int) : (failS t c a).2.2.cln := by
  unfold failS
  split
  · exact h
  · split
    · exact h
    · intro h; cases h
theorem cln_why {t : Tp} (h : t.cln) : why t = (t.a, t.c) := by
  unfold why
  split
  · rfl
  · rename_i hf
    obtain ⟨h1, h2⟩ := h (by simpa using hf)
    rw [h1, h2]
end Go.Proofs.Ytinjdjnkbkabfaa

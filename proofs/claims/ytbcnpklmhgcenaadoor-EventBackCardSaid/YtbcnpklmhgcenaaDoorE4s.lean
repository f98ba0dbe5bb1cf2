/- The same integers? Own work. -/
import Derived.Test.YtbcnpklmhgcenaaDoorE3
namespace Go.Proofs.YtbcnpklmhgcenaaDoor
open Go Go.Sy Go.Sp Go.Ev Go.Lib
set_option maxRecDepth 100000
set_option linter.unusedVariables false
set_option linter.unusedSimpArgs false
set_option maxHeartbeats 4000000
theorem sameI_ob (r q : Row Int) (hr : r.l.length ≤ 17592186044416) (hq : q.l.length ≤ 17592186044416) (K : SV → SH → Prop) (hK : K (.bool (decide (r.l = q.l))) [Row.win (encInt .i64) 1 r, Row.win (encInt .i64) 1 q]) :
    FnOb Tryd.prog 38 [.sl 0 r.z r.b 1 0 r.l.length r.c, .sl 1 q.z q.b 1 0 q.l.length q.c] [Row.win (encInt .i64) 1 r, Row.win (encInt .i64) 1 q] K := by
  apply FnOb.tidy
  apply en38
  by_cases h0 : r.l.length = q.l.length
  case neg =>
    rw [decide_eq_false (fun e => h0 (by rw [e]))] at hK
    repeat' first | exact trivial | refine And.intro trivial ?_ | refine And.intro rfl ?_ | refine And.intro (one_flat (fun _ => rfl) _) ?_ | refine Fit.yes (by omega) ?_ | refine Fit.no ?_ | (refine And.intro (fun hc => ?_) (fun hc => ?_) <;> ((try simp only [Sy.nf, ne_eq, reduceCtorEq, eq_self] at hc); first | (exfalso; first | omega | exact absurd hc (by assumption) | exact absurd (by assumption) hc) | (with_reducible change True at hc; clear hc) | skip)) | refine And.intro (by first | omega | (simp only [Sy.lc, Sy.ll]; omega) | (simp only [Sy.lc] at *; omega)) ?_ | refine And.intro ?_ ?_ | exact rfl | (refine congrArg SV.bool (decide_eq_true ?_); first | rfl | omega | assumption) | refine Pick.mk _ rfl ?_ | refine fun (bN : Nat) => ?_ | refine fun (zA : Bool) (bA : Bs) (cA : Nat) hA => ?_
    exact ⟨_, _, rfl, Tells.refl _, hK⟩
  repeat' first | exact trivial | refine And.intro trivial ?_ | refine And.intro rfl ?_ | refine And.intro (one_flat (fun _ => rfl) _) ?_ | refine Fit.yes (by omega) ?_ | refine Fit.no ?_ | (refine And.intro (fun hc => ?_) (fun hc => ?_) <;> ((try simp only [Sy.nf, ne_eq, reduceCtorEq, eq_self] at hc); first | (exfalso; first | omega | exact absurd hc (by assumption) | exact absurd (by assumption) hc) | (with_reducible change True at hc; clear hc) | skip)) | refine And.intro (by first | omega | (simp only [Sy.lc, Sy.ll]; omega) | (simp only [Sy.lc] at *; omega)) ?_ | refine And.intro ?_ ?_ | exact rfl | (refine congrArg SV.bool (decide_eq_true ?_); first | rfl | omega | assumption) | refine Pick.mk _ rfl ?_ | refine fun (bN : Nat) => ?_ | refine fun (zA : Bool) (bA : Bs) (cA : Nat) hA => ?_
  refine loop_st mixed (S := sch38) (by kernel_rfl) 26 (σ := Nat) (fun k => [(0, .sl 0 r.z r.b 1 0 r.l.length r.c), (1, .sl 1 q.z q.b 1 0 q.l.length q.c), (5, .int .i64 k)])
    (fun _ => [Row.win (encInt .i64) 1 r, Row.win (encInt .i64) 1 q]) (fun k => k ≤ r.l.length ∧ (r.l = q.l ↔ r.l.drop k = q.l.drop k)) (fun k => r.l.length - k) 0 rfl ⟨by omega, Iff.rfl⟩ ⟨rfl, rfl, rfl, trivial⟩ (Tells.refl _) ?_
  intro k J ⟨hk, he⟩
  by_cases hk2 : k < r.l.length
  · obtain ⟨x, hx⟩ : ∃ x, r.l[k]? = some x := ⟨_, List.getElem?_eq_getElem hk2⟩
    obtain ⟨y, hy⟩ : ∃ y, q.l[k]? = some y := ⟨_, List.getElem?_eq_getElem (by omega)⟩
    rw [l_drop hx, l_drop hy, List.cons.injEq] at he
    repeat' first | exact trivial | refine And.intro trivial ?_ | refine And.intro rfl ?_ | refine And.intro (one_flat (fun _ => rfl) _) ?_ | refine Fit.yes (by omega) ?_ | refine Fit.no ?_ | (refine And.intro (fun hc => ?_) (fun hc => ?_) <;> ((try simp only [Sy.nf, ne_eq, reduceCtorEq, eq_self] at hc); first | (exfalso; first | omega | exact absurd hc (by assumption) | exact absurd (by assumption) hc) | (with_reducible change True at hc; clear hc) | skip)) | refine And.intro (by first | omega | (simp only [Sy.lc, Sy.ll]; omega) | (simp only [Sy.lc] at *; omega)) ?_ | refine And.intro ?_ ?_ | exact rfl | (refine congrArg SV.bool (decide_eq_true ?_); first | rfl | omega | assumption) | refine Pick.mk _ rfl ?_ | refine fun (bN : Nat) => ?_ | refine fun (zA : Bool) (bA : Bs) (cA : Nat) hA => ?_
    intro x' hx'
    obtain rfl : x = x' := by rw [show 0 + (k : Int).toNat = k by omega, hx] at hx'; exact Option.some.inj hx'
    conv => whnf
    repeat' first | exact trivial | refine And.intro trivial ?_ | refine And.intro rfl ?_ | refine And.intro (one_flat (fun _ => rfl) _) ?_ | refine Fit.yes (by omega) ?_ | refine Fit.no ?_ | (refine And.intro (fun hc => ?_) (fun hc => ?_) <;> ((try simp only [Sy.nf, ne_eq, reduceCtorEq, eq_self] at hc); first | (exfalso; first | omega | exact absurd hc (by assumption) | exact absurd (by assumption) hc) | (with_reducible change True at hc; clear hc) | skip)) | refine And.intro (by first | omega | (simp only [Sy.lc, Sy.ll]; omega) | (simp only [Sy.lc] at *; omega)) ?_ | refine And.intro ?_ ?_ | exact rfl | (refine congrArg SV.bool (decide_eq_true ?_); first | rfl | omega | assumption) | refine Pick.mk _ rfl ?_ | refine fun (bN : Nat) => ?_ | refine fun (zA : Bool) (bA : Bs) (cA : Nat) hA => ?_
    intro y' hy'
    obtain rfl : y = y' := by rw [show 0 + (k : Int).toNat = k by omega, hy] at hy'; exact Option.some.inj hy'
    conv => whnf
    by_cases h1 : x = y
    · repeat' first | exact trivial | refine And.intro trivial ?_ | refine And.intro rfl ?_ | refine And.intro (one_flat (fun _ => rfl) _) ?_ | refine Fit.yes (by omega) ?_ | refine Fit.no ?_ | (refine And.intro (fun hc => ?_) (fun hc => ?_) <;> ((try simp only [Sy.nf, ne_eq, reduceCtorEq, eq_self] at hc); first | (exfalso; first | omega | exact absurd hc (by assumption) | exact absurd (by assumption) hc) | (with_reducible change True at hc; clear hc) | skip)) | refine And.intro (by first | omega | (simp only [Sy.lc, Sy.ll]; omega) | (simp only [Sy.lc] at *; omega)) ?_ | refine And.intro ?_ ?_ | exact rfl | (refine congrArg SV.bool (decide_eq_true ?_); first | rfl | omega | assumption) | refine Pick.mk _ rfl ?_ | refine fun (bN : Nat) => ?_ | refine fun (zA : Bool) (bA : Bs) (cA : Nat) hA => ?_
      exact ⟨k + 1, (by first | omega | (dsimp only; omega) | (simp; omega)), ⟨(show k + 1 ≤ r.l.length from hk2), he.trans ⟨fun h => h.2, fun h => ⟨h1, h⟩⟩⟩, rfl, ⟨rfl, rfl, rfl, trivial⟩, Tells.refl _⟩
    · rw [decide_eq_false (fun e => h1 (he.1 e).1)] at hK
      repeat' first | exact trivial | refine And.intro trivial ?_ | refine And.intro rfl ?_ | refine And.intro (one_flat (fun _ => rfl) _) ?_ | refine Fit.yes (by omega) ?_ | refine Fit.no ?_ | (refine And.intro (fun hc => ?_) (fun hc => ?_) <;> ((try simp only [Sy.nf, ne_eq, reduceCtorEq, eq_self] at hc); first | (exfalso; first | omega | exact absurd hc (by assumption) | exact absurd (by assumption) hc) | (with_reducible change True at hc; clear hc) | skip)) | refine And.intro (by first | omega | (simp only [Sy.lc, Sy.ll]; omega) | (simp only [Sy.lc] at *; omega)) ?_ | refine And.intro ?_ ?_ | exact rfl | (refine congrArg SV.bool (decide_eq_true ?_); first | rfl | omega | assumption) | refine Pick.mk _ rfl ?_ | refine fun (bN : Nat) => ?_ | refine fun (zA : Bool) (bA : Bs) (cA : Nat) hA => ?_
      exact ⟨_, _, rfl, Tells.refl _, hK⟩
  · obtain rfl : k = r.l.length := by omega
    rw [decide_eq_true (he.2 (by rw [List.drop_length, h0, List.drop_length]))] at hK
    repeat' first | exact trivial | refine And.intro trivial ?_ | refine And.intro rfl ?_ | refine And.intro (one_flat (fun _ => rfl) _) ?_ | refine Fit.yes (by omega) ?_ | refine Fit.no ?_ | (refine And.intro (fun hc => ?_) (fun hc => ?_) <;> ((try simp only [Sy.nf, ne_eq, reduceCtorEq, eq_self] at hc); first | (exfalso; first | omega | exact absurd hc (by assumption) | exact absurd (by assumption) hc) | (with_reducible change True at hc; clear hc) | skip)) | refine And.intro (by first | omega | (simp only [Sy.lc, Sy.ll]; omega) | (simp only [Sy.lc] at *; omega)) ?_ | refine And.intro ?_ ?_ | exact rfl | (refine congrArg SV.bool (decide_eq_true ?_); first | rfl | omega | assumption) | refine Pick.mk _ rfl ?_ | refine fun (bN : Nat) => ?_ | refine fun (zA : Bool) (bA : Bs) (cA : Nat) hA => ?_
    exact ⟨_, _, rfl, Tells.refl _, hK⟩
theorem next8 {a b : WM} {b0 b1 : Bs} {r q : Row Int} {x y : Bs × Blk} (k : Nat) : Tells [memA 4 a, memB b0 a, memA 5 b, memB b1 b, Row.win (encInt .i64) 1 r, Row.win (encInt .i64) 1 q, x, y] [memA 4 a, memB b0 a, memA 5 b, memB b1 b, curW (encInt .i64) 1 a.s.l k, curW (encInt .i64) 1 b.s.l k, x, y] :=
  (Tells.cur (H := [memA 4 a, memB b0 a, memA 5 b, memB b1 b, Row.win (encInt .i64) 1 r, Row.win (encInt .i64) 1 q, x, y]) 1 4 k rfl ⟨_, _, _, _, _, rfl⟩).trans
    (Tells.cur (H := [memA 4 a, memB b0 a, memA 5 b, memB b1 b, curW (encInt .i64) 1 a.s.l k, Row.win (encInt .i64) 1 q, x, y]) 3 5 k rfl ⟨_, _, _, _, _, rfl⟩)
end Go.Proofs.YtbcnpklmhgcenaaDoor

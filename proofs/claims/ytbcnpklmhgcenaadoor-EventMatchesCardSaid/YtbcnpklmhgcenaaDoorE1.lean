/- Numbers, slices of numbers, and texts, compared. Own work. -/
import Derived.Test.YtbcnpklmhgcenaaDoorMp
namespace Go.Proofs.YtbcnpklmhgcenaaDoor
open Go Go.Sy Go.Sp Go.Ev Go.Lib
set_option maxRecDepth 100000
set_option linter.unusedVariables false
set_option linter.unusedSimpArgs false
set_option maxHeartbeats 4000000
theorem isNaN_ob (a : Int) (K : SV → SH → Prop) (h : K (.bool false) []) : FnOb Tryd.prog 50 [.int .i64 a] [] K := by
  apply FnOb.tidy
  apply en50
  repeat' first | exact trivial | refine And.intro trivial ?_ | refine And.intro rfl ?_ | refine And.intro (one_flat (fun _ => rfl) _) ?_ | refine Fit.yes (by omega) ?_ | refine Fit.no ?_ | (refine And.intro (fun hc => ?_) (fun hc => ?_) <;> ((try simp only [Sy.nf, ne_eq, reduceCtorEq, eq_self] at hc); first | (exfalso; first | omega | exact absurd hc (by assumption) | exact absurd (by assumption) hc) | (with_reducible change True at hc; clear hc) | skip)) | refine And.intro (by first | omega | (simp only [Sy.lc, Sy.ll]; omega) | (simp only [Sy.lc] at *; omega)) ?_ | refine And.intro ?_ ?_ | exact rfl | (refine congrArg SV.bool (decide_eq_true ?_); first | rfl | omega | assumption) | refine Pick.mk _ rfl ?_ | refine fun (bN : Nat) => ?_ | refine fun (zA : Bool) (bA : Bs) (cA : Nat) hA => ?_
  refine ⟨_, [], ?_, Tells.pick [] (by decide) rfl, h⟩
  exact congrArg (fun b => (SV.bool b).den) (show false = !decide (a = a) by simp)
theorem cmpI_ob (a b : Int) (K : SV → SH → Prop) (h : K (.int .i64 (cmpI a b)) []) : FnOb Tryd.prog 31 [.int .i64 a, .int .i64 b] [] K := by
  apply FnOb.tidy
  apply en31
  unfold cmpI at h
  repeat' first | exact trivial | refine And.intro trivial ?_ | refine And.intro rfl ?_ | refine And.intro (one_flat (fun _ => rfl) _) ?_ | refine Fit.yes (by omega) ?_ | refine Fit.no ?_ | (refine And.intro (fun hc => ?_) (fun hc => ?_) <;> ((try simp only [Sy.nf, ne_eq, reduceCtorEq, eq_self] at hc); first | (exfalso; first | omega | exact absurd hc (by assumption) | exact absurd (by assumption) hc) | (with_reducible change True at hc; clear hc) | skip)) | refine And.intro (by first | omega | (simp only [Sy.lc, Sy.ll]; omega) | (simp only [Sy.lc] at *; omega)) ?_ | refine And.intro ?_ ?_ | exact rfl | (refine congrArg SV.bool (decide_eq_true ?_); first | rfl | omega | assumption) | refine Pick.mk _ rfl ?_ | refine fun (bN : Nat) => ?_ | refine fun (zA : Bool) (bA : Bs) (cA : Nat) hA => ?_
  refine FnOb.pure (isNaN_ob a _ ?_)
  repeat' first | exact trivial | refine And.intro trivial ?_ | refine And.intro rfl ?_ | refine And.intro (one_flat (fun _ => rfl) _) ?_ | refine Fit.yes (by omega) ?_ | refine Fit.no ?_ | (refine And.intro (fun hc => ?_) (fun hc => ?_) <;> ((try simp only [Sy.nf, ne_eq, reduceCtorEq, eq_self] at hc); first | (exfalso; first | omega | exact absurd hc (by assumption) | exact absurd (by assumption) hc) | (with_reducible change True at hc; clear hc) | skip)) | refine And.intro (by first | omega | (simp only [Sy.lc, Sy.ll]; omega) | (simp only [Sy.lc] at *; omega)) ?_ | refine And.intro ?_ ?_ | exact rfl | (refine congrArg SV.bool (decide_eq_true ?_); first | rfl | omega | assumption) | refine Pick.mk _ rfl ?_ | refine fun (bN : Nat) => ?_ | refine fun (zA : Bool) (bA : Bs) (cA : Nat) hA => ?_
  refine FnOb.pure (isNaN_ob b _ ?_)
  by_cases h1 : a < b
  · rw [if_pos h1] at h
    repeat' first | exact trivial | refine And.intro trivial ?_ | refine And.intro rfl ?_ | refine And.intro (one_flat (fun _ => rfl) _) ?_ | refine Fit.yes (by omega) ?_ | refine Fit.no ?_ | (refine And.intro (fun hc => ?_) (fun hc => ?_) <;> ((try simp only [Sy.nf, ne_eq, reduceCtorEq, eq_self] at hc); first | (exfalso; first | omega | exact absurd hc (by assumption) | exact absurd (by assumption) hc) | (with_reducible change True at hc; clear hc) | skip)) | refine And.intro (by first | omega | (simp only [Sy.lc, Sy.ll]; omega) | (simp only [Sy.lc] at *; omega)) ?_ | refine And.intro ?_ ?_ | exact rfl | (refine congrArg SV.bool (decide_eq_true ?_); first | rfl | omega | assumption) | refine Pick.mk _ rfl ?_ | refine fun (bN : Nat) => ?_ | refine fun (zA : Bool) (bA : Bs) (cA : Nat) hA => ?_
    exact ⟨_, _, rfl, Tells.refl _, h⟩
  · rw [if_neg h1] at h
    by_cases h2 : a > b
    · rw [if_pos h2] at h
      repeat' first | exact trivial | refine And.intro trivial ?_ | refine And.intro rfl ?_ | refine And.intro (one_flat (fun _ => rfl) _) ?_ | refine Fit.yes (by omega) ?_ | refine Fit.no ?_ | (refine And.intro (fun hc => ?_) (fun hc => ?_) <;> ((try simp only [Sy.nf, ne_eq, reduceCtorEq, eq_self] at hc); first | (exfalso; first | omega | exact absurd hc (by assumption) | exact absurd (by assumption) hc) | (with_reducible change True at hc; clear hc) | skip)) | refine And.intro (by first | omega | (simp only [Sy.lc, Sy.ll]; omega) | (simp only [Sy.lc] at *; omega)) ?_ | refine And.intro ?_ ?_ | exact rfl | (refine congrArg SV.bool (decide_eq_true ?_); first | rfl | omega | assumption) | refine Pick.mk _ rfl ?_ | refine fun (bN : Nat) => ?_ | refine fun (zA : Bool) (bA : Bs) (cA : Nat) hA => ?_
      exact ⟨_, _, rfl, Tells.refl _, h⟩
    · rw [if_neg h2] at h
      repeat' first | exact trivial | refine And.intro trivial ?_ | refine And.intro rfl ?_ | refine And.intro (one_flat (fun _ => rfl) _) ?_ | refine Fit.yes (by omega) ?_ | refine Fit.no ?_ | (refine And.intro (fun hc => ?_) (fun hc => ?_) <;> ((try simp only [Sy.nf, ne_eq, reduceCtorEq, eq_self] at hc); first | (exfalso; first | omega | exact absurd hc (by assumption) | exact absurd (by assumption) hc) | (with_reducible change True at hc; clear hc) | skip)) | refine And.intro (by first | omega | (simp only [Sy.lc, Sy.ll]; omega) | (simp only [Sy.lc] at *; omega)) ?_ | refine And.intro ?_ ?_ | exact rfl | (refine congrArg SV.bool (decide_eq_true ?_); first | rfl | omega | assumption) | refine Pick.mk _ rfl ?_ | refine fun (bN : Nat) => ?_ | refine fun (zA : Bool) (bA : Bs) (cA : Nat) hA => ?_
      exact ⟨_, _, rfl, Tells.refl _, h⟩
theorem sign_ob (a b : Int) (K : SV → SH → Prop) (h : K (.int .i64 (cmpI a b)) []) : FnOb Tryd.prog 53 [.int .i64 a, .int .i64 b] [] K := by
  apply FnOb.tidy
  apply en53
  unfold cmpI at h
  by_cases h1 : a < b
  · rw [if_pos h1] at h
    repeat' first | exact trivial | refine And.intro trivial ?_ | refine And.intro rfl ?_ | refine And.intro (one_flat (fun _ => rfl) _) ?_ | refine Fit.yes (by omega) ?_ | refine Fit.no ?_ | (refine And.intro (fun hc => ?_) (fun hc => ?_) <;> ((try simp only [Sy.nf, ne_eq, reduceCtorEq, eq_self] at hc); first | (exfalso; first | omega | exact absurd hc (by assumption) | exact absurd (by assumption) hc) | (with_reducible change True at hc; clear hc) | skip)) | refine And.intro (by first | omega | (simp only [Sy.lc, Sy.ll]; omega) | (simp only [Sy.lc] at *; omega)) ?_ | refine And.intro ?_ ?_ | exact rfl | (refine congrArg SV.bool (decide_eq_true ?_); first | rfl | omega | assumption) | refine Pick.mk _ rfl ?_ | refine fun (bN : Nat) => ?_ | refine fun (zA : Bool) (bA : Bs) (cA : Nat) hA => ?_
    exact ⟨_, _, rfl, Tells.refl _, h⟩
  · rw [if_neg h1] at h
    by_cases h2 : a > b
    · rw [if_pos h2] at h
      repeat' first | exact trivial | refine And.intro trivial ?_ | refine And.intro rfl ?_ | refine And.intro (one_flat (fun _ => rfl) _) ?_ | refine Fit.yes (by omega) ?_ | refine Fit.no ?_ | (refine And.intro (fun hc => ?_) (fun hc => ?_) <;> ((try simp only [Sy.nf, ne_eq, reduceCtorEq, eq_self] at hc); first | (exfalso; first | omega | exact absurd hc (by assumption) | exact absurd (by assumption) hc) | (with_reducible change True at hc; clear hc) | skip)) | refine And.intro (by first | omega | (simp only [Sy.lc, Sy.ll]; omega) | (simp only [Sy.lc] at *; omega)) ?_ | refine And.intro ?_ ?_ | exact rfl | (refine congrArg SV.bool (decide_eq_true ?_); first | rfl | omega | assumption) | refine Pick.mk _ rfl ?_ | refine fun (bN : Nat) => ?_ | refine fun (zA : Bool) (bA : Bs) (cA : Nat) hA => ?_
      exact ⟨_, _, rfl, Tells.refl _, h⟩
    · rw [if_neg h2] at h
      repeat' first | exact trivial | refine And.intro trivial ?_ | refine And.intro rfl ?_ | refine And.intro (one_flat (fun _ => rfl) _) ?_ | refine Fit.yes (by omega) ?_ | refine Fit.no ?_ | (refine And.intro (fun hc => ?_) (fun hc => ?_) <;> ((try simp only [Sy.nf, ne_eq, reduceCtorEq, eq_self] at hc); first | (exfalso; first | omega | exact absurd hc (by assumption) | exact absurd (by assumption) hc) | (with_reducible change True at hc; clear hc) | skip)) | refine And.intro (by first | omega | (simp only [Sy.lc, Sy.ll]; omega) | (simp only [Sy.lc] at *; omega)) ?_ | refine And.intro ?_ ?_ | exact rfl | (refine congrArg SV.bool (decide_eq_true ?_); first | rfl | omega | assumption) | refine Pick.mk _ rfl ?_ | refine fun (bN : Nat) => ?_ | refine fun (zA : Bool) (bA : Bs) (cA : Nat) hA => ?_
      exact ⟨_, _, rfl, Tells.refl _, h⟩
theorem cmpstring_ob (a b : List UInt8) (K : SV → SH → Prop) (h : K (.int .i64 (compareBytes a b)) []) : FnOb Tryd.prog 62 [.str a, .str b] [] K :=
  FnOb.ext fun w hw => ⟨.int .i64 (compareBytes a b), [], w, by
    rw [show (denL [.str a, .str b]).toArray = #[.string ⟨a.toArray⟩, .string ⟨b.toArray⟩] from rfl, run_callFunc_extern Tryd.func62 (by kernel_rfl) (by kernel_rfl) (by kernel_rfl) (show Extern.find Tryd.f62 = some Extern.BytealgCompare.compare by kernel_rfl), run_compareString]
    rfl, hw, Ext.refl _ _, h⟩
theorem compareS_ob (a b : List UInt8) (K : SV → SH → Prop) (h : K (.int .i64 (compareBytes a b)) []) : FnOb Tryd.prog 35 [.str a, .str b] [] K := by
  apply en35
  repeat' first | exact trivial | refine And.intro trivial ?_ | refine And.intro rfl ?_ | refine And.intro (one_flat (fun _ => rfl) _) ?_ | refine Fit.yes (by omega) ?_ | refine Fit.no ?_ | (refine And.intro (fun hc => ?_) (fun hc => ?_) <;> ((try simp only [Sy.nf, ne_eq, reduceCtorEq, eq_self] at hc); first | (exfalso; first | omega | exact absurd hc (by assumption) | exact absurd (by assumption) hc) | (with_reducible change True at hc; clear hc) | skip)) | refine And.intro (by first | omega | (simp only [Sy.lc, Sy.ll]; omega) | (simp only [Sy.lc] at *; omega)) ?_ | refine And.intro ?_ ?_ | exact rfl | (refine congrArg SV.bool (decide_eq_true ?_); first | rfl | omega | assumption) | refine Pick.mk _ rfl ?_ | refine fun (bN : Nat) => ?_ | refine fun (zA : Bool) (bA : Bs) (cA : Nat) hA => ?_
  apply en51
  repeat' first | exact trivial | refine And.intro trivial ?_ | refine And.intro rfl ?_ | refine And.intro (one_flat (fun _ => rfl) _) ?_ | refine Fit.yes (by omega) ?_ | refine Fit.no ?_ | (refine And.intro (fun hc => ?_) (fun hc => ?_) <;> ((try simp only [Sy.nf, ne_eq, reduceCtorEq, eq_self] at hc); first | (exfalso; first | omega | exact absurd hc (by assumption) | exact absurd (by assumption) hc) | (with_reducible change True at hc; clear hc) | skip)) | refine And.intro (by first | omega | (simp only [Sy.lc, Sy.ll]; omega) | (simp only [Sy.lc] at *; omega)) ?_ | refine And.intro ?_ ?_ | exact rfl | (refine congrArg SV.bool (decide_eq_true ?_); first | rfl | omega | assumption) | refine Pick.mk _ rfl ?_ | refine fun (bN : Nat) => ?_ | refine fun (zA : Bool) (bA : Bs) (cA : Nat) hA => ?_
  refine cmpstring_ob a b _ ?_
  repeat' first | exact trivial | refine And.intro trivial ?_ | refine And.intro rfl ?_ | refine And.intro (one_flat (fun _ => rfl) _) ?_ | refine Fit.yes (by omega) ?_ | refine Fit.no ?_ | (refine And.intro (fun hc => ?_) (fun hc => ?_) <;> ((try simp only [Sy.nf, ne_eq, reduceCtorEq, eq_self] at hc); first | (exfalso; first | omega | exact absurd hc (by assumption) | exact absurd (by assumption) hc) | (with_reducible change True at hc; clear hc) | skip)) | refine And.intro (by first | omega | (simp only [Sy.lc, Sy.ll]; omega) | (simp only [Sy.lc] at *; omega)) ?_ | refine And.intro ?_ ?_ | exact rfl | (refine congrArg SV.bool (decide_eq_true ?_); first | rfl | omega | assumption) | refine Pick.mk _ rfl ?_ | refine fun (bN : Nat) => ?_ | refine fun (zA : Bool) (bA : Bs) (cA : Nat) hA => ?_
  exact h
theorem cmpS_ob (a b : Row Int) (ha : a.l.length ≤ 17592186044416) (hb : b.l.length ≤ 17592186044416) (K : SV → SH → Prop) (h : K (.int .i64 (cmpS a.l b.l)) [Row.win (encInt .i64) 1 a, Row.win (encInt .i64) 1 b]) :
    FnOb Tryd.prog 34 [.sl 0 a.z a.b 1 0 a.l.length a.c, .sl 1 b.z b.b 1 0 b.l.length b.c] [Row.win (encInt .i64) 1 a, Row.win (encInt .i64) 1 b] K := by
  apply FnOb.tidy
  apply en34
  repeat' first | exact trivial | refine And.intro trivial ?_ | refine And.intro rfl ?_ | refine And.intro (one_flat (fun _ => rfl) _) ?_ | refine Fit.yes (by omega) ?_ | refine Fit.no ?_ | (refine And.intro (fun hc => ?_) (fun hc => ?_) <;> ((try simp only [Sy.nf, ne_eq, reduceCtorEq, eq_self] at hc); first | (exfalso; first | omega | exact absurd hc (by assumption) | exact absurd (by assumption) hc) | (with_reducible change True at hc; clear hc) | skip)) | refine And.intro (by first | omega | (simp only [Sy.lc, Sy.ll]; omega) | (simp only [Sy.lc] at *; omega)) ?_ | refine And.intro ?_ ?_ | exact rfl | (refine congrArg SV.bool (decide_eq_true ?_); first | rfl | omega | assumption) | refine Pick.mk _ rfl ?_ | refine fun (bN : Nat) => ?_ | refine fun (zA : Bool) (bA : Bs) (cA : Nat) hA => ?_
  refine loop_st mixed (S := sch34) (by kernel_rfl) 36 (σ := Nat) (fun k => [(0, .sl 0 a.z a.b 1 0 a.l.length a.c), (1, .sl 1 b.z b.b 1 0 b.l.length b.c), (9, .sl 0 a.z a.b 1 0 a.l.length a.c), (10, .int .i64 a.l.length), (11, .int .i64 k)])
    (fun _ => [Row.win (encInt .i64) 1 a, Row.win (encInt .i64) 1 b]) (fun k => k ≤ a.l.length ∧ cmpS (a.l.drop k) (b.l.drop k) = cmpS a.l b.l) (fun k => a.l.length - k) 0 rfl ⟨by omega, rfl⟩ ⟨rfl, rfl, rfl, rfl, rfl, trivial⟩ (Tells.refl _) ?_
  intro k J ⟨hk, hq⟩
  by_cases hk2 : k < a.l.length
  · obtain ⟨x, hx⟩ : ∃ x, a.l[k]? = some x := ⟨_, List.getElem?_eq_getElem hk2⟩
    by_cases hb2 : k < b.l.length
    · obtain ⟨y, hy⟩ : ∃ y, b.l[k]? = some y := ⟨_, List.getElem?_eq_getElem hb2⟩
      rw [cmpS_drop hx hy] at hq
      repeat' first | exact trivial | refine And.intro trivial ?_ | refine And.intro rfl ?_ | refine And.intro (one_flat (fun _ => rfl) _) ?_ | refine Fit.yes (by omega) ?_ | refine Fit.no ?_ | (refine And.intro (fun hc => ?_) (fun hc => ?_) <;> ((try simp only [Sy.nf, ne_eq, reduceCtorEq, eq_self] at hc); first | (exfalso; first | omega | exact absurd hc (by assumption) | exact absurd (by assumption) hc) | (with_reducible change True at hc; clear hc) | skip)) | refine And.intro (by first | omega | (simp only [Sy.lc, Sy.ll]; omega) | (simp only [Sy.lc] at *; omega)) ?_ | refine And.intro ?_ ?_ | exact rfl | (refine congrArg SV.bool (decide_eq_true ?_); first | rfl | omega | assumption) | refine Pick.mk _ rfl ?_ | refine fun (bN : Nat) => ?_ | refine fun (zA : Bool) (bA : Bs) (cA : Nat) hA => ?_
      intro x' hx'
      obtain rfl : x = x' := by rw [show 0 + (k : Int).toNat = k by omega, hx] at hx'; exact Option.some.inj hx'
      conv => whnf
      repeat' first | exact trivial | refine And.intro trivial ?_ | refine And.intro rfl ?_ | refine And.intro (one_flat (fun _ => rfl) _) ?_ | refine Fit.yes (by omega) ?_ | refine Fit.no ?_ | (refine And.intro (fun hc => ?_) (fun hc => ?_) <;> ((try simp only [Sy.nf, ne_eq, reduceCtorEq, eq_self] at hc); first | (exfalso; first | omega | exact absurd hc (by assumption) | exact absurd (by assumption) hc) | (with_reducible change True at hc; clear hc) | skip)) | refine And.intro (by first | omega | (simp only [Sy.lc, Sy.ll]; omega) | (simp only [Sy.lc] at *; omega)) ?_ | refine And.intro ?_ ?_ | exact rfl | (refine congrArg SV.bool (decide_eq_true ?_); first | rfl | omega | assumption) | refine Pick.mk _ rfl ?_ | refine fun (bN : Nat) => ?_ | refine fun (zA : Bool) (bA : Bs) (cA : Nat) hA => ?_
      intro y' hy'
      obtain rfl : y = y' := by rw [show 0 + (k : Int).toNat = k by omega, hy] at hy'; exact Option.some.inj hy'
      conv => whnf
      repeat' first | exact trivial | refine And.intro trivial ?_ | refine And.intro rfl ?_ | refine And.intro (one_flat (fun _ => rfl) _) ?_ | refine Fit.yes (by omega) ?_ | refine Fit.no ?_ | (refine And.intro (fun hc => ?_) (fun hc => ?_) <;> ((try simp only [Sy.nf, ne_eq, reduceCtorEq, eq_self] at hc); first | (exfalso; first | omega | exact absurd hc (by assumption) | exact absurd (by assumption) hc) | (with_reducible change True at hc; clear hc) | skip)) | refine And.intro (by first | omega | (simp only [Sy.lc, Sy.ll]; omega) | (simp only [Sy.lc] at *; omega)) ?_ | refine And.intro ?_ ?_ | exact rfl | (refine congrArg SV.bool (decide_eq_true ?_); first | rfl | omega | assumption) | refine Pick.mk _ rfl ?_ | refine fun (bN : Nat) => ?_ | refine fun (zA : Bool) (bA : Bs) (cA : Nat) hA => ?_
      refine FnOb.pure (cmpI_ob x y _ ?_)
      by_cases h0 : cmpI x y = 0
      · rw [if_neg (by rw [h0]; simp)] at hq
        rw [h0]
        repeat' first | exact trivial | refine And.intro trivial ?_ | refine And.intro rfl ?_ | refine And.intro (one_flat (fun _ => rfl) _) ?_ | refine Fit.yes (by omega) ?_ | refine Fit.no ?_ | (refine And.intro (fun hc => ?_) (fun hc => ?_) <;> ((try simp only [Sy.nf, ne_eq, reduceCtorEq, eq_self] at hc); first | (exfalso; first | omega | exact absurd hc (by assumption) | exact absurd (by assumption) hc) | (with_reducible change True at hc; clear hc) | skip)) | refine And.intro (by first | omega | (simp only [Sy.lc, Sy.ll]; omega) | (simp only [Sy.lc] at *; omega)) ?_ | refine And.intro ?_ ?_ | exact rfl | (refine congrArg SV.bool (decide_eq_true ?_); first | rfl | omega | assumption) | refine Pick.mk _ rfl ?_ | refine fun (bN : Nat) => ?_ | refine fun (zA : Bool) (bA : Bs) (cA : Nat) hA => ?_
        exact ⟨k + 1, (by first | omega | (dsimp only; omega) | (simp; omega)), ⟨(show k + 1 ≤ a.l.length from hk2), hq⟩, rfl, ⟨rfl, rfl, rfl, rfl, rfl, trivial⟩, Tells.refl _⟩
      · rw [if_pos h0] at hq
        rw [← hq] at h
        repeat' first | exact trivial | refine And.intro trivial ?_ | refine And.intro rfl ?_ | refine And.intro (one_flat (fun _ => rfl) _) ?_ | refine Fit.yes (by omega) ?_ | refine Fit.no ?_ | (refine And.intro (fun hc => ?_) (fun hc => ?_) <;> ((try simp only [Sy.nf, ne_eq, reduceCtorEq, eq_self] at hc); first | (exfalso; first | omega | exact absurd hc (by assumption) | exact absurd (by assumption) hc) | (with_reducible change True at hc; clear hc) | skip)) | refine And.intro (by first | omega | (simp only [Sy.lc, Sy.ll]; omega) | (simp only [Sy.lc] at *; omega)) ?_ | refine And.intro ?_ ?_ | exact rfl | (refine congrArg SV.bool (decide_eq_true ?_); first | rfl | omega | assumption) | refine Pick.mk _ rfl ?_ | refine fun (bN : Nat) => ?_ | refine fun (zA : Bool) (bA : Bs) (cA : Nat) hA => ?_
        exact ⟨_, _, rfl, Tells.refl _, h⟩
    · rw [cmpS_right hx (by omega)] at hq
      rw [← hq] at h
      repeat' first | exact trivial | refine And.intro trivial ?_ | refine And.intro rfl ?_ | refine And.intro (one_flat (fun _ => rfl) _) ?_ | refine Fit.yes (by omega) ?_ | refine Fit.no ?_ | (refine And.intro (fun hc => ?_) (fun hc => ?_) <;> ((try simp only [Sy.nf, ne_eq, reduceCtorEq, eq_self] at hc); first | (exfalso; first | omega | exact absurd hc (by assumption) | exact absurd (by assumption) hc) | (with_reducible change True at hc; clear hc) | skip)) | refine And.intro (by first | omega | (simp only [Sy.lc, Sy.ll]; omega) | (simp only [Sy.lc] at *; omega)) ?_ | refine And.intro ?_ ?_ | exact rfl | (refine congrArg SV.bool (decide_eq_true ?_); first | rfl | omega | assumption) | refine Pick.mk _ rfl ?_ | refine fun (bN : Nat) => ?_ | refine fun (zA : Bool) (bA : Bs) (cA : Nat) hA => ?_
      intro x' hx'
      obtain rfl : x = x' := by rw [show 0 + (k : Int).toNat = k by omega, hx] at hx'; exact Option.some.inj hx'
      conv => whnf
      repeat' first | exact trivial | refine And.intro trivial ?_ | refine And.intro rfl ?_ | refine And.intro (one_flat (fun _ => rfl) _) ?_ | refine Fit.yes (by omega) ?_ | refine Fit.no ?_ | (refine And.intro (fun hc => ?_) (fun hc => ?_) <;> ((try simp only [Sy.nf, ne_eq, reduceCtorEq, eq_self] at hc); first | (exfalso; first | omega | exact absurd hc (by assumption) | exact absurd (by assumption) hc) | (with_reducible change True at hc; clear hc) | skip)) | refine And.intro (by first | omega | (simp only [Sy.lc, Sy.ll]; omega) | (simp only [Sy.lc] at *; omega)) ?_ | refine And.intro ?_ ?_ | exact rfl | (refine congrArg SV.bool (decide_eq_true ?_); first | rfl | omega | assumption) | refine Pick.mk _ rfl ?_ | refine fun (bN : Nat) => ?_ | refine fun (zA : Bool) (bA : Bs) (cA : Nat) hA => ?_
      exact ⟨_, _, rfl, Tells.refl _, h⟩
  · obtain rfl : k = a.l.length := by omega
    rw [cmpS_end] at hq
    rw [← hq] at h
    by_cases hl : a.l.length < b.l.length
    · rw [if_pos hl] at h
      repeat' first | exact trivial | refine And.intro trivial ?_ | refine And.intro rfl ?_ | refine And.intro (one_flat (fun _ => rfl) _) ?_ | refine Fit.yes (by omega) ?_ | refine Fit.no ?_ | (refine And.intro (fun hc => ?_) (fun hc => ?_) <;> ((try simp only [Sy.nf, ne_eq, reduceCtorEq, eq_self] at hc); first | (exfalso; first | omega | exact absurd hc (by assumption) | exact absurd (by assumption) hc) | (with_reducible change True at hc; clear hc) | skip)) | refine And.intro (by first | omega | (simp only [Sy.lc, Sy.ll]; omega) | (simp only [Sy.lc] at *; omega)) ?_ | refine And.intro ?_ ?_ | exact rfl | (refine congrArg SV.bool (decide_eq_true ?_); first | rfl | omega | assumption) | refine Pick.mk _ rfl ?_ | refine fun (bN : Nat) => ?_ | refine fun (zA : Bool) (bA : Bs) (cA : Nat) hA => ?_
      exact ⟨_, _, rfl, Tells.refl _, h⟩
    · rw [if_neg hl] at h
      repeat' first | exact trivial | refine And.intro trivial ?_ | refine And.intro rfl ?_ | refine And.intro (one_flat (fun _ => rfl) _) ?_ | refine Fit.yes (by omega) ?_ | refine Fit.no ?_ | (refine And.intro (fun hc => ?_) (fun hc => ?_) <;> ((try simp only [Sy.nf, ne_eq, reduceCtorEq, eq_self] at hc); first | (exfalso; first | omega | exact absurd hc (by assumption) | exact absurd (by assumption) hc) | (with_reducible change True at hc; clear hc) | skip)) | refine And.intro (by first | omega | (simp only [Sy.lc, Sy.ll]; omega) | (simp only [Sy.lc] at *; omega)) ?_ | refine And.intro ?_ ?_ | exact rfl | (refine congrArg SV.bool (decide_eq_true ?_); first | rfl | omega | assumption) | refine Pick.mk _ rfl ?_ | refine fun (bN : Nat) => ?_ | refine fun (zA : Bool) (bA : Bs) (cA : Nat) hA => ?_
      exact ⟨_, _, rfl, Tells.refl _, h⟩
end Go.Proofs.YtbcnpklmhgcenaaDoor

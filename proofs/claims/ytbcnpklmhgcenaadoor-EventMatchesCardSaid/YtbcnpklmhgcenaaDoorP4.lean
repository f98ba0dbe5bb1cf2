/- The pack's numbers, read. Own work. -/
import Derived.Test.YtbcnpklmhgcenaaDoorP3
namespace Go.Proofs.YtbcnpklmhgcenaaDoor
open Go Go.Sy Go.Pk
set_option maxRecDepth 100000
set_option linter.unusedVariables false
set_option linter.unusedSimpArgs false
set_option maxHeartbeats 1000000

theorem andNot_u8 (c : UInt8) : ibits .andNot .u8 (c.toNat : Int) 128 = ((c.toNat % 128 : Nat) : Int) := by
  have := andNot_mark c.toNat
  rwa [wrapU (by decide) (by have := c.toNat_lt; simpa [ubits] using this)] at this
theorem or_join (u m : Nat) (hu : u < 144115188075855872) (hm : m < 128) : ibits .or .u64 (IntKind.u64.wrap ((u : Int) * 2 ^ min (Int.toNat 7) IntKind.u64.bits)) (m : Int) = ((u * 128 + m : Nat) : Int) := by
  have e1 : IntKind.u64.wrap ((u : Int) * 2 ^ min (Int.toNat 7) IntKind.u64.bits) = ((2 ^ 7 * u : Nat) : Int) := by
    rw [show ((u : Int) * 2 ^ min (Int.toNat 7) IntKind.u64.bits) = ((2 ^ 7 * u : Nat) : Int) by
      rw [show min (Int.toNat 7) IntKind.u64.bits = 7 from rfl]; push_cast; omega]
    exact wrapU (by decide) (by simp [ubits]; omega)
  rw [e1, or_nat (by decide) (by simp [ubits]; omega) (by simp [ubits]; omega), ← Nat.two_pow_add_eq_or_of_lt (by omega)]
  congr 1; omega

theorem drop_cons {α : Type} {l : List α} {k : Nat} (h : k < l.length) (d : α) : l.drop k = l.getD k d :: l.drop (k + 1) := by
  rw [List.drop_eq_getElem_cons h, List.getD_eq_getElem?_getD, List.getElem?_eq_getElem h]; rfl

theorem readNumber_ob (b : Bs) (s : List UInt8) (at0 : Nat) (ha : at0 ≤ s.length) (hs : s.length ≤ 9223372036854775807) (K : SV → SH → Prop)
    (h1 : ∀ (e : Int) (at1 : Nat), rdN true 0 (s.drop at0) = .err e → K (.tup [.int .i64 0, .int .i64 e]) [(b, .lit [.str s, .int .i64 at1])])
    (h2 : ∀ (u : Nat) (r : List UInt8), rdN true 0 (s.drop at0) = .ok u r → K (.tup [.int .i64 (zag u), .int .i64 0]) [(b, .lit [.str s, .int .i64 (s.length - r.length : Nat)])]) :
    FnOb Tryd.prog 79 [.ptr 0 b 0 0 0] [(b, .lit [.str s, .int .i64 at0])] K := by
  apply FnOb.tidy
  apply en79
  repeat' first | exact trivial | refine And.intro trivial ?_ | refine And.intro rfl ?_ | refine And.intro (one_flat (fun _ => rfl) _) ?_ | refine Fit.yes (by omega) ?_ | refine Fit.no ?_ | (refine And.intro (fun hc => ?_) (fun hc => ?_) <;> ((try simp only [Sy.nf, ne_eq, reduceCtorEq, eq_self] at hc); first | (exfalso; first | omega | exact absurd hc (by assumption) | exact absurd (by assumption) hc) | (with_reducible change True at hc; clear hc) | skip)) | refine And.intro (by first | omega | (simp only [Sy.lc, Sy.ll]; omega) | (simp only [Sy.lc] at *; omega)) ?_ | refine And.intro ?_ ?_ | exact rfl | (refine congrArg SV.bool (decide_eq_true ?_); first | rfl | omega | assumption) | refine Pick.mk _ rfl ?_ | refine fun (bN : Nat) => ?_ | refine fun (zA : Bool) (bA : Bs) (cA : Nat) hA => ?_
  refine loop_st mixed (S := sch79) (by kernel_rfl) 53 (σ := Nat × Nat × Bool) (fun (a, u, f) => [(0, .ptr 0 b 0 0 0), (4, .int .u64 u), (5, .bool f)]) (fun (a, _) => [(b, .lit [.str s, .int .i64 a])])
    (fun (a, u, f) => a ≤ s.length ∧ u < 18446744073709551616 ∧ rdN f u (s.drop a) = rdN true 0 (s.drop at0)) (fun (a, _) => s.length - a) (at0, 0, true) rfl ⟨ha, by omega, rfl⟩ ⟨rfl, rfl, rfl, trivial⟩ (by (refine Tells.pick [some 0] (by decide) ?_; repeat' first | exact rfl | exact Retell.refl _ | exact Retell.lit rfl | exact Retell.rows | exact Ghost.vec | exact Ghost.win | refine And.intro ?_ ?_)) ?_
  intro ⟨a, u, f⟩ J ⟨ha', hu, hr⟩
  by_cases hal : a = s.length
  · subst hal
    rw [List.drop_length, rdN] at hr
    repeat' first | exact trivial | refine And.intro trivial ?_ | refine And.intro rfl ?_ | refine And.intro (one_flat (fun _ => rfl) _) ?_ | refine Fit.yes (by omega) ?_ | refine Fit.no ?_ | (refine And.intro (fun hc => ?_) (fun hc => ?_) <;> ((try simp only [Sy.nf, ne_eq, reduceCtorEq, eq_self] at hc); first | (exfalso; first | omega | exact absurd hc (by assumption) | exact absurd (by assumption) hc) | (with_reducible change True at hc; clear hc) | skip)) | refine And.intro (by first | omega | (simp only [Sy.lc, Sy.ll]; omega) | (simp only [Sy.lc] at *; omega)) ?_ | refine And.intro ?_ ?_ | exact rfl | (refine congrArg SV.bool (decide_eq_true ?_); first | rfl | omega | assumption) | refine Pick.mk _ rfl ?_ | refine fun (bN : Nat) => ?_ | refine fun (zA : Bool) (bA : Bs) (cA : Nat) hA => ?_
    (refine ⟨_, _, ?_, ?_, (h1 11 s.length hr.symm)⟩; exact rfl; refine Tells.pick [some 0] (by decide) ?_; repeat' first | exact rfl | exact Retell.refl _ | exact Retell.lit rfl | exact Retell.rows | exact Ghost.vec | exact Ghost.win | refine And.intro ?_ ?_)
  · have hlt : a < s.length := by omega
    rw [drop_cons hlt 0] at hr
    have hc57 : (u : Int).fdiv (2 ^ min (Int.toNat 57) IntKind.u64.bits) = ((u / 144115188075855872 : Nat) : Int) := shr_lit .u64 u 57 57 rfl
    obtain ⟨C, hC⟩ : ∃ C, s.getD a 0 = C := ⟨_, rfl⟩
    rw [hC] at hr
    have hgc : (s.getD (a : Int).toNat 0).toNat = C.toNat := by rw [Int.toNat_natCast, hC]
    have hCl := C.toNat_lt
    have hAN : ibits .andNot .u8 ((s.getD (a : Int).toNat 0).toNat : Int) 128 = ((C.toNat % 128 : Nat) : Int) := by rw [hgc]; exact andNot_u8 C
    rw [rdN_cons] at hr
    by_cases h57 : 144115188075855872 ≤ u
    · rw [if_pos (.inr h57)] at hr
      cases f <;> by_cases h128 : C.toNat = 128
      all_goals
        repeat' first | exact trivial | refine And.intro trivial ?_ | refine And.intro rfl ?_ | refine And.intro (one_flat (fun _ => rfl) _) ?_ | refine Fit.yes (by omega) ?_ | refine Fit.no ?_ | (refine And.intro (fun hc => ?_) (fun hc => ?_) <;> ((try simp only [Sy.nf, ne_eq, reduceCtorEq, eq_self] at hc); first | (exfalso; first | omega | exact absurd hc (by assumption) | exact absurd (by assumption) hc) | (with_reducible change True at hc; clear hc) | skip)) | refine And.intro (by first | omega | (simp only [Sy.lc, Sy.ll]; omega) | (simp only [Sy.lc] at *; omega)) ?_ | refine And.intro ?_ ?_ | exact rfl | (refine congrArg SV.bool (decide_eq_true ?_); first | rfl | omega | assumption) | refine Pick.mk _ rfl ?_ | refine fun (bN : Nat) => ?_ | refine fun (zA : Bool) (bA : Bs) (cA : Nat) hA => ?_
        (refine ⟨_, _, ?_, ?_, (h1 3 a hr.symm)⟩; exact rfl; refine Tells.pick [some 0] (by decide) ?_; repeat' first | exact rfl | exact Retell.refl _ | exact Retell.lit rfl | exact Retell.rows | exact Ghost.vec | exact Ghost.win | refine And.intro ?_ ?_)
    by_cases hf : f = true ∧ C.toNat = 128
    · rw [if_pos (.inl hf)] at hr
      obtain ⟨rfl, h128⟩ := hf
      repeat' first | exact trivial | refine And.intro trivial ?_ | refine And.intro rfl ?_ | refine And.intro (one_flat (fun _ => rfl) _) ?_ | refine Fit.yes (by omega) ?_ | refine Fit.no ?_ | (refine And.intro (fun hc => ?_) (fun hc => ?_) <;> ((try simp only [Sy.nf, ne_eq, reduceCtorEq, eq_self] at hc); first | (exfalso; first | omega | exact absurd hc (by assumption) | exact absurd (by assumption) hc) | (with_reducible change True at hc; clear hc) | skip)) | refine And.intro (by first | omega | (simp only [Sy.lc, Sy.ll]; omega) | (simp only [Sy.lc] at *; omega)) ?_ | refine And.intro ?_ ?_ | exact rfl | (refine congrArg SV.bool (decide_eq_true ?_); first | rfl | omega | assumption) | refine Pick.mk _ rfl ?_ | refine fun (bN : Nat) => ?_ | refine fun (zA : Bool) (bA : Bs) (cA : Nat) hA => ?_
      (refine ⟨_, _, ?_, ?_, (h1 3 a hr.symm)⟩; exact rfl; refine Tells.pick [some 0] (by decide) ?_; repeat' first | exact rfl | exact Retell.refl _ | exact Retell.lit rfl | exact Retell.rows | exact Ghost.vec | exact Ghost.win | refine And.intro ?_ ?_)
    rw [if_neg (by rintro (h | h); exact hf h; exact h57 h)] at hr
    have hq : u / 144115188075855872 = 0 := Nat.div_eq_of_lt (by omega)
    have hjoin := or_join u (C.toNat % 128) (by omega) (Nat.mod_lt _ (by omega))
    by_cases hlo : C.toNat < 128
    · rw [if_pos hlo] at hr
      have hrl : ((s.drop (a + 1)).length : Int) = s.length - (a + 1) := by simp; omega
      cases f
      all_goals
        repeat' first | exact trivial | refine And.intro trivial ?_ | refine And.intro rfl ?_ | refine And.intro (one_flat (fun _ => rfl) _) ?_ | refine Fit.yes (by omega) ?_ | refine Fit.no ?_ | (refine And.intro (fun hc => ?_) (fun hc => ?_) <;> ((try simp only [Sy.nf, ne_eq, reduceCtorEq, eq_self] at hc); first | (exfalso; first | omega | exact absurd hc (by assumption) | exact absurd (by assumption) hc) | (with_reducible change True at hc; clear hc) | skip)) | refine And.intro (by first | omega | (simp only [Sy.lc, Sy.ll]; omega) | (simp only [Sy.lc] at *; omega)) ?_ | refine And.intro ?_ ?_ | exact rfl | (refine congrArg SV.bool (decide_eq_true ?_); first | rfl | omega | assumption) | refine Pick.mk _ rfl ?_ | refine fun (bN : Nat) => ?_ | refine fun (zA : Bool) (bA : Bs) (cA : Nat) hA => ?_
        rw [hAN, hjoin]
        refine FnOb.pure (zag_ob (u * 128 + C.toNat % 128) (by omega) _ ?_)
        repeat' first | exact trivial | refine And.intro trivial ?_ | refine And.intro rfl ?_ | refine And.intro (one_flat (fun _ => rfl) _) ?_ | refine Fit.yes (by omega) ?_ | refine Fit.no ?_ | (refine And.intro (fun hc => ?_) (fun hc => ?_) <;> ((try simp only [Sy.nf, ne_eq, reduceCtorEq, eq_self] at hc); first | (exfalso; first | omega | exact absurd hc (by assumption) | exact absurd (by assumption) hc) | (with_reducible change True at hc; clear hc) | skip)) | refine And.intro (by first | omega | (simp only [Sy.lc, Sy.ll]; omega) | (simp only [Sy.lc] at *; omega)) ?_ | refine And.intro ?_ ?_ | exact rfl | (refine congrArg SV.bool (decide_eq_true ?_); first | rfl | omega | assumption) | refine Pick.mk _ rfl ?_ | refine fun (bN : Nat) => ?_ | refine fun (zA : Bool) (bA : Bs) (cA : Nat) hA => ?_
        refine ⟨_, _, rfl, ?_, h2 _ _ hr.symm⟩
        rw [show s.length - (s.drop (a + 1)).length = a + 1 by simp; omega]
        (refine Tells.pick [some 0] (by decide) ?_; repeat' first | exact rfl | exact Retell.refl _ | exact Retell.lit rfl | exact Retell.rows | exact Ghost.vec | exact Ghost.win | refine And.intro ?_ ?_)
    · rw [if_neg hlo] at hr
      cases f
      all_goals
        try have h128 : C.toNat ≠ 128 := fun h => hf ⟨rfl, h⟩
        repeat' first | exact trivial | refine And.intro trivial ?_ | refine And.intro rfl ?_ | refine And.intro (one_flat (fun _ => rfl) _) ?_ | refine Fit.yes (by omega) ?_ | refine Fit.no ?_ | (refine And.intro (fun hc => ?_) (fun hc => ?_) <;> ((try simp only [Sy.nf, ne_eq, reduceCtorEq, eq_self] at hc); first | (exfalso; first | omega | exact absurd hc (by assumption) | exact absurd (by assumption) hc) | (with_reducible change True at hc; clear hc) | skip)) | refine And.intro (by first | omega | (simp only [Sy.lc, Sy.ll]; omega) | (simp only [Sy.lc] at *; omega)) ?_ | refine And.intro ?_ ?_ | exact rfl | (refine congrArg SV.bool (decide_eq_true ?_); first | rfl | omega | assumption) | refine Pick.mk _ rfl ?_ | refine fun (bN : Nat) => ?_ | refine fun (zA : Bool) (bA : Bs) (cA : Nat) hA => ?_
        exact ⟨(a + 1, u * 128 + C.toNat % 128, false), (by first | omega | (dsimp only; omega) | (simp; omega)), ⟨by omega, by omega, hr⟩, rfl, ⟨rfl, den_intE (by rw [hAN, hjoin]), rfl, trivial⟩, by (refine Tells.pick [some 0] (by decide) ?_; repeat' first | exact rfl | exact Retell.refl _ | exact Retell.lit rfl | exact Retell.rows | exact Ghost.vec | exact Ghost.win | refine And.intro ?_ ?_)⟩
end Go.Proofs.YtbcnpklmhgcenaaDoor

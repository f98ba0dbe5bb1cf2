/- The pack's items and lists, read. Own work. -/
import Derived.Test.YtbcnpklmhgcenaaDoorP4
namespace Go.Proofs.YtbcnpklmhgcenaaDoor
open Go Go.Sy Go.Pk
set_option maxRecDepth 100000
set_option linter.unusedVariables false
set_option linter.unusedSimpArgs false
set_option maxHeartbeats 2000000

theorem readItem_ob (b : Bs) (s : List UInt8) (a : Nat) (ha : a < s.length) (hs : s.length ≤ 262144) (K : SV → SH → Prop)
    (h1 : ∀ (e : Int) (at1 : Nat), rdI (s.drop a) = .err e → e ≠ 0 → K (.tup [.agg (encItem ⟨false, 0, []⟩), .int .i64 e]) [(b, .lit [.str s, .int .i64 at1])])
    (h2 : ∀ (x : Itm) (r : List UInt8), rdI (s.drop a) = .ok x r → K (.tup [.agg (encItem x), .int .i64 0]) [(b, .lit [.str s, .int .i64 (s.length - r.length : Nat)])]) :
    FnOb Tryd.prog 72 [.ptr 0 b 0 0 0] [(b, .lit [.str s, .int .i64 a])] K := by
  apply FnOb.tidy
  have hd := drop_cons ha 0
  obtain ⟨C, hC⟩ : ∃ C, s.getD a 0 = C := ⟨_, rfl⟩
  rw [hC] at hd
  have hgc : (s.getD (a : Int).toNat 0).toNat = C.toNat := by rw [Int.toNat_natCast, hC]
  have hCl := C.toNat_lt
  obtain ⟨R, hR⟩ : ∃ R, rdI (s.drop a) = R := ⟨_, rfl⟩
  rw [hR] at h1 h2
  rw [hd, rdI] at hR
  by_cases hk : C.toNat ≠ 1 ∧ C.toNat ≠ 2
  · rw [if_pos hk] at hR
    apply en72
    repeat' first | exact trivial | refine And.intro trivial ?_ | refine And.intro rfl ?_ | refine And.intro (one_flat (fun _ => rfl) _) ?_ | refine Fit.yes (by omega) ?_ | refine Fit.no ?_ | (refine And.intro (fun hc => ?_) (fun hc => ?_) <;> ((try simp only [Sy.nf, ne_eq, reduceCtorEq, eq_self] at hc); first | (exfalso; first | omega | exact absurd hc (by assumption) | exact absurd (by assumption) hc) | (with_reducible change True at hc; clear hc) | skip)) | refine And.intro (by first | omega | (simp only [Sy.lc, Sy.ll]; omega) | (simp only [Sy.lc] at *; omega)) ?_ | refine And.intro ?_ ?_ | exact rfl | (refine congrArg SV.bool (decide_eq_true ?_); first | rfl | omega | assumption) | refine Pick.mk _ rfl ?_ | refine fun (bN : Nat) => ?_ | refine fun (zA : Bool) (bA : Bs) (cA : Nat) hA => ?_
    (refine ⟨_, _, ?_, ?_, (h1 3 (a + 1) hR.symm (by omega))⟩; exact rfl; refine Tells.pick [some 0] (by decide) ?_; repeat' first | exact rfl | exact Retell.refl _ | exact Retell.lit rfl | exact Retell.rows | exact Ghost.vec | exact Ghost.win | refine And.intro ?_ ?_)
  rw [if_neg hk] at hR
  have go : FnOb Tryd.prog 72 [.ptr 0 b 0 0 0] [(b, .lit [.str s, .int .i64 a])] fun r H' => ∃ r' H'', SV.den r' = SV.den r ∧ Tells H' H'' ∧ K r' H'' := by
    apply en72
    by_cases hk1 : C.toNat = 1
    · repeat' first | exact trivial | refine And.intro trivial ?_ | refine And.intro rfl ?_ | refine And.intro (one_flat (fun _ => rfl) _) ?_ | refine Fit.yes (by omega) ?_ | refine Fit.no ?_ | (refine And.intro (fun hc => ?_) (fun hc => ?_) <;> ((try simp only [Sy.nf, ne_eq, reduceCtorEq, eq_self] at hc); first | (exfalso; first | omega | exact absurd hc (by assumption) | exact absurd (by assumption) hc) | (with_reducible change True at hc; clear hc) | skip)) | refine And.intro (by first | omega | (simp only [Sy.lc, Sy.ll]; omega) | (simp only [Sy.lc] at *; omega)) ?_ | refine And.intro ?_ ?_ | exact rfl | (refine congrArg SV.bool (decide_eq_true ?_); first | rfl | omega | assumption) | refine Pick.mk _ rfl ?_ | refine fun (bN : Nat) => ?_ | refine fun (zA : Bool) (bA : Bs) (cA : Nat) hA => ?_
      refine FnOb.call [0] (readNumber_ob b s (a + 1) ha (by omega) _ (fun e at1 he => ?_) (fun u r he => ?_)) (by decide) rfl rfl
      · have h11 := rdN_err _ _ _ _ he
        rw [he] at hR
        repeat' first | exact trivial | refine And.intro trivial ?_ | refine And.intro rfl ?_ | refine And.intro (one_flat (fun _ => rfl) _) ?_ | refine Fit.yes (by omega) ?_ | refine Fit.no ?_ | (refine And.intro (fun hc => ?_) (fun hc => ?_) <;> ((try simp only [Sy.nf, ne_eq, reduceCtorEq, eq_self] at hc); first | (exfalso; first | omega | exact absurd hc (by assumption) | exact absurd (by assumption) hc) | (with_reducible change True at hc; clear hc) | skip)) | refine And.intro (by first | omega | (simp only [Sy.lc, Sy.ll]; omega) | (simp only [Sy.lc] at *; omega)) ?_ | refine And.intro ?_ ?_ | exact rfl | (refine congrArg SV.bool (decide_eq_true ?_); first | rfl | omega | assumption) | refine Pick.mk _ rfl ?_ | refine fun (bN : Nat) => ?_ | refine fun (zA : Bool) (bA : Bs) (cA : Nat) hA => ?_
        (refine ⟨_, _, ?_, ?_, (h1 e at1 hR.symm (by omega))⟩; exact rfl; refine Tells.pick [some 0] (by decide) ?_; repeat' first | exact rfl | exact Retell.refl _ | exact Retell.lit rfl | exact Retell.rows | exact Ghost.vec | exact Ghost.win | refine And.intro ?_ ?_)
      · rw [he] at hR
        simp only [if_pos hk1] at hR
        repeat' first | exact trivial | refine And.intro trivial ?_ | refine And.intro rfl ?_ | refine And.intro (one_flat (fun _ => rfl) _) ?_ | refine Fit.yes (by omega) ?_ | refine Fit.no ?_ | (refine And.intro (fun hc => ?_) (fun hc => ?_) <;> ((try simp only [Sy.nf, ne_eq, reduceCtorEq, eq_self] at hc); first | (exfalso; first | omega | exact absurd hc (by assumption) | exact absurd (by assumption) hc) | (with_reducible change True at hc; clear hc) | skip)) | refine And.intro (by first | omega | (simp only [Sy.lc, Sy.ll]; omega) | (simp only [Sy.lc] at *; omega)) ?_ | refine And.intro ?_ ?_ | exact rfl | (refine congrArg SV.bool (decide_eq_true ?_); first | rfl | omega | assumption) | refine Pick.mk _ rfl ?_ | refine fun (bN : Nat) => ?_ | refine fun (zA : Bool) (bA : Bs) (cA : Nat) hA => ?_
        (refine ⟨_, _, ?_, ?_, (h2 ⟨false, zag u, []⟩ r hR.symm)⟩; exact rfl; refine Tells.pick [some 0] (by decide) ?_; repeat' first | exact rfl | exact Retell.refl _ | exact Retell.lit rfl | exact Retell.rows | exact Ghost.vec | exact Ghost.win | refine And.intro ?_ ?_)
    · repeat' first | exact trivial | refine And.intro trivial ?_ | refine And.intro rfl ?_ | refine And.intro (one_flat (fun _ => rfl) _) ?_ | refine Fit.yes (by omega) ?_ | refine Fit.no ?_ | (refine And.intro (fun hc => ?_) (fun hc => ?_) <;> ((try simp only [Sy.nf, ne_eq, reduceCtorEq, eq_self] at hc); first | (exfalso; first | omega | exact absurd hc (by assumption) | exact absurd (by assumption) hc) | (with_reducible change True at hc; clear hc) | skip)) | refine And.intro (by first | omega | (simp only [Sy.lc, Sy.ll]; omega) | (simp only [Sy.lc] at *; omega)) ?_ | refine And.intro ?_ ?_ | exact rfl | (refine congrArg SV.bool (decide_eq_true ?_); first | rfl | omega | assumption) | refine Pick.mk _ rfl ?_ | refine fun (bN : Nat) => ?_ | refine fun (zA : Bool) (bA : Bs) (cA : Nat) hA => ?_
      refine FnOb.call [0] (readNumber_ob b s (a + 1) ha (by omega) _ (fun e at1 he => ?_) (fun u r he => ?_)) (by decide) rfl rfl
      · have h11 := rdN_err _ _ _ _ he
        rw [he] at hR
        repeat' first | exact trivial | refine And.intro trivial ?_ | refine And.intro rfl ?_ | refine And.intro (one_flat (fun _ => rfl) _) ?_ | refine Fit.yes (by omega) ?_ | refine Fit.no ?_ | (refine And.intro (fun hc => ?_) (fun hc => ?_) <;> ((try simp only [Sy.nf, ne_eq, reduceCtorEq, eq_self] at hc); first | (exfalso; first | omega | exact absurd hc (by assumption) | exact absurd (by assumption) hc) | (with_reducible change True at hc; clear hc) | skip)) | refine And.intro (by first | omega | (simp only [Sy.lc, Sy.ll]; omega) | (simp only [Sy.lc] at *; omega)) ?_ | refine And.intro ?_ ?_ | exact rfl | (refine congrArg SV.bool (decide_eq_true ?_); first | rfl | omega | assumption) | refine Pick.mk _ rfl ?_ | refine fun (bN : Nat) => ?_ | refine fun (zA : Bool) (bA : Bs) (cA : Nat) hA => ?_
        (refine ⟨_, _, ?_, ?_, (h1 e at1 hR.symm (by omega))⟩; exact rfl; refine Tells.pick [some 0] (by decide) ?_; repeat' first | exact rfl | exact Retell.refl _ | exact Retell.lit rfl | exact Retell.rows | exact Ghost.vec | exact Ghost.win | refine And.intro ?_ ?_)
      · obtain ⟨hu, p, _, hp⟩ := rdN_lt _ _ _ _ _ (by omega) he
        have hb := zag_bd hu
        rw [he] at hR
        simp only [if_neg hk1] at hR
        obtain ⟨a1, ha1, rfl⟩ : ∃ a1, a1 ≤ s.length ∧ r = s.drop a1 := by
          refine ⟨a + 1 + p.length, ?_, ?_⟩
          · have := congrArg List.length hp
            simp at this; omega
          · rw [← List.drop_drop, hp, List.drop_left']
            rfl
        rw [show s.length - (s.drop a1).length = a1 by simp; omega]
        have hrl : ((s.drop a1).length : Int) = s.length - a1 := by simp; omega
        rw [hrl] at hR
        obtain ⟨n, hn⟩ : ∃ n, zag u = n := ⟨_, rfl⟩
        rw [hn] at hR hb ⊢
        by_cases hbig : n < 0 ∨ 262144 < n
        · rw [if_pos hbig] at hR
          by_cases hn0 : n < 0
          all_goals
            repeat' first | exact trivial | refine And.intro trivial ?_ | refine And.intro rfl ?_ | refine And.intro (one_flat (fun _ => rfl) _) ?_ | refine Fit.yes (by omega) ?_ | refine Fit.no ?_ | (refine And.intro (fun hc => ?_) (fun hc => ?_) <;> ((try simp only [Sy.nf, ne_eq, reduceCtorEq, eq_self] at hc); first | (exfalso; first | omega | exact absurd hc (by assumption) | exact absurd (by assumption) hc) | (with_reducible change True at hc; clear hc) | skip)) | refine And.intro (by first | omega | (simp only [Sy.lc, Sy.ll]; omega) | (simp only [Sy.lc] at *; omega)) ?_ | refine And.intro ?_ ?_ | exact rfl | (refine congrArg SV.bool (decide_eq_true ?_); first | rfl | omega | assumption) | refine Pick.mk _ rfl ?_ | refine fun (bN : Nat) => ?_ | refine fun (zA : Bool) (bA : Bs) (cA : Nat) hA => ?_
            (refine ⟨_, _, ?_, ?_, (h1 3 a1 hR.symm (by omega))⟩; exact rfl; refine Tells.pick [some 0] (by decide) ?_; repeat' first | exact rfl | exact Retell.refl _ | exact Retell.lit rfl | exact Retell.rows | exact Ghost.vec | exact Ghost.win | refine And.intro ?_ ?_)
        rw [if_neg hbig] at hR
        by_cases hsh : (s.length : Int) - a1 < n
        · rw [if_pos hsh] at hR
          repeat' first | exact trivial | refine And.intro trivial ?_ | refine And.intro rfl ?_ | refine And.intro (one_flat (fun _ => rfl) _) ?_ | refine Fit.yes (by omega) ?_ | refine Fit.no ?_ | (refine And.intro (fun hc => ?_) (fun hc => ?_) <;> ((try simp only [Sy.nf, ne_eq, reduceCtorEq, eq_self] at hc); first | (exfalso; first | omega | exact absurd hc (by assumption) | exact absurd (by assumption) hc) | (with_reducible change True at hc; clear hc) | skip)) | refine And.intro (by first | omega | (simp only [Sy.lc, Sy.ll]; omega) | (simp only [Sy.lc] at *; omega)) ?_ | refine And.intro ?_ ?_ | exact rfl | (refine congrArg SV.bool (decide_eq_true ?_); first | rfl | omega | assumption) | refine Pick.mk _ rfl ?_ | refine fun (bN : Nat) => ?_ | refine fun (zA : Bool) (bA : Bs) (cA : Nat) hA => ?_
          (refine ⟨_, _, ?_, ?_, (h1 11 a1 hR.symm (by omega))⟩; exact rfl; refine Tells.pick [some 0] (by decide) ?_; repeat' first | exact rfl | exact Retell.refl _ | exact Retell.lit rfl | exact Retell.rows | exact Ghost.vec | exact Ghost.win | refine And.intro ?_ ?_)
        rw [if_neg hsh] at hR
        obtain ⟨m, rfl⟩ : ∃ m : Nat, n = m := ⟨n.toNat, by omega⟩
        rw [Int.toNat_natCast] at hR
        have := h2 _ _ hR.symm
        rw [show s.length - ((s.drop a1).drop m).length = a1 + m by simp; omega] at this
        have e : (s.take ((a1 : Int) + m).toNat).drop (a1 : Int).toNat = (s.drop a1).take m := by
          rw [Int.toNat_natCast, show ((a1 : Int) + m).toNat = a1 + m by omega, List.drop_take]; congr 1; omega
        rw [← e] at this
        repeat' first | exact trivial | refine And.intro trivial ?_ | refine And.intro rfl ?_ | refine And.intro (one_flat (fun _ => rfl) _) ?_ | refine Fit.yes (by omega) ?_ | refine Fit.no ?_ | (refine And.intro (fun hc => ?_) (fun hc => ?_) <;> ((try simp only [Sy.nf, ne_eq, reduceCtorEq, eq_self] at hc); first | (exfalso; first | omega | exact absurd hc (by assumption) | exact absurd (by assumption) hc) | (with_reducible change True at hc; clear hc) | skip)) | refine And.intro (by first | omega | (simp only [Sy.lc, Sy.ll]; omega) | (simp only [Sy.lc] at *; omega)) ?_ | refine And.intro ?_ ?_ | exact rfl | (refine congrArg SV.bool (decide_eq_true ?_); first | rfl | omega | assumption) | refine Pick.mk _ rfl ?_ | refine fun (bN : Nat) => ?_ | refine fun (zA : Bool) (bA : Bs) (cA : Nat) hA => ?_
        (refine ⟨_, _, ?_, ?_, this⟩; exact rfl; refine Tells.pick [some 0] (by decide) ?_; repeat' first | exact rfl | exact Retell.refl _ | exact Retell.lit rfl | exact Retell.rows | exact Ghost.vec | exact Ghost.win | refine And.intro ?_ ?_)
  exact go

/-- A list of items, and a fault, as they come out. -/
theorem decode_ob (s : List UInt8) (hs : s.length ≤ 9223372036854775807) (K : SV → SH → Prop)
    (h : ∀ z b c, K (.tup [.sl 0 z b 3 0 (decR s).1.length c, .agg [.int .i64 (decR s).2.1, .int .i64 (decR s).2.2]]) [(b, .vec z c encItem 3 (decR s).1)]) : FnOb Tryd.prog 59 [.str s] [] K := by
  apply FnOb.tidy
  by_cases hl : 262144 < s.length
  · have hR : decR s = ([], 0, 2) := by unfold decR; rw [if_pos hl]
    apply en59
    repeat' first | exact trivial | refine And.intro trivial ?_ | refine And.intro rfl ?_ | refine And.intro (one_flat (fun _ => rfl) _) ?_ | refine Fit.yes (by omega) ?_ | refine Fit.no ?_ | (refine And.intro (fun hc => ?_) (fun hc => ?_) <;> ((try simp only [Sy.nf, ne_eq, reduceCtorEq, eq_self] at hc); first | (exfalso; first | omega | exact absurd hc (by assumption) | exact absurd (by assumption) hc) | (with_reducible change True at hc; clear hc) | skip)) | refine And.intro (by first | omega | (simp only [Sy.lc, Sy.ll]; omega) | (simp only [Sy.lc] at *; omega)) ?_ | refine And.intro ?_ ?_ | exact rfl | (refine congrArg SV.bool (decide_eq_true ?_); first | rfl | omega | assumption) | refine Pick.mk _ rfl ?_ | refine fun (bN : Nat) => ?_ | refine fun (zA : Bool) (bA : Bs) (cA : Nat) hA => ?_
    (refine ⟨_, _, ?_, ?_, (by have := h true ⟨0, 0⟩ 0; rw [hR] at this; exact this)⟩; exact rfl; refine Tells.pick [none] (by decide) ?_; repeat' first | exact rfl | exact Retell.refl _ | exact Retell.lit rfl | exact Retell.rows | exact Ghost.vec | exact Ghost.win | refine And.intro ?_ ?_)
  have hR0 : decR s = decF s.length (s.length + 1) s [] := by unfold decR; rw [if_neg hl]
  generalize hR : decR s = R at *
  apply en59
  repeat' first | exact trivial | refine And.intro trivial ?_ | refine And.intro rfl ?_ | refine And.intro (one_flat (fun _ => rfl) _) ?_ | refine Fit.yes (by omega) ?_ | refine Fit.no ?_ | (refine And.intro (fun hc => ?_) (fun hc => ?_) <;> ((try simp only [Sy.nf, ne_eq, reduceCtorEq, eq_self] at hc); first | (exfalso; first | omega | exact absurd hc (by assumption) | exact absurd (by assumption) hc) | (with_reducible change True at hc; clear hc) | skip)) | refine And.intro (by first | omega | (simp only [Sy.lc, Sy.ll]; omega) | (simp only [Sy.lc] at *; omega)) ?_ | refine And.intro ?_ ?_ | exact rfl | (refine congrArg SV.bool (decide_eq_true ?_); first | rfl | omega | assumption) | refine Pick.mk _ rfl ?_ | refine fun (bN : Nat) => ?_ | refine fun (zA : Bool) (bA : Bs) (cA : Nat) hA => ?_
  rename_i b0
  refine loop_st mixed (S := sch59) (by kernel_rfl) 48 (σ := Nat × List Itm × Bool × Bs × Nat) (fun (a, out, z, b, c) => [(0, .str s), (3, .ptr 0 ⟨b0, 0⟩ 0 0 0), (4, .ptr 1 ⟨bN, 0⟩ 0 0 0), (5, .sl 2 z b 3 0 out.length c)])
    (fun (a, out, z, b, c) => [(⟨b0, 0⟩, .lit [.int .i64 0, .int .i64 0]), (⟨bN, 0⟩, .lit [.str s, .int .i64 a]), (b, .vec z c encItem 3 out)])
    (fun (a, out, _) => a ≤ s.length ∧ out.length ≤ 4096 ∧ decF s.length (s.length + 1) (s.drop a) out = R) (fun (a, _) => s.length - a) (0, [], true, ⟨0, 0⟩, 0) rfl ⟨by omega, by simp, hR0.symm⟩ ⟨rfl, rfl, rfl, rfl, trivial⟩ (by (refine Tells.pick [some 0, some 1, none] (by decide) ?_; repeat' first | exact rfl | exact Retell.refl _ | exact Retell.lit rfl | exact Retell.rows | exact Ghost.vec | exact Ghost.win | refine And.intro ?_ ?_)) ?_
  intro ⟨a, out, z, b, c⟩ J ⟨ha, ho, hd⟩
  have hstep := decF_step (len := s.length) (f := s.length + 1) (l := s.drop a) (out := out) (by simp; omega)
  rw [hstep] at hd
  by_cases hal : a = s.length
  · subst hal
    rw [if_pos (by simp)] at hd
    have := h z b c
    rw [← hd] at this
    repeat' first | exact trivial | refine And.intro trivial ?_ | refine And.intro rfl ?_ | refine And.intro (one_flat (fun _ => rfl) _) ?_ | refine Fit.yes (by omega) ?_ | refine Fit.no ?_ | (refine And.intro (fun hc => ?_) (fun hc => ?_) <;> ((try simp only [Sy.nf, ne_eq, reduceCtorEq, eq_self] at hc); first | (exfalso; first | omega | exact absurd hc (by assumption) | exact absurd (by assumption) hc) | (with_reducible change True at hc; clear hc) | skip)) | refine And.intro (by first | omega | (simp only [Sy.lc, Sy.ll]; omega) | (simp only [Sy.lc] at *; omega)) ?_ | refine And.intro ?_ ?_ | exact rfl | (refine congrArg SV.bool (decide_eq_true ?_); first | rfl | omega | assumption) | refine Pick.mk _ rfl ?_ | refine fun (bN : Nat) => ?_ | refine fun (zA : Bool) (bA : Bs) (cA : Nat) hA => ?_
    (refine ⟨_, _, ?_, ?_, this⟩; exact rfl; refine Tells.pick [some 2] (by decide) ?_; repeat' first | exact rfl | exact Retell.refl _ | exact Retell.lit rfl | exact Retell.rows | exact Ghost.vec | exact Ghost.win | refine And.intro ?_ ?_)
  rw [if_neg (by simp; omega)] at hd
  have hlen : s.length - (s.drop a).length = a := by simp; omega
  rw [hlen] at hd
  by_cases h4 : out.length = 4096
  · rw [if_pos h4] at hd
    have := h true ⟨0, 0⟩ 0
    rw [← hd] at this
    repeat' first | exact trivial | refine And.intro trivial ?_ | refine And.intro rfl ?_ | refine And.intro (one_flat (fun _ => rfl) _) ?_ | refine Fit.yes (by omega) ?_ | refine Fit.no ?_ | (refine And.intro (fun hc => ?_) (fun hc => ?_) <;> ((try simp only [Sy.nf, ne_eq, reduceCtorEq, eq_self] at hc); first | (exfalso; first | omega | exact absurd hc (by assumption) | exact absurd (by assumption) hc) | (with_reducible change True at hc; clear hc) | skip)) | refine And.intro (by first | omega | (simp only [Sy.lc, Sy.ll]; omega) | (simp only [Sy.lc] at *; omega)) ?_ | refine And.intro ?_ ?_ | exact rfl | (refine congrArg SV.bool (decide_eq_true ?_); first | rfl | omega | assumption) | refine Pick.mk _ rfl ?_ | refine fun (bN : Nat) => ?_ | refine fun (zA : Bool) (bA : Bs) (cA : Nat) hA => ?_
    (refine ⟨_, _, ?_, ?_, this⟩; exact rfl; refine Tells.pick [none] (by decide) ?_; repeat' first | exact rfl | exact Retell.refl _ | exact Retell.lit rfl | exact Retell.rows | exact Ghost.vec | exact Ghost.win | refine And.intro ?_ ?_)
  rw [if_neg h4] at hd
  repeat' first | exact trivial | refine And.intro trivial ?_ | refine And.intro rfl ?_ | refine And.intro (one_flat (fun _ => rfl) _) ?_ | refine Fit.yes (by omega) ?_ | refine Fit.no ?_ | (refine And.intro (fun hc => ?_) (fun hc => ?_) <;> ((try simp only [Sy.nf, ne_eq, reduceCtorEq, eq_self] at hc); first | (exfalso; first | omega | exact absurd hc (by assumption) | exact absurd (by assumption) hc) | (with_reducible change True at hc; clear hc) | skip)) | refine And.intro (by first | omega | (simp only [Sy.lc, Sy.ll]; omega) | (simp only [Sy.lc] at *; omega)) ?_ | refine And.intro ?_ ?_ | exact rfl | (refine congrArg SV.bool (decide_eq_true ?_); first | rfl | omega | assumption) | refine Pick.mk _ rfl ?_ | refine fun (bN : Nat) => ?_ | refine fun (zA : Bool) (bA : Bs) (cA : Nat) hA => ?_
  refine FnOb.call [1] (readItem_ob ⟨bN, 0⟩ s a (by omega) (by omega) _ (fun e at1 he hne => ?_) (fun x r he => ?_)) (by decide) rfl rfl
  · rw [he] at hd
    have := h true ⟨0, 0⟩ 0
    rw [← hd] at this
    repeat' first | exact trivial | refine And.intro trivial ?_ | refine And.intro rfl ?_ | refine And.intro (one_flat (fun _ => rfl) _) ?_ | refine Fit.yes (by omega) ?_ | refine Fit.no ?_ | (refine And.intro (fun hc => ?_) (fun hc => ?_) <;> ((try simp only [Sy.nf, ne_eq, reduceCtorEq, eq_self] at hc); first | (exfalso; first | omega | exact absurd hc (by assumption) | exact absurd (by assumption) hc) | (with_reducible change True at hc; clear hc) | skip)) | refine And.intro (by first | omega | (simp only [Sy.lc, Sy.ll]; omega) | (simp only [Sy.lc] at *; omega)) ?_ | refine And.intro ?_ ?_ | exact rfl | (refine congrArg SV.bool (decide_eq_true ?_); first | rfl | omega | assumption) | refine Pick.mk _ rfl ?_ | refine fun (bN : Nat) => ?_ | refine fun (zA : Bool) (bA : Bs) (cA : Nat) hA => ?_
    (refine ⟨_, _, ?_, ?_, this⟩; exact rfl; refine Tells.pick [none] (by decide) ?_; repeat' first | exact rfl | exact Retell.refl _ | exact Retell.lit rfl | exact Retell.rows | exact Ghost.vec | exact Ghost.win | refine And.intro ?_ ?_)
  · obtain ⟨hr1, hx, p, hp⟩ := rdI_ok he
    rw [he] at hd
    obtain ⟨a1, ha1, rfl⟩ : ∃ a1, a1 ≤ s.length ∧ r = s.drop a1 := by
      refine ⟨a + p.length, ?_, ?_⟩
      · have := congrArg List.length hp
        simp at this; omega
      · rw [← List.drop_drop, hp, List.drop_left']
        rfl
    have hlt : a < a1 := by simp at hr1; omega
    rw [show s.length - (s.drop a1).length = a1 by simp; omega]
    repeat' first | exact trivial | refine And.intro trivial ?_ | refine And.intro rfl ?_ | refine And.intro (one_flat (fun _ => rfl) _) ?_ | refine Fit.yes (by omega) ?_ | refine Fit.no ?_ | (refine And.intro (fun hc => ?_) (fun hc => ?_) <;> ((try simp only [Sy.nf, ne_eq, reduceCtorEq, eq_self] at hc); first | (exfalso; first | omega | exact absurd hc (by assumption) | exact absurd (by assumption) hc) | (with_reducible change True at hc; clear hc) | skip)) | refine And.intro (by first | omega | (simp only [Sy.lc, Sy.ll]; omega) | (simp only [Sy.lc] at *; omega)) ?_ | refine And.intro ?_ ?_ | exact rfl | (refine congrArg SV.bool (decide_eq_true ?_); first | rfl | omega | assumption) | refine Pick.mk _ rfl ?_ | refine fun (bN : Nat) => ?_ | refine fun (zA : Bool) (bA : Bs) (cA : Nat) hA => ?_
    refine ⟨(a1, out ++ [x], zA, bA, cA), (by first | omega | (dsimp only; omega) | (simp; omega)), ⟨ha1, (by first | omega | (dsimp only; omega) | (simp; omega)), hd⟩, rfl, ⟨rfl, rfl, rfl, rfl, trivial⟩, by (refine Tells.pick [some 0, some 1, some 2] (by decide) ?_; repeat' first | exact rfl | exact Retell.refl _ | exact Retell.lit rfl | exact Retell.rows | exact Ghost.vec | exact Ghost.win | refine And.intro ?_ ?_)⟩
end Go.Proofs.YtbcnpklmhgcenaaDoor

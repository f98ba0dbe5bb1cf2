/- The pack's lists, written: as the document has it. Own work. -/
import Derived.Test.YtbcnpklmhgcenaaDoorP1
namespace Go.Proofs.YtbcnpklmhgcenaaDoor
open Go Go.Sy Go.Pk
set_option maxRecDepth 100000
set_option linter.unusedVariables false
set_option linter.unusedSimpArgs false
set_option maxHeartbeats 1000000

def encItem (x : Itm) : List SV := [.bool x.t, .int .i64 x.n, .str x.s]
theorem bytes_cells (B : List UInt8) : ((B.flatMap encByte).drop (0 * 1)).take B.length = B.map fun c => SV.int .u8 c.toNat := by
  have e : B.flatMap encByte = B.map fun c => SV.int .u8 c.toNat := by
    induction B with
    | nil => rfl
    | cons a l ih => rw [List.flatMap_cons, ih]; rfl
  rw [e, Nat.zero_mul, List.drop_zero]
  exact List.take_of_length_le (by simp)

theorem encode_ob (z : Bool) (b : Bs) (c : Nat) (l : List Itm) (hI : ∀ x ∈ l, okI x) (hl : l.length ≤ 9223372036854775807) (K : SV → SH → Prop) (h : K (.tup [.str (encR l).1, .int .i64 (encR l).2]) [(b, .win encItem 3 l)]) :
    FnOb Tryd.prog 41 [.sl 0 z b 3 0 l.length c] [(b, .win encItem 3 l)] K := by
  apply FnOb.tidy
  by_cases h1 : 4096 < l.length
  · apply en41
    repeat' first | exact trivial | refine And.intro trivial ?_ | refine And.intro rfl ?_ | refine And.intro (one_flat (fun _ => rfl) _) ?_ | refine Fit.yes (by omega) ?_ | refine Fit.no ?_ | (refine And.intro (fun hc => ?_) (fun hc => ?_) <;> ((try simp only [Sy.nf, ne_eq, reduceCtorEq, eq_self] at hc); first | (exfalso; first | omega | exact absurd hc (by assumption) | exact absurd (by assumption) hc) | (with_reducible change True at hc; clear hc) | skip)) | refine And.intro (by first | omega | (simp only [Sy.lc, Sy.ll]; omega) | (simp only [Sy.lc] at *; omega)) ?_ | refine And.intro ?_ ?_ | exact rfl | (refine congrArg SV.bool (decide_eq_true ?_); first | rfl | omega | assumption) | refine Pick.mk _ rfl ?_ | refine fun (bN : Nat) => ?_ | refine fun (zA : Bool) (bA : Bs) (cA : Nat) hA => ?_
    (refine ⟨_, _, ?_, ?_, (by rw [show encR l = ([], 2) by unfold encR; rw [if_pos h1]] at h; exact h)⟩; exact rfl; refine Tells.pick [some 0] (by decide) ?_; repeat' first | exact rfl | exact Retell.refl _ | exact Retell.lit rfl | exact Retell.rows | exact Ghost.vec | exact Ghost.win | refine And.intro ?_ ?_)
  apply en41
  repeat' first | exact trivial | refine And.intro trivial ?_ | refine And.intro rfl ?_ | refine And.intro (one_flat (fun _ => rfl) _) ?_ | refine Fit.yes (by omega) ?_ | refine Fit.no ?_ | (refine And.intro (fun hc => ?_) (fun hc => ?_) <;> ((try simp only [Sy.nf, ne_eq, reduceCtorEq, eq_self] at hc); first | (exfalso; first | omega | exact absurd hc (by assumption) | exact absurd (by assumption) hc) | (with_reducible change True at hc; clear hc) | skip)) | refine And.intro (by first | omega | (simp only [Sy.lc, Sy.ll]; omega) | (simp only [Sy.lc] at *; omega)) ?_ | refine And.intro ?_ ?_ | exact rfl | (refine congrArg SV.bool (decide_eq_true ?_); first | rfl | omega | assumption) | refine Pick.mk _ rfl ?_ | refine fun (bN : Nat) => ?_ | refine fun (zA : Bool) (bA : Bs) (cA : Nat) hA => ?_
  refine loop_st mixed (S := sch41) (by kernel_rfl) 66 (σ := Nat) (fun k => [(0, .sl 0 z b 3 0 l.length c), (12, .sl 0 z b 3 0 l.length c), (13, .int .i64 l.length), (14, .int .i64 k)]) (fun _ => [(b, .win encItem 3 l)])
    (fun k => k ≤ l.length ∧ (l.take k).all may = true) (fun k => l.length - k) 0 rfl ⟨by omega, rfl⟩ ⟨rfl, rfl, rfl, rfl, trivial⟩ (Tells.refl _) ?_
  intro k J ⟨hk, hm⟩
  by_cases hkl : k < l.length
  · have hx : l[k]? = some l[k] := List.getElem?_eq_getElem hkl
    have ht := take_succ_some hx
    generalize hX : l[k] = x at *
    repeat' first | exact trivial | refine And.intro trivial ?_ | refine And.intro rfl ?_ | refine And.intro (one_flat (fun _ => rfl) _) ?_ | refine Fit.yes (by omega) ?_ | refine Fit.no ?_ | (refine And.intro (fun hc => ?_) (fun hc => ?_) <;> ((try simp only [Sy.nf, ne_eq, reduceCtorEq, eq_self] at hc); first | (exfalso; first | omega | exact absurd hc (by assumption) | exact absurd (by assumption) hc) | (with_reducible change True at hc; clear hc) | skip)) | refine And.intro (by first | omega | (simp only [Sy.lc, Sy.ll]; omega) | (simp only [Sy.lc] at *; omega)) ?_ | refine And.intro ?_ ?_ | exact rfl | (refine congrArg SV.bool (decide_eq_true ?_); first | rfl | omega | assumption) | refine Pick.mk _ rfl ?_ | refine fun (bN : Nat) => ?_ | refine fun (zA : Bool) (bA : Bs) (cA : Nat) hA => ?_
    intro y hy
    obtain rfl : x = y := by
      rw [show 0 + (k : Int).toNat = k by omega, hx] at hy; exact Option.some.inj hy
    have hxl : x ∈ l := List.mem_of_getElem? hx
    have hno : may x = false → encR l = ([], 4) := fun h => by
      unfold encR
      rw [if_neg h1, if_pos (by rw [List.all_eq_false]; exact ⟨x, hxl, by rw [h]; simp⟩)]
    have hyes : may x = true → (l.take (k + 1)).all may = true := fun h => by rw [ht, List.all_append, hm]; simp [h]
    obtain ⟨xt, xn, xs⟩ := x
    cases xt
    · by_cases hxs : xs = []
      · subst hxs
        repeat' first | exact trivial | refine And.intro trivial ?_ | refine And.intro rfl ?_ | refine And.intro (one_flat (fun _ => rfl) _) ?_ | refine Fit.yes (by omega) ?_ | refine Fit.no ?_ | (refine And.intro (fun hc => ?_) (fun hc => ?_) <;> ((try simp only [Sy.nf, ne_eq, reduceCtorEq, eq_self] at hc); first | (exfalso; first | omega | exact absurd hc (by assumption) | exact absurd (by assumption) hc) | (with_reducible change True at hc; clear hc) | skip)) | refine And.intro (by first | omega | (simp only [Sy.lc, Sy.ll]; omega) | (simp only [Sy.lc] at *; omega)) ?_ | refine And.intro ?_ ?_ | exact rfl | (refine congrArg SV.bool (decide_eq_true ?_); first | rfl | omega | assumption) | refine Pick.mk _ rfl ?_ | refine fun (bN : Nat) => ?_ | refine fun (zA : Bool) (bA : Bs) (cA : Nat) hA => ?_
        exact ⟨k + 1, (by first | omega | (dsimp only; omega) | (simp; omega)), ⟨by omega, hyes rfl⟩, rfl, ⟨rfl, rfl, rfl, rfl, trivial⟩, by (refine Tells.pick [some 0] (by decide) ?_; repeat' first | exact rfl | exact Retell.refl _ | exact Retell.lit rfl | exact Retell.rows | exact Ghost.vec | exact Ghost.win | refine And.intro ?_ ?_)⟩
      · have hmf : may ⟨false, xn, xs⟩ = false := by simp [may, hxs]
        repeat' first | exact trivial | refine And.intro trivial ?_ | refine And.intro rfl ?_ | refine And.intro (one_flat (fun _ => rfl) _) ?_ | refine Fit.yes (by omega) ?_ | refine Fit.no ?_ | (refine And.intro (fun hc => ?_) (fun hc => ?_) <;> ((try simp only [Sy.nf, ne_eq, reduceCtorEq, eq_self] at hc); first | (exfalso; first | omega | exact absurd hc (by assumption) | exact absurd (by assumption) hc) | (with_reducible change True at hc; clear hc) | skip)) | refine And.intro (by first | omega | (simp only [Sy.lc, Sy.ll]; omega) | (simp only [Sy.lc] at *; omega)) ?_ | refine And.intro ?_ ?_ | exact rfl | (refine congrArg SV.bool (decide_eq_true ?_); first | rfl | omega | assumption) | refine Pick.mk _ rfl ?_ | refine fun (bN : Nat) => ?_ | refine fun (zA : Bool) (bA : Bs) (cA : Nat) hA => ?_
        (refine ⟨_, _, ?_, ?_, (by rw [hno hmf] at h; exact h)⟩; exact rfl; refine Tells.pick [some 0] (by decide) ?_; repeat' first | exact rfl | exact Retell.refl _ | exact Retell.lit rfl | exact Retell.rows | exact Ghost.vec | exact Ghost.win | refine And.intro ?_ ?_)
    · by_cases hxn : xn = 0
      · subst hxn
        repeat' first | exact trivial | refine And.intro trivial ?_ | refine And.intro rfl ?_ | refine And.intro (one_flat (fun _ => rfl) _) ?_ | refine Fit.yes (by omega) ?_ | refine Fit.no ?_ | (refine And.intro (fun hc => ?_) (fun hc => ?_) <;> ((try simp only [Sy.nf, ne_eq, reduceCtorEq, eq_self] at hc); first | (exfalso; first | omega | exact absurd hc (by assumption) | exact absurd (by assumption) hc) | (with_reducible change True at hc; clear hc) | skip)) | refine And.intro (by first | omega | (simp only [Sy.lc, Sy.ll]; omega) | (simp only [Sy.lc] at *; omega)) ?_ | refine And.intro ?_ ?_ | exact rfl | (refine congrArg SV.bool (decide_eq_true ?_); first | rfl | omega | assumption) | refine Pick.mk _ rfl ?_ | refine fun (bN : Nat) => ?_ | refine fun (zA : Bool) (bA : Bs) (cA : Nat) hA => ?_
        exact ⟨k + 1, (by first | omega | (dsimp only; omega) | (simp; omega)), ⟨by omega, hyes rfl⟩, rfl, ⟨rfl, rfl, rfl, rfl, trivial⟩, by (refine Tells.pick [some 0] (by decide) ?_; repeat' first | exact rfl | exact Retell.refl _ | exact Retell.lit rfl | exact Retell.rows | exact Ghost.vec | exact Ghost.win | refine And.intro ?_ ?_)⟩
      · have hmf : may ⟨true, xn, xs⟩ = false := by simp [may, hxn]
        repeat' first | exact trivial | refine And.intro trivial ?_ | refine And.intro rfl ?_ | refine And.intro (one_flat (fun _ => rfl) _) ?_ | refine Fit.yes (by omega) ?_ | refine Fit.no ?_ | (refine And.intro (fun hc => ?_) (fun hc => ?_) <;> ((try simp only [Sy.nf, ne_eq, reduceCtorEq, eq_self] at hc); first | (exfalso; first | omega | exact absurd hc (by assumption) | exact absurd (by assumption) hc) | (with_reducible change True at hc; clear hc) | skip)) | refine And.intro (by first | omega | (simp only [Sy.lc, Sy.ll]; omega) | (simp only [Sy.lc] at *; omega)) ?_ | refine And.intro ?_ ?_ | exact rfl | (refine congrArg SV.bool (decide_eq_true ?_); first | rfl | omega | assumption) | refine Pick.mk _ rfl ?_ | refine fun (bN : Nat) => ?_ | refine fun (zA : Bool) (bA : Bs) (cA : Nat) hA => ?_
        (refine ⟨_, _, ?_, ?_, (by rw [hno hmf] at h; exact h)⟩; exact rfl; refine Tells.pick [some 0] (by decide) ?_; repeat' first | exact rfl | exact Retell.refl _ | exact Retell.lit rfl | exact Retell.rows | exact Ghost.vec | exact Ghost.win | refine And.intro ?_ ?_)
  obtain rfl : k = l.length := by omega
  rw [List.take_length] at hm
  repeat' first | exact trivial | refine And.intro trivial ?_ | refine And.intro rfl ?_ | refine And.intro (one_flat (fun _ => rfl) _) ?_ | refine Fit.yes (by omega) ?_ | refine Fit.no ?_ | (refine And.intro (fun hc => ?_) (fun hc => ?_) <;> ((try simp only [Sy.nf, ne_eq, reduceCtorEq, eq_self] at hc); first | (exfalso; first | omega | exact absurd hc (by assumption) | exact absurd (by assumption) hc) | (with_reducible change True at hc; clear hc) | skip)) | refine And.intro (by first | omega | (simp only [Sy.lc, Sy.ll]; omega) | (simp only [Sy.lc] at *; omega)) ?_ | refine And.intro ?_ ?_ | exact rfl | (refine congrArg SV.bool (decide_eq_true ?_); first | rfl | omega | assumption) | refine Pick.mk _ rfl ?_ | refine fun (bN : Nat) => ?_ | refine fun (zA : Bool) (bA : Bs) (cA : Nat) hA => ?_
  have h0 : allB (l.take 0) = [] := rfl
  refine loop_st mixed (S := sch41) (by kernel_rfl) 66 (σ := Nat × List UInt8 × Bool × Bs × Nat) (fun (k, B, z', b', c') => [(6, .sl 1 z' b' 1 0 B.length c'), (36, .sl 0 z b 3 0 l.length c), (37, .int .i64 l.length), (38, .int .i64 k)]) (fun (k, B, z', b', c') => [(b, .win encItem 3 l), (b', .vec z' c' encByte 1 B)])
    (fun (k, B, _) => k ≤ l.length ∧ B = allB (l.take k) ∧ B.length ≤ 262144) (fun (k, _) => l.length - k) (0, [], true, ⟨0, 0⟩, 0) rfl ⟨by omega, rfl, by simp⟩ ⟨rfl, rfl, rfl, rfl, trivial⟩ (by (refine Tells.pick [some 0, none] (by decide) ?_; repeat' first | exact rfl | exact Retell.refl _ | exact Retell.lit rfl | exact Retell.rows | exact Ghost.vec | exact Ghost.win | refine And.intro ?_ ?_)) ?_
  intro ⟨k, B, z', b', c'⟩ J ⟨hk, hB, hBl⟩
  by_cases hkl : k < l.length
  · have hx : l[k]? = some l[k] := List.getElem?_eq_getElem hkl
    have ht := take_succ_some hx
    generalize hX : l[k] = x at *
    have hxl : x ∈ l := List.mem_of_getElem? hx
    obtain ⟨i1, i2, i3⟩ := hI x hxl
    have hB1 : allB (l.take (k + 1)) = B ++ one x := by rw [ht, hB]; unfold allB; rw [List.flatMap_append]; simp
    have hlong : 262144 < (B ++ one x).length → encR l = ([], 2) := fun h => by
      have := allB_take_le l (k + 1)
      rw [hB1] at this
      unfold encR
      rw [if_neg h1, if_neg (by simp [hm]), if_pos (by omega)]
    have hol := one_len (hI x hxl)
    repeat' first | exact trivial | refine And.intro trivial ?_ | refine And.intro rfl ?_ | refine And.intro (one_flat (fun _ => rfl) _) ?_ | refine Fit.yes (by omega) ?_ | refine Fit.no ?_ | (refine And.intro (fun hc => ?_) (fun hc => ?_) <;> ((try simp only [Sy.nf, ne_eq, reduceCtorEq, eq_self] at hc); first | (exfalso; first | omega | exact absurd hc (by assumption) | exact absurd (by assumption) hc) | (with_reducible change True at hc; clear hc) | skip)) | refine And.intro (by first | omega | (simp only [Sy.lc, Sy.ll]; omega) | (simp only [Sy.lc] at *; omega)) ?_ | refine And.intro ?_ ?_ | exact rfl | (refine congrArg SV.bool (decide_eq_true ?_); first | rfl | omega | assumption) | refine Pick.mk _ rfl ?_ | refine fun (bN : Nat) => ?_ | refine fun (zA : Bool) (bA : Bs) (cA : Nat) hA => ?_
    intro y hy
    obtain rfl : x = y := by
      rw [show 0 + (k : Int).toNat = k by omega, hx] at hy; exact Option.some.inj hy
    obtain ⟨xt, xn, xs⟩ := x
    simp only at i1 i2 i3
    cases xt
    · repeat' first | exact trivial | refine And.intro trivial ?_ | refine And.intro rfl ?_ | refine And.intro (one_flat (fun _ => rfl) _) ?_ | refine Fit.yes (by omega) ?_ | refine Fit.no ?_ | (refine And.intro (fun hc => ?_) (fun hc => ?_) <;> ((try simp only [Sy.nf, ne_eq, reduceCtorEq, eq_self] at hc); first | (exfalso; first | omega | exact absurd hc (by assumption) | exact absurd (by assumption) hc) | (with_reducible change True at hc; clear hc) | skip)) | refine And.intro (by first | omega | (simp only [Sy.lc, Sy.ll]; omega) | (simp only [Sy.lc] at *; omega)) ?_ | refine And.intro ?_ ?_ | exact rfl | (refine congrArg SV.bool (decide_eq_true ?_); first | rfl | omega | assumption) | refine Pick.mk _ rfl ?_ | refine fun (bN : Nat) => ?_ | refine fun (zA : Bool) (bA : Bs) (cA : Nat) hA => ?_
      refine Pick.mk 1 rfl ?_
      repeat' first | exact trivial | refine And.intro trivial ?_ | refine And.intro rfl ?_ | refine And.intro (one_flat (fun _ => rfl) _) ?_ | refine Fit.yes (by omega) ?_ | refine Fit.no ?_ | (refine And.intro (fun hc => ?_) (fun hc => ?_) <;> ((try simp only [Sy.nf, ne_eq, reduceCtorEq, eq_self] at hc); first | (exfalso; first | omega | exact absurd hc (by assumption) | exact absurd (by assumption) hc) | (with_reducible change True at hc; clear hc) | skip)) | refine And.intro (by first | omega | (simp only [Sy.lc, Sy.ll]; omega) | (simp only [Sy.lc] at *; omega)) ?_ | refine And.intro ?_ ?_ | exact rfl | (refine congrArg SV.bool (decide_eq_true ?_); first | rfl | omega | assumption) | refine Pick.mk _ rfl ?_ | refine fun (bN : Nat) => ?_ | refine fun (zA : Bool) (bA : Bs) (cA : Nat) hA => ?_
      refine FnOb.call [1] (number_ob xn i1 i2 zA bA cA _ (by simp; omega) _ fun z2 b2 c2 => ?_) (by decide) rfl rfl
      have e : B ++ [1] ++ num (zig xn) = B ++ one ⟨false, xn, xs⟩ := by simp [one]
      rw [e]
      repeat' first | exact trivial | refine And.intro trivial ?_ | refine And.intro rfl ?_ | refine And.intro (one_flat (fun _ => rfl) _) ?_ | refine Fit.yes (by omega) ?_ | refine Fit.no ?_ | (refine And.intro (fun hc => ?_) (fun hc => ?_) <;> ((try simp only [Sy.nf, ne_eq, reduceCtorEq, eq_self] at hc); first | (exfalso; first | omega | exact absurd hc (by assumption) | exact absurd (by assumption) hc) | (with_reducible change True at hc; clear hc) | skip)) | refine And.intro (by first | omega | (simp only [Sy.lc, Sy.ll]; omega) | (simp only [Sy.lc] at *; omega)) ?_ | refine And.intro ?_ ?_ | exact rfl | (refine congrArg SV.bool (decide_eq_true ?_); first | rfl | omega | assumption) | refine Pick.mk _ rfl ?_ | refine fun (bN : Nat) => ?_ | refine fun (zA : Bool) (bA : Bs) (cA : Nat) hA => ?_
      · (refine ⟨_, _, ?_, ?_, (by rw [hlong (by omega)] at h; exact h)⟩; exact rfl; refine Tells.pick [some 0] (by decide) ?_; repeat' first | exact rfl | exact Retell.refl _ | exact Retell.lit rfl | exact Retell.rows | exact Ghost.vec | exact Ghost.win | refine And.intro ?_ ?_)
      · exact ⟨(k + 1, _, z2, b2, c2), (by first | omega | (dsimp only; omega) | (simp; omega)), ⟨(by first | omega | (dsimp only; omega) | (simp; omega)), hB1.symm, (by first | omega | (dsimp only; omega) | (simp; omega))⟩, rfl, ⟨rfl, rfl, rfl, rfl, trivial⟩, by (refine Tells.pick [some 0, some 1] (by decide) ?_; repeat' first | exact rfl | exact Retell.refl _ | exact Retell.lit rfl | exact Retell.rows | exact Ghost.vec | exact Ghost.win | refine And.intro ?_ ?_)⟩
    · repeat' first | exact trivial | refine And.intro trivial ?_ | refine And.intro rfl ?_ | refine And.intro (one_flat (fun _ => rfl) _) ?_ | refine Fit.yes (by omega) ?_ | refine Fit.no ?_ | (refine And.intro (fun hc => ?_) (fun hc => ?_) <;> ((try simp only [Sy.nf, ne_eq, reduceCtorEq, eq_self] at hc); first | (exfalso; first | omega | exact absurd hc (by assumption) | exact absurd (by assumption) hc) | (with_reducible change True at hc; clear hc) | skip)) | refine And.intro (by first | omega | (simp only [Sy.lc, Sy.ll]; omega) | (simp only [Sy.lc] at *; omega)) ?_ | refine And.intro ?_ ?_ | exact rfl | (refine congrArg SV.bool (decide_eq_true ?_); first | rfl | omega | assumption) | refine Pick.mk _ rfl ?_ | refine fun (bN : Nat) => ?_ | refine fun (zA : Bool) (bA : Bs) (cA : Nat) hA => ?_
      refine Pick.mk 2 rfl ?_
      repeat' first | exact trivial | refine And.intro trivial ?_ | refine And.intro rfl ?_ | refine And.intro (one_flat (fun _ => rfl) _) ?_ | refine Fit.yes (by omega) ?_ | refine Fit.no ?_ | (refine And.intro (fun hc => ?_) (fun hc => ?_) <;> ((try simp only [Sy.nf, ne_eq, reduceCtorEq, eq_self] at hc); first | (exfalso; first | omega | exact absurd hc (by assumption) | exact absurd (by assumption) hc) | (with_reducible change True at hc; clear hc) | skip)) | refine And.intro (by first | omega | (simp only [Sy.lc, Sy.ll]; omega) | (simp only [Sy.lc] at *; omega)) ?_ | refine And.intro ?_ ?_ | exact rfl | (refine congrArg SV.bool (decide_eq_true ?_); first | rfl | omega | assumption) | refine Pick.mk _ rfl ?_ | refine fun (bN : Nat) => ?_ | refine fun (zA : Bool) (bA : Bs) (cA : Nat) hA => ?_
      refine FnOb.call [1] (number_ob xs.length (by omega) (by omega) zA bA cA _ (by simp; omega) _ fun z2 b2 c2 => ?_) (by decide) rfl rfl
      have hnl := num_len (u := zig xs.length) (by unfold zig; split <;> omega)
      repeat' first | exact trivial | refine And.intro trivial ?_ | refine And.intro rfl ?_ | refine And.intro (one_flat (fun _ => rfl) _) ?_ | refine Fit.yes (by omega) ?_ | refine Fit.no ?_ | (refine And.intro (fun hc => ?_) (fun hc => ?_) <;> ((try simp only [Sy.nf, ne_eq, reduceCtorEq, eq_self] at hc); first | (exfalso; first | omega | exact absurd hc (by assumption) | exact absurd (by assumption) hc) | (with_reducible change True at hc; clear hc) | skip)) | refine And.intro (by first | omega | (simp only [Sy.lc, Sy.ll]; omega) | (simp only [Sy.lc] at *; omega)) ?_ | refine And.intro ?_ ?_ | exact rfl | (refine congrArg SV.bool (decide_eq_true ?_); first | rfl | omega | assumption) | refine Pick.mk _ rfl ?_ | refine fun (bN : Nat) => ?_ | refine fun (zA : Bool) (bA : Bs) (cA : Nat) hA => ?_
      refine ⟨xs, rfl, fun _ _ => rfl, ?_⟩
      have e : B ++ [2] ++ num (zig xs.length) ++ xs = B ++ one ⟨true, xn, xs⟩ := by simp [one]
      have el := congrArg List.length e
      repeat' first | exact trivial | refine And.intro trivial ?_ | refine And.intro rfl ?_ | refine And.intro (one_flat (fun _ => rfl) _) ?_ | refine Fit.yes (by omega) ?_ | refine Fit.no ?_ | (refine And.intro (fun hc => ?_) (fun hc => ?_) <;> ((try simp only [Sy.nf, ne_eq, reduceCtorEq, eq_self] at hc); first | (exfalso; first | omega | exact absurd hc (by assumption) | exact absurd (by assumption) hc) | (with_reducible change True at hc; clear hc) | skip)) | refine And.intro (by first | omega | (simp only [Sy.lc, Sy.ll]; omega) | (simp only [Sy.lc] at *; omega)) ?_ | refine And.intro ?_ ?_ | exact rfl | (refine congrArg SV.bool (decide_eq_true ?_); first | rfl | omega | assumption) | refine Pick.mk _ rfl ?_ | refine fun (bN : Nat) => ?_ | refine fun (zA : Bool) (bA : Bs) (cA : Nat) hA => ?_
      · (refine ⟨_, _, ?_, ?_, (by rw [hlong (by omega)] at h; exact h)⟩; exact rfl; refine Tells.pick [some 0] (by decide) ?_; repeat' first | exact rfl | exact Retell.refl _ | exact Retell.lit rfl | exact Retell.rows | exact Ghost.vec | exact Ghost.win | refine And.intro ?_ ?_)
      · exact ⟨(k + 1, B ++ [2] ++ num (zig xs.length) ++ xs, zA, bA, cA), (by first | omega | (dsimp only; omega) | (simp; omega)), ⟨(by first | omega | (dsimp only; omega) | (simp; omega)), e.trans hB1.symm, (by first | omega | (dsimp only; omega) | (simp; omega))⟩, rfl, ⟨rfl, rfl, rfl, rfl, trivial⟩, by (refine Tells.pick [some 0, some 1] (by decide) ?_; repeat' first | exact rfl | exact Retell.refl _ | exact Retell.lit rfl | exact Retell.rows | exact Ghost.vec | exact Ghost.win | refine And.intro ?_ ?_)⟩
  · obtain rfl : k = l.length := by omega
    rw [List.take_length] at hB
    have hR : encR l = (B, 0) := by
      unfold encR
      rw [if_neg h1, if_neg (by simp [hm]), if_neg (by rw [← hB]; omega), hB]
    repeat' first | exact trivial | refine And.intro trivial ?_ | refine And.intro rfl ?_ | refine And.intro (one_flat (fun _ => rfl) _) ?_ | refine Fit.yes (by omega) ?_ | refine Fit.no ?_ | (refine And.intro (fun hc => ?_) (fun hc => ?_) <;> ((try simp only [Sy.nf, ne_eq, reduceCtorEq, eq_self] at hc); first | (exfalso; first | omega | exact absurd hc (by assumption) | exact absurd (by assumption) hc) | (with_reducible change True at hc; clear hc) | skip)) | refine And.intro (by first | omega | (simp only [Sy.lc, Sy.ll]; omega) | (simp only [Sy.lc] at *; omega)) ?_ | refine And.intro ?_ ?_ | exact rfl | (refine congrArg SV.bool (decide_eq_true ?_); first | rfl | omega | assumption) | refine Pick.mk _ rfl ?_ | refine fun (bN : Nat) => ?_ | refine fun (zA : Bool) (bA : Bs) (cA : Nat) hA => ?_
    refine ⟨B, rfl, bytes_cells B, ?_⟩
    repeat' first | exact trivial | refine And.intro trivial ?_ | refine And.intro rfl ?_ | refine And.intro (one_flat (fun _ => rfl) _) ?_ | refine Fit.yes (by omega) ?_ | refine Fit.no ?_ | (refine And.intro (fun hc => ?_) (fun hc => ?_) <;> ((try simp only [Sy.nf, ne_eq, reduceCtorEq, eq_self] at hc); first | (exfalso; first | omega | exact absurd hc (by assumption) | exact absurd (by assumption) hc) | (with_reducible change True at hc; clear hc) | skip)) | refine And.intro (by first | omega | (simp only [Sy.lc, Sy.ll]; omega) | (simp only [Sy.lc] at *; omega)) ?_ | refine And.intro ?_ ?_ | exact rfl | (refine congrArg SV.bool (decide_eq_true ?_); first | rfl | omega | assumption) | refine Pick.mk _ rfl ?_ | refine fun (bN : Nat) => ?_ | refine fun (zA : Bool) (bA : Bs) (cA : Nat) hA => ?_
    (refine ⟨_, _, ?_, ?_, (by rw [hR] at h; exact h)⟩; exact rfl; refine Tells.pick [some 0] (by decide) ?_; repeat' first | exact rfl | exact Retell.refl _ | exact Retell.lit rfl | exact Retell.rows | exact Ghost.vec | exact Ghost.win | refine And.intro ?_ ?_)
end Go.Proofs.YtbcnpklmhgcenaaDoor

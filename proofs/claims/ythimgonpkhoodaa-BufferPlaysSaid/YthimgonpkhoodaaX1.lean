/- The document's buffer. Own work. -/
import Derived.Test.YthimgonpkhoodaaV3
import Derived.Test.YthimgonpkhoodaaBf5
namespace Go.Proofs.Ythimgonpkhoodaa
open Go Go.Sy Go.Bu
set_option maxRecDepth 100000
set_option linter.unusedVariables false
set_option linter.unusedSimpArgs false
set_option maxHeartbeats 4000000
/-- The document's buffer: the entries in a row. -/
def rfM (h : Nat) (rb : Bs) (z : Bool) (lb : Bs) (c : Nat) (L : List Ent) : SH := [(rb, .lit [.sl h z lb 5 0 L.length c]), (lb, .vec z c cellsE 5 L)]
def boundL (L : List Ent) : Prop := L.length ≤ 4096 ∧ ∀ e ∈ L, boundE e
theorem boundL_of {L : List Ent} {cur : Option Nat} {N : Nat} (h : WF L cur N) (hN : N ≤ 1099511627776) : boundL L := by
  refine ⟨h.size, fun e he => ?_⟩
  obtain ⟨i, hi⟩ := List.mem_iff_getElem?.1 he
  have h1 := h.held i e hi
  have h2 := h.kids i e hi
  have h3 := kidsR_le L cur i
  have h4 := h.size
  exact ⟨h1.1, by omega, by omega, by omega⟩
theorem rhas_ob (rb : Bs) (z : Bool) (lb : Bs) (c : Nat) (L : List Ent) (hL : boundL L) (id : Int) (K : SV → SH → Prop) (h : K (.bool (hasB L id)) (rfM 1 rb z lb c L)) : FnOb Try.prog 58 [.ptr 0 rb 0 0 0, .int .i64 id] (rfM 1 rb z lb c L) K := by
  apply FnOb.tidy
  apply en58
  by_cases h0 : 0 ≤ id
  case neg =>
    have e : hasB L id = false := by unfold hasB; simp [h0]
    rw [e] at h
    (repeat' first | exact trivial | refine And.intro trivial ?_ | refine And.intro rfl ?_ | refine And.intro (one_flat (fun _ => rfl) _) ?_ | refine Fit.yes (by omega) ?_ | refine Fit.no ?_ | (refine And.intro (fun hc => ?_) (fun hc => ?_) <;> ((try simp only [Sy.nf, ne_eq, reduceCtorEq, eq_self] at hc); first | (exfalso; first | omega | exact absurd hc (by assumption) | exact absurd (by assumption) hc) | (with_reducible change True at hc; clear hc) | skip)) | refine And.intro (by first | omega | (simp only [Sy.lc, Sy.ll]; omega) | (simp only [Sy.lc] at *; omega)) ?_ | refine And.intro ?_ ?_ | exact rfl | (refine congrArg SV.bool (decide_eq_true ?_); first | rfl | omega | assumption) | refine Pick.mk _ rfl ?_ | refine fun (bN : Nat) => ?_ | refine fun (zA : Bool) (bA : Bs) (cA : Nat) hA => ?_); all_goals (try (conv => whnf)); (repeat' first | exact trivial | refine And.intro trivial ?_ | refine And.intro rfl ?_ | refine And.intro (one_flat (fun _ => rfl) _) ?_ | refine Fit.yes (by omega) ?_ | refine Fit.no ?_ | (refine And.intro (fun hc => ?_) (fun hc => ?_) <;> ((try simp only [Sy.nf, ne_eq, reduceCtorEq, eq_self] at hc); first | (exfalso; first | omega | exact absurd hc (by assumption) | exact absurd (by assumption) hc) | (with_reducible change True at hc; clear hc) | skip)) | refine And.intro (by first | omega | (simp only [Sy.lc, Sy.ll]; omega) | (simp only [Sy.lc] at *; omega)) ?_ | refine And.intro ?_ ?_ | exact rfl | (refine congrArg SV.bool (decide_eq_true ?_); first | rfl | omega | assumption) | refine Pick.mk _ rfl ?_ | refine fun (bN : Nat) => ?_ | refine fun (zA : Bool) (bA : Bs) (cA : Nat) hA => ?_)
    exact ⟨_, _, rfl, Tells.refl _, h⟩
  obtain ⟨k, rfl⟩ : ∃ k : Nat, id = k := ⟨id.toNat, by omega⟩
  by_cases h1 : k < L.length
  case neg =>
    have e : hasB L k = false := by unfold hasB liveAt; rw [Int.toNat_natCast, List.getElem?_eq_none (by omega)]; simp
    rw [e] at h
    (repeat' first | exact trivial | refine And.intro trivial ?_ | refine And.intro rfl ?_ | refine And.intro (one_flat (fun _ => rfl) _) ?_ | refine Fit.yes (by omega) ?_ | refine Fit.no ?_ | (refine And.intro (fun hc => ?_) (fun hc => ?_) <;> ((try simp only [Sy.nf, ne_eq, reduceCtorEq, eq_self] at hc); first | (exfalso; first | omega | exact absurd hc (by assumption) | exact absurd (by assumption) hc) | (with_reducible change True at hc; clear hc) | skip)) | refine And.intro (by first | omega | (simp only [Sy.lc, Sy.ll]; omega) | (simp only [Sy.lc] at *; omega)) ?_ | refine And.intro ?_ ?_ | exact rfl | (refine congrArg SV.bool (decide_eq_true ?_); first | rfl | omega | assumption) | refine Pick.mk _ rfl ?_ | refine fun (bN : Nat) => ?_ | refine fun (zA : Bool) (bA : Bs) (cA : Nat) hA => ?_); all_goals (try (conv => whnf)); (repeat' first | exact trivial | refine And.intro trivial ?_ | refine And.intro rfl ?_ | refine And.intro (one_flat (fun _ => rfl) _) ?_ | refine Fit.yes (by omega) ?_ | refine Fit.no ?_ | (refine And.intro (fun hc => ?_) (fun hc => ?_) <;> ((try simp only [Sy.nf, ne_eq, reduceCtorEq, eq_self] at hc); first | (exfalso; first | omega | exact absurd hc (by assumption) | exact absurd (by assumption) hc) | (with_reducible change True at hc; clear hc) | skip)) | refine And.intro (by first | omega | (simp only [Sy.lc, Sy.ll]; omega) | (simp only [Sy.lc] at *; omega)) ?_ | refine And.intro ?_ ?_ | exact rfl | (refine congrArg SV.bool (decide_eq_true ?_); first | rfl | omega | assumption) | refine Pick.mk _ rfl ?_ | refine fun (bN : Nat) => ?_ | refine fun (zA : Bool) (bA : Bs) (cA : Nat) hA => ?_)
    exact ⟨_, _, rfl, Tells.refl _, h⟩
  obtain ⟨x, hx⟩ : ∃ x, L[k]? = some x := ⟨_, List.getElem?_eq_getElem h1⟩
  have hx' : L[0 + (k : Int).toNat]? = some x := by rw [show 0 + (k : Int).toNat = k by omega]; exact hx
  obtain ⟨b1, b2, b3, b4⟩ := hL.2 x (List.mem_of_getElem? hx)
  have e : hasB L k = x.live := by
    cases hl : x.live with
    | true => exact hasB_of hx hl
    | false => exact hasB_not hx hl
  rw [e] at h
  repeat' first | exact trivial | refine And.intro trivial ?_ | refine And.intro rfl ?_ | refine And.intro (one_flat (fun _ => rfl) _) ?_ | refine Fit.yes (by omega) ?_ | refine Fit.no ?_ | (refine And.intro (fun hc => ?_) (fun hc => ?_) <;> ((try simp only [Sy.nf, ne_eq, reduceCtorEq, eq_self] at hc); first | (exfalso; first | omega | exact absurd hc (by assumption) | exact absurd (by assumption) hc) | (with_reducible change True at hc; clear hc) | skip)) | refine And.intro (by first | omega | (simp only [Sy.lc, Sy.ll]; omega) | (simp only [Sy.lc] at *; omega)) ?_ | refine And.intro ?_ ?_ | exact rfl | (refine congrArg SV.bool (decide_eq_true ?_); first | rfl | omega | assumption) | refine Pick.mk _ rfl ?_ | refine fun (bN : Nat) => ?_ | refine fun (zA : Bool) (bA : Bs) (cA : Nat) hA => ?_ | (intro x' hx''; obtain rfl := Option.some.inj (hx'.symm.trans hx''))
  conv => whnf
  repeat' first | exact trivial | refine And.intro trivial ?_ | refine And.intro rfl ?_ | refine And.intro (one_flat (fun _ => rfl) _) ?_ | refine Fit.yes (by omega) ?_ | refine Fit.no ?_ | (refine And.intro (fun hc => ?_) (fun hc => ?_) <;> ((try simp only [Sy.nf, ne_eq, reduceCtorEq, eq_self] at hc); first | (exfalso; first | omega | exact absurd hc (by assumption) | exact absurd (by assumption) hc) | (with_reducible change True at hc; clear hc) | skip)) | refine And.intro (by first | omega | (simp only [Sy.lc, Sy.ll]; omega) | (simp only [Sy.lc] at *; omega)) ?_ | refine And.intro ?_ ?_ | exact rfl | (refine congrArg SV.bool (decide_eq_true ?_); first | rfl | omega | assumption) | refine Pick.mk _ rfl ?_ | refine fun (bN : Nat) => ?_ | refine fun (zA : Bool) (bA : Bs) (cA : Nat) hA => ?_ | (intro x' hx''; obtain rfl := Option.some.inj (hx'.symm.trans hx''))
  exact ⟨.bool x.live, _, rfl, Tells.refl _, h⟩
theorem rlen_ob (rb : Bs) (z : Bool) (lb : Bs) (c : Nat) (L : List Ent) (hL : boundL L) (K : SV → SH → Prop) (h : K (.int .i64 (lenR L none)) (rfM 1 rb z lb c L)) : FnOb Try.prog 40 [.ptr 0 rb 0 0 0] (rfM 1 rb z lb c L) K := by
  apply FnOb.tidy
  apply en40
  (repeat' first | exact trivial | refine And.intro trivial ?_ | refine And.intro rfl ?_ | refine And.intro (one_flat (fun _ => rfl) _) ?_ | refine Fit.yes (by omega) ?_ | refine Fit.no ?_ | (refine And.intro (fun hc => ?_) (fun hc => ?_) <;> ((try simp only [Sy.nf, ne_eq, reduceCtorEq, eq_self] at hc); first | (exfalso; first | omega | exact absurd hc (by assumption) | exact absurd (by assumption) hc) | (with_reducible change True at hc; clear hc) | skip)) | refine And.intro (by first | omega | (simp only [Sy.lc, Sy.ll]; omega) | (simp only [Sy.lc] at *; omega)) ?_ | refine And.intro ?_ ?_ | exact rfl | (refine congrArg SV.bool (decide_eq_true ?_); first | rfl | omega | assumption) | refine Pick.mk _ rfl ?_ | refine fun (bN : Nat) => ?_ | refine fun (zA : Bool) (bA : Bs) (cA : Nat) hA => ?_); all_goals (try (conv => whnf)); (repeat' first | exact trivial | refine And.intro trivial ?_ | refine And.intro rfl ?_ | refine And.intro (one_flat (fun _ => rfl) _) ?_ | refine Fit.yes (by omega) ?_ | refine Fit.no ?_ | (refine And.intro (fun hc => ?_) (fun hc => ?_) <;> ((try simp only [Sy.nf, ne_eq, reduceCtorEq, eq_self] at hc); first | (exfalso; first | omega | exact absurd hc (by assumption) | exact absurd (by assumption) hc) | (with_reducible change True at hc; clear hc) | skip)) | refine And.intro (by first | omega | (simp only [Sy.lc, Sy.ll]; omega) | (simp only [Sy.lc] at *; omega)) ?_ | refine And.intro ?_ ?_ | exact rfl | (refine congrArg SV.bool (decide_eq_true ?_); first | rfl | omega | assumption) | refine Pick.mk _ rfl ?_ | refine fun (bN : Nat) => ?_ | refine fun (zA : Bool) (bA : Bs) (cA : Nat) hA => ?_)
  refine loop_st mixed (S := sch40) (by kernel_rfl) 35 (σ := Nat) (fun k => [(0, .ptr 0 rb 0 0 0), (3, .int .i64 ((List.range k).countP (regAt L none))), (4, .int .i64 k)]) (fun _ => rfM 1 rb z lb c L) (fun k => k ≤ L.length) (fun k => L.length - k) 0 rfl (by omega) ⟨rfl, rfl, rfl, trivial⟩ (Tells.refl _) ?_
  intro k J hk
  have hk : k ≤ L.length := hk
  have hlen := hL.1
  have hct : (List.range k).countP (regAt L none) ≤ k := Nat.le_trans List.countP_le_length (by simp)
  by_cases hd : k < L.length
  · obtain ⟨x, hx⟩ : ∃ x, L[k]? = some x := ⟨_, List.getElem?_eq_getElem hd⟩
    have hx' : L[0 + (k : Int).toNat]? = some x := by rw [show 0 + (k : Int).toNat = k by omega]; exact hx
    obtain ⟨b1, b2, b3, b4⟩ := hL.2 x (List.mem_of_getElem? hx)
    have hst : (List.range (k + 1)).countP (regAt L none) = (List.range k).countP (regAt L none) + if x.live then 1 else 0 := by
      rw [List.range_succ, List.countP_append, List.countP_singleton, regNone]
      unfold liveAt
      rw [hx]
    by_cases hl : x.live = true
    · have hl' : 0 < x.held + x.kids := by simpa [Ent.live] using hl
      rw [if_pos hl] at hst
      repeat' first | exact trivial | refine And.intro trivial ?_ | refine And.intro rfl ?_ | refine And.intro (one_flat (fun _ => rfl) _) ?_ | refine Fit.yes (by omega) ?_ | refine Fit.no ?_ | (refine And.intro (fun hc => ?_) (fun hc => ?_) <;> ((try simp only [Sy.nf, ne_eq, reduceCtorEq, eq_self] at hc); first | (exfalso; first | omega | exact absurd hc (by assumption) | exact absurd (by assumption) hc) | (with_reducible change True at hc; clear hc) | skip)) | refine And.intro (by first | omega | (simp only [Sy.lc, Sy.ll]; omega) | (simp only [Sy.lc] at *; omega)) ?_ | refine And.intro ?_ ?_ | exact rfl | (refine congrArg SV.bool (decide_eq_true ?_); first | rfl | omega | assumption) | refine Pick.mk _ rfl ?_ | refine fun (bN : Nat) => ?_ | refine fun (zA : Bool) (bA : Bs) (cA : Nat) hA => ?_ | (intro x' hx''; obtain rfl := Option.some.inj (hx'.symm.trans hx''))
      conv => whnf
      repeat' first | exact trivial | refine And.intro trivial ?_ | refine And.intro rfl ?_ | refine And.intro (one_flat (fun _ => rfl) _) ?_ | refine Fit.yes (by omega) ?_ | refine Fit.no ?_ | (refine And.intro (fun hc => ?_) (fun hc => ?_) <;> ((try simp only [Sy.nf, ne_eq, reduceCtorEq, eq_self] at hc); first | (exfalso; first | omega | exact absurd hc (by assumption) | exact absurd (by assumption) hc) | (with_reducible change True at hc; clear hc) | skip)) | refine And.intro (by first | omega | (simp only [Sy.lc, Sy.ll]; omega) | (simp only [Sy.lc] at *; omega)) ?_ | refine And.intro ?_ ?_ | exact rfl | (refine congrArg SV.bool (decide_eq_true ?_); first | rfl | omega | assumption) | refine Pick.mk _ rfl ?_ | refine fun (bN : Nat) => ?_ | refine fun (zA : Bool) (bA : Bs) (cA : Nat) hA => ?_ | (intro x' hx''; obtain rfl := Option.some.inj (hx'.symm.trans hx''))
      exact ⟨k + 1, (by first | omega | (dsimp only; omega) | (simp; omega)), (show k + 1 ≤ L.length from hd), rfl, ⟨rfl, den_intE (by rw [hst]; omega), rfl, trivial⟩, Tells.refl _⟩
    · have hl' : ¬ 0 < x.held + x.kids := by simpa [Ent.live] using hl
      rw [if_neg hl] at hst
      repeat' first | exact trivial | refine And.intro trivial ?_ | refine And.intro rfl ?_ | refine And.intro (one_flat (fun _ => rfl) _) ?_ | refine Fit.yes (by omega) ?_ | refine Fit.no ?_ | (refine And.intro (fun hc => ?_) (fun hc => ?_) <;> ((try simp only [Sy.nf, ne_eq, reduceCtorEq, eq_self] at hc); first | (exfalso; first | omega | exact absurd hc (by assumption) | exact absurd (by assumption) hc) | (with_reducible change True at hc; clear hc) | skip)) | refine And.intro (by first | omega | (simp only [Sy.lc, Sy.ll]; omega) | (simp only [Sy.lc] at *; omega)) ?_ | refine And.intro ?_ ?_ | exact rfl | (refine congrArg SV.bool (decide_eq_true ?_); first | rfl | omega | assumption) | refine Pick.mk _ rfl ?_ | refine fun (bN : Nat) => ?_ | refine fun (zA : Bool) (bA : Bs) (cA : Nat) hA => ?_ | (intro x' hx''; obtain rfl := Option.some.inj (hx'.symm.trans hx''))
      conv => whnf
      repeat' first | exact trivial | refine And.intro trivial ?_ | refine And.intro rfl ?_ | refine And.intro (one_flat (fun _ => rfl) _) ?_ | refine Fit.yes (by omega) ?_ | refine Fit.no ?_ | (refine And.intro (fun hc => ?_) (fun hc => ?_) <;> ((try simp only [Sy.nf, ne_eq, reduceCtorEq, eq_self] at hc); first | (exfalso; first | omega | exact absurd hc (by assumption) | exact absurd (by assumption) hc) | (with_reducible change True at hc; clear hc) | skip)) | refine And.intro (by first | omega | (simp only [Sy.lc, Sy.ll]; omega) | (simp only [Sy.lc] at *; omega)) ?_ | refine And.intro ?_ ?_ | exact rfl | (refine congrArg SV.bool (decide_eq_true ?_); first | rfl | omega | assumption) | refine Pick.mk _ rfl ?_ | refine fun (bN : Nat) => ?_ | refine fun (zA : Bool) (bA : Bs) (cA : Nat) hA => ?_ | (intro x' hx''; obtain rfl := Option.some.inj (hx'.symm.trans hx''))
      exact ⟨k + 1, (by first | omega | (dsimp only; omega) | (simp; omega)), (show k + 1 ≤ L.length from hd), rfl, ⟨rfl, den_intE (by rw [hst]; omega), rfl, trivial⟩, Tells.refl _⟩
  · obtain rfl : k = L.length := by omega
    (repeat' first | exact trivial | refine And.intro trivial ?_ | refine And.intro rfl ?_ | refine And.intro (one_flat (fun _ => rfl) _) ?_ | refine Fit.yes (by omega) ?_ | refine Fit.no ?_ | (refine And.intro (fun hc => ?_) (fun hc => ?_) <;> ((try simp only [Sy.nf, ne_eq, reduceCtorEq, eq_self] at hc); first | (exfalso; first | omega | exact absurd hc (by assumption) | exact absurd (by assumption) hc) | (with_reducible change True at hc; clear hc) | skip)) | refine And.intro (by first | omega | (simp only [Sy.lc, Sy.ll]; omega) | (simp only [Sy.lc] at *; omega)) ?_ | refine And.intro ?_ ?_ | exact rfl | (refine congrArg SV.bool (decide_eq_true ?_); first | rfl | omega | assumption) | refine Pick.mk _ rfl ?_ | refine fun (bN : Nat) => ?_ | refine fun (zA : Bool) (bA : Bs) (cA : Nat) hA => ?_); all_goals (try (conv => whnf)); (repeat' first | exact trivial | refine And.intro trivial ?_ | refine And.intro rfl ?_ | refine And.intro (one_flat (fun _ => rfl) _) ?_ | refine Fit.yes (by omega) ?_ | refine Fit.no ?_ | (refine And.intro (fun hc => ?_) (fun hc => ?_) <;> ((try simp only [Sy.nf, ne_eq, reduceCtorEq, eq_self] at hc); first | (exfalso; first | omega | exact absurd hc (by assumption) | exact absurd (by assumption) hc) | (with_reducible change True at hc; clear hc) | skip)) | refine And.intro (by first | omega | (simp only [Sy.lc, Sy.ll]; omega) | (simp only [Sy.lc] at *; omega)) ?_ | refine And.intro ?_ ?_ | exact rfl | (refine congrArg SV.bool (decide_eq_true ?_); first | rfl | omega | assumption) | refine Pick.mk _ rfl ?_ | refine fun (bN : Nat) => ?_ | refine fun (zA : Bool) (bA : Bs) (cA : Nat) hA => ?_)
    exact ⟨_, _, rfl, Tells.refl _, h⟩
theorem rcount_ob (rb : Bs) (z : Bool) (lb : Bs) (c : Nat) (L : List Ent) (hL : boundL L) (id : Int) {n e : Int} (hR : countA L id = (n, e)) (K : SV → SH → Prop) (h : K (.tup [.int .i64 n, .int .i64 e]) (rfM 1 rb z lb c L)) : FnOb Try.prog 39 [.ptr 0 rb 0 0 0, .int .i64 id] (rfM 1 rb z lb c L) K := by
  apply FnOb.tidy
  apply en39
  refine FnOb.call [0, 1] (rhas_ob rb z lb c L hL id _ ?_) (by decide) rfl rfl
  unfold countA at hR
  cases hh : hasB L id with
  | false =>
    rw [if_pos hh] at hR
    obtain ⟨rfl, rfl⟩ := Prod.mk.inj hR
    (repeat' first | exact trivial | refine And.intro trivial ?_ | refine And.intro rfl ?_ | refine And.intro (one_flat (fun _ => rfl) _) ?_ | refine Fit.yes (by omega) ?_ | refine Fit.no ?_ | (refine And.intro (fun hc => ?_) (fun hc => ?_) <;> ((try simp only [Sy.nf, ne_eq, reduceCtorEq, eq_self] at hc); first | (exfalso; first | omega | exact absurd hc (by assumption) | exact absurd (by assumption) hc) | (with_reducible change True at hc; clear hc) | skip)) | refine And.intro (by first | omega | (simp only [Sy.lc, Sy.ll]; omega) | (simp only [Sy.lc] at *; omega)) ?_ | refine And.intro ?_ ?_ | exact rfl | (refine congrArg SV.bool (decide_eq_true ?_); first | rfl | omega | assumption) | refine Pick.mk _ rfl ?_ | refine fun (bN : Nat) => ?_ | refine fun (zA : Bool) (bA : Bs) (cA : Nat) hA => ?_); all_goals (try (conv => whnf)); (repeat' first | exact trivial | refine And.intro trivial ?_ | refine And.intro rfl ?_ | refine And.intro (one_flat (fun _ => rfl) _) ?_ | refine Fit.yes (by omega) ?_ | refine Fit.no ?_ | (refine And.intro (fun hc => ?_) (fun hc => ?_) <;> ((try simp only [Sy.nf, ne_eq, reduceCtorEq, eq_self] at hc); first | (exfalso; first | omega | exact absurd hc (by assumption) | exact absurd (by assumption) hc) | (with_reducible change True at hc; clear hc) | skip)) | refine And.intro (by first | omega | (simp only [Sy.lc, Sy.ll]; omega) | (simp only [Sy.lc] at *; omega)) ?_ | refine And.intro ?_ ?_ | exact rfl | (refine congrArg SV.bool (decide_eq_true ?_); first | rfl | omega | assumption) | refine Pick.mk _ rfl ?_ | refine fun (bN : Nat) => ?_ | refine fun (zA : Bool) (bA : Bs) (cA : Nat) hA => ?_)
    exact ⟨_, _, rfl, Tells.refl _, h⟩
  | true =>
    rw [if_neg (by rw [hh]; simp)] at hR
    obtain ⟨k, x, rfl, hx, hxl, hg⟩ := hasB_some hh
    rw [hg] at hR
    obtain ⟨rfl, rfl⟩ := Prod.mk.inj hR
    have hkl := (List.getElem?_eq_some_iff.1 hx).1
    have hx' : L[0 + (k : Int).toNat]? = some x := by rw [show 0 + (k : Int).toNat = k by omega]; exact hx
    obtain ⟨b1, b2, b3, b4⟩ := hL.2 x (List.mem_of_getElem? hx)
    repeat' first | exact trivial | refine And.intro trivial ?_ | refine And.intro rfl ?_ | refine And.intro (one_flat (fun _ => rfl) _) ?_ | refine Fit.yes (by omega) ?_ | refine Fit.no ?_ | (refine And.intro (fun hc => ?_) (fun hc => ?_) <;> ((try simp only [Sy.nf, ne_eq, reduceCtorEq, eq_self] at hc); first | (exfalso; first | omega | exact absurd hc (by assumption) | exact absurd (by assumption) hc) | (with_reducible change True at hc; clear hc) | skip)) | refine And.intro (by first | omega | (simp only [Sy.lc, Sy.ll]; omega) | (simp only [Sy.lc] at *; omega)) ?_ | refine And.intro ?_ ?_ | exact rfl | (refine congrArg SV.bool (decide_eq_true ?_); first | rfl | omega | assumption) | refine Pick.mk _ rfl ?_ | refine fun (bN : Nat) => ?_ | refine fun (zA : Bool) (bA : Bs) (cA : Nat) hA => ?_ | (intro x' hx''; obtain rfl := Option.some.inj (hx'.symm.trans hx''))
    conv => whnf
    repeat' first | exact trivial | refine And.intro trivial ?_ | refine And.intro rfl ?_ | refine And.intro (one_flat (fun _ => rfl) _) ?_ | refine Fit.yes (by omega) ?_ | refine Fit.no ?_ | (refine And.intro (fun hc => ?_) (fun hc => ?_) <;> ((try simp only [Sy.nf, ne_eq, reduceCtorEq, eq_self] at hc); first | (exfalso; first | omega | exact absurd hc (by assumption) | exact absurd (by assumption) hc) | (with_reducible change True at hc; clear hc) | skip)) | refine And.intro (by first | omega | (simp only [Sy.lc, Sy.ll]; omega) | (simp only [Sy.lc] at *; omega)) ?_ | refine And.intro ?_ ?_ | exact rfl | (refine congrArg SV.bool (decide_eq_true ?_); first | rfl | omega | assumption) | refine Pick.mk _ rfl ?_ | refine fun (bN : Nat) => ?_ | refine fun (zA : Bool) (bA : Bs) (cA : Nat) hA => ?_ | (intro x' hx''; obtain rfl := Option.some.inj (hx'.symm.trans hx''))
    exact ⟨_, _, rfl, Tells.refl _, h⟩
theorem bumpH_set {L : List Ent} {k : Nat} {x : Ent} (hx : L[k]? = some x) (d : Int) : bumpH L k d = L.set k { x with held := x.held + d } := by
  unfold bumpH
  apply List.ext_getElem?
  intro j
  rw [List.getElem?_modify, List.getElem?_set]
  by_cases hj : k = j
  · subst hj
    rw [if_pos rfl, if_pos (List.getElem?_eq_some_iff.1 hx).1, hx]; simp
  · rw [if_neg hj]
    cases L[j]? with
    | none => rfl
    | some y => simp [hj]
theorem bumpK_set {L : List Ent} {k : Nat} {x : Ent} (hx : L[k]? = some x) (d : Int) : bumpK L k d = L.set k { x with kids := x.kids + d } := by
  unfold bumpK
  rw [if_neg (by omega), Int.toNat_natCast]
  apply List.ext_getElem?
  intro j
  rw [List.getElem?_modify, List.getElem?_set]
  by_cases hj : k = j
  · subst hj
    rw [if_pos rfl, if_pos (List.getElem?_eq_some_iff.1 hx).1, hx]; simp
  · rw [if_neg hj]
    cases L[j]? with
    | none => rfl
    | some y => simp [hj]
theorem rfM_set (h : Nat) (rb : Bs) (z : Bool) (lb : Bs) (c : Nat) (L : List Ent) (k : Nat) (x : Ent) : Tells [(rb, .lit [.sl h z lb 5 0 L.length c]), (lb, .vec z c cellsE 5 (L.set k x))] (rfM h rb z lb c (L.set k x)) :=
  Tells.pick [some 0, some 1] (by decide) ⟨Retell.lit (by rw [List.length_set]), Retell.refl _, rfl⟩
theorem rhold_ob (rb : Bs) (z : Bool) (lb : Bs) (c : Nat) (L : List Ent) (hL : boundL L) (id : Int) {e : Int} {L' : List Ent} (hR : holdA L id = (e, L')) (K : SV → SH → Prop) (h : K (.int .i64 e) (rfM 1 rb z lb c L')) : FnOb Try.prog 35 [.ptr 0 rb 0 0 0, .int .i64 id] (rfM 1 rb z lb c L) K := by
  apply FnOb.tidy
  apply en35
  refine FnOb.call [0, 1] (rhas_ob rb z lb c L hL id _ ?_) (by decide) rfl rfl
  unfold holdA at hR
  cases hh : hasB L id with
  | false =>
    rw [if_pos hh] at hR
    obtain ⟨rfl, rfl⟩ := Prod.mk.inj hR
    (repeat' first | exact trivial | refine And.intro trivial ?_ | refine And.intro rfl ?_ | refine And.intro (one_flat (fun _ => rfl) _) ?_ | refine Fit.yes (by omega) ?_ | refine Fit.no ?_ | (refine And.intro (fun hc => ?_) (fun hc => ?_) <;> ((try simp only [Sy.nf, ne_eq, reduceCtorEq, eq_self] at hc); first | (exfalso; first | omega | exact absurd hc (by assumption) | exact absurd (by assumption) hc) | (with_reducible change True at hc; clear hc) | skip)) | refine And.intro (by first | omega | (simp only [Sy.lc, Sy.ll]; omega) | (simp only [Sy.lc] at *; omega)) ?_ | refine And.intro ?_ ?_ | exact rfl | (refine congrArg SV.bool (decide_eq_true ?_); first | rfl | omega | assumption) | refine Pick.mk _ rfl ?_ | refine fun (bN : Nat) => ?_ | refine fun (zA : Bool) (bA : Bs) (cA : Nat) hA => ?_); all_goals (try (conv => whnf)); (repeat' first | exact trivial | refine And.intro trivial ?_ | refine And.intro rfl ?_ | refine And.intro (one_flat (fun _ => rfl) _) ?_ | refine Fit.yes (by omega) ?_ | refine Fit.no ?_ | (refine And.intro (fun hc => ?_) (fun hc => ?_) <;> ((try simp only [Sy.nf, ne_eq, reduceCtorEq, eq_self] at hc); first | (exfalso; first | omega | exact absurd hc (by assumption) | exact absurd (by assumption) hc) | (with_reducible change True at hc; clear hc) | skip)) | refine And.intro (by first | omega | (simp only [Sy.lc, Sy.ll]; omega) | (simp only [Sy.lc] at *; omega)) ?_ | refine And.intro ?_ ?_ | exact rfl | (refine congrArg SV.bool (decide_eq_true ?_); first | rfl | omega | assumption) | refine Pick.mk _ rfl ?_ | refine fun (bN : Nat) => ?_ | refine fun (zA : Bool) (bA : Bs) (cA : Nat) hA => ?_)
    exact ⟨_, _, rfl, Tells.refl _, h⟩
  | true =>
    rw [if_neg (by rw [hh]; simp)] at hR
    obtain ⟨k, x, rfl, hx, hxl, hg⟩ := hasB_some hh
    rw [Int.toNat_natCast] at hR
    obtain ⟨rfl, rfl⟩ := Prod.mk.inj hR
    have hkl := (List.getElem?_eq_some_iff.1 hx).1
    have hx' : L[0 + (k : Int).toNat]? = some x := by rw [show 0 + (k : Int).toNat = k by omega]; exact hx
    obtain ⟨b1, b2, b3, b4⟩ := hL.2 x (List.mem_of_getElem? hx)
    repeat' first | exact trivial | refine And.intro trivial ?_ | refine And.intro rfl ?_ | refine And.intro (one_flat (fun _ => rfl) _) ?_ | refine Fit.yes (by omega) ?_ | refine Fit.no ?_ | (refine And.intro (fun hc => ?_) (fun hc => ?_) <;> ((try simp only [Sy.nf, ne_eq, reduceCtorEq, eq_self] at hc); first | (exfalso; first | omega | exact absurd hc (by assumption) | exact absurd (by assumption) hc) | (with_reducible change True at hc; clear hc) | skip)) | refine And.intro (by first | omega | (simp only [Sy.lc, Sy.ll]; omega) | (simp only [Sy.lc] at *; omega)) ?_ | refine And.intro ?_ ?_ | exact rfl | (refine congrArg SV.bool (decide_eq_true ?_); first | rfl | omega | assumption) | refine Pick.mk _ rfl ?_ | refine fun (bN : Nat) => ?_ | refine fun (zA : Bool) (bA : Bs) (cA : Nat) hA => ?_ | (intro x' hx''; obtain rfl := Option.some.inj (hx'.symm.trans hx''))
    conv => whnf
    repeat' first | exact trivial | refine And.intro trivial ?_ | refine And.intro rfl ?_ | refine And.intro (one_flat (fun _ => rfl) _) ?_ | refine Fit.yes (by omega) ?_ | refine Fit.no ?_ | (refine And.intro (fun hc => ?_) (fun hc => ?_) <;> ((try simp only [Sy.nf, ne_eq, reduceCtorEq, eq_self] at hc); first | (exfalso; first | omega | exact absurd hc (by assumption) | exact absurd (by assumption) hc) | (with_reducible change True at hc; clear hc) | skip)) | refine And.intro (by first | omega | (simp only [Sy.lc, Sy.ll]; omega) | (simp only [Sy.lc] at *; omega)) ?_ | refine And.intro ?_ ?_ | exact rfl | (refine congrArg SV.bool (decide_eq_true ?_); first | rfl | omega | assumption) | refine Pick.mk _ rfl ?_ | refine fun (bN : Nat) => ?_ | refine fun (zA : Bool) (bA : Bs) (cA : Nat) hA => ?_ | (intro x' hx''; obtain rfl := Option.some.inj (hx'.symm.trans hx''))
    refine Pick.mk { x with held := x.held + 1 } rfl ?_
    (repeat' first | exact trivial | refine And.intro trivial ?_ | refine And.intro rfl ?_ | refine And.intro (one_flat (fun _ => rfl) _) ?_ | refine Fit.yes (by omega) ?_ | refine Fit.no ?_ | (refine And.intro (fun hc => ?_) (fun hc => ?_) <;> ((try simp only [Sy.nf, ne_eq, reduceCtorEq, eq_self] at hc); first | (exfalso; first | omega | exact absurd hc (by assumption) | exact absurd (by assumption) hc) | (with_reducible change True at hc; clear hc) | skip)) | refine And.intro (by first | omega | (simp only [Sy.lc, Sy.ll]; omega) | (simp only [Sy.lc] at *; omega)) ?_ | refine And.intro ?_ ?_ | exact rfl | (refine congrArg SV.bool (decide_eq_true ?_); first | rfl | omega | assumption) | refine Pick.mk _ rfl ?_ | refine fun (bN : Nat) => ?_ | refine fun (zA : Bool) (bA : Bs) (cA : Nat) hA => ?_); all_goals (try (conv => whnf)); (repeat' first | exact trivial | refine And.intro trivial ?_ | refine And.intro rfl ?_ | refine And.intro (one_flat (fun _ => rfl) _) ?_ | refine Fit.yes (by omega) ?_ | refine Fit.no ?_ | (refine And.intro (fun hc => ?_) (fun hc => ?_) <;> ((try simp only [Sy.nf, ne_eq, reduceCtorEq, eq_self] at hc); first | (exfalso; first | omega | exact absurd hc (by assumption) | exact absurd (by assumption) hc) | (with_reducible change True at hc; clear hc) | skip)) | refine And.intro (by first | omega | (simp only [Sy.lc, Sy.ll]; omega) | (simp only [Sy.lc] at *; omega)) ?_ | refine And.intro ?_ ?_ | exact rfl | (refine congrArg SV.bool (decide_eq_true ?_); first | rfl | omega | assumption) | refine Pick.mk _ rfl ?_ | refine fun (bN : Nat) => ?_ | refine fun (zA : Bool) (bA : Bs) (cA : Nat) hA => ?_)
    rw [bumpH_set hx] at h
    exact ⟨_, _, rfl, Tells.trans (H1 := [(rb, .lit [.sl 1 z lb 5 0 L.length c]), (lb, .vec z c cellsE 5 (L.set (0 + (k : Int).toNat) { x with held := x.held + 1 }))]) (Tells.refl _) (by rw [show 0 + (k : Int).toNat = k by omega]; exact rfM_set 1 rb z lb c L k _), h⟩
theorem rway_ob (rb : Bs) (z : Bool) (lb : Bs) (c : Nat) (L : List Ent) {N : Nat} (hw : WF L none N) (hN : N ≤ 1099511627776) (id : Int) {T : List (Int × Int)} {e : Int} (hR : wayA L id = (T, e)) (K : SV → SH → Prop)
    (h : ∀ oz ob oc, K (.tup [.sl 2 oz ob 2 0 T.length oc, .int .i64 e]) (rfM 1 rb z lb c L ++ [(ob, .vec oz oc enc2 2 T)])) : FnOb Try.prog 37 [.ptr 0 rb 0 0 0, .int .i64 id] (rfM 1 rb z lb c L) K := by
  have hL := boundL_of hw hN
  apply FnOb.tidy
  apply en37
  refine FnOb.call [0, 1] (rhas_ob rb z lb c L hL id _ ?_) (by decide) rfl rfl
  unfold wayA at hR
  cases hh : hasB L id with
  | false =>
    rw [if_pos hh] at hR
    obtain ⟨rfl, rfl⟩ := Prod.mk.inj hR
    have := h true ⟨0, 0⟩ 0
    (repeat' first | exact trivial | refine And.intro trivial ?_ | refine And.intro rfl ?_ | refine And.intro (one_flat (fun _ => rfl) _) ?_ | refine Fit.yes (by omega) ?_ | refine Fit.no ?_ | (refine And.intro (fun hc => ?_) (fun hc => ?_) <;> ((try simp only [Sy.nf, ne_eq, reduceCtorEq, eq_self] at hc); first | (exfalso; first | omega | exact absurd hc (by assumption) | exact absurd (by assumption) hc) | (with_reducible change True at hc; clear hc) | skip)) | refine And.intro (by first | omega | (simp only [Sy.lc, Sy.ll]; omega) | (simp only [Sy.lc] at *; omega)) ?_ | refine And.intro ?_ ?_ | exact rfl | (refine congrArg SV.bool (decide_eq_true ?_); first | rfl | omega | assumption) | refine Pick.mk _ rfl ?_ | refine fun (bN : Nat) => ?_ | refine fun (zA : Bool) (bA : Bs) (cA : Nat) hA => ?_); all_goals (try (conv => whnf)); (repeat' first | exact trivial | refine And.intro trivial ?_ | refine And.intro rfl ?_ | refine And.intro (one_flat (fun _ => rfl) _) ?_ | refine Fit.yes (by omega) ?_ | refine Fit.no ?_ | (refine And.intro (fun hc => ?_) (fun hc => ?_) <;> ((try simp only [Sy.nf, ne_eq, reduceCtorEq, eq_self] at hc); first | (exfalso; first | omega | exact absurd hc (by assumption) | exact absurd (by assumption) hc) | (with_reducible change True at hc; clear hc) | skip)) | refine And.intro (by first | omega | (simp only [Sy.lc, Sy.ll]; omega) | (simp only [Sy.lc] at *; omega)) ?_ | refine And.intro ?_ ?_ | exact rfl | (refine congrArg SV.bool (decide_eq_true ?_); first | rfl | omega | assumption) | refine Pick.mk _ rfl ?_ | refine fun (bN : Nat) => ?_ | refine fun (zA : Bool) (bA : Bs) (cA : Nat) hA => ?_)
    refine ⟨.tup [.sl 2 true ⟨0, 0⟩ 2 0 0 0, .int .i64 160], rfM 1 rb z lb c L ++ [(⟨0, 0⟩, .vec true 0 enc2 2 [])], rfl, ?_, this⟩
    exact Tells.pick [some 0, some 1, none] (by decide) ⟨Retell.refl _, Retell.refl _, Ghost.vec, rfl⟩
  | true =>
    rw [if_neg (by rw [hh]; simp)] at hR
    obtain ⟨k, x, rfl, hx, hxl, hg⟩ := hasB_some hh
    obtain ⟨rfl, rfl⟩ := Prod.mk.inj hR
    have hrg := hw.rng k x hx (by rw [regNone]; unfold liveAt; rw [hx]; exact hxl)
    have hul : (upA L k).length ≤ 1073741826 := by
      unfold upA
      rw [getE_of hx]
      exact Nat.le_trans (upF_len _ _ _) (by omega)
    (repeat' first | exact trivial | refine And.intro trivial ?_ | refine And.intro rfl ?_ | refine And.intro (one_flat (fun _ => rfl) _) ?_ | refine Fit.yes (by omega) ?_ | refine Fit.no ?_ | (refine And.intro (fun hc => ?_) (fun hc => ?_) <;> ((try simp only [Sy.nf, ne_eq, reduceCtorEq, eq_self] at hc); first | (exfalso; first | omega | exact absurd hc (by assumption) | exact absurd (by assumption) hc) | (with_reducible change True at hc; clear hc) | skip)) | refine And.intro (by first | omega | (simp only [Sy.lc, Sy.ll]; omega) | (simp only [Sy.lc] at *; omega)) ?_ | refine And.intro ?_ ?_ | exact rfl | (refine congrArg SV.bool (decide_eq_true ?_); first | rfl | omega | assumption) | refine Pick.mk _ rfl ?_ | refine fun (bN : Nat) => ?_ | refine fun (zA : Bool) (bA : Bs) (cA : Nat) hA => ?_); all_goals (try (conv => whnf)); (repeat' first | exact trivial | refine And.intro trivial ?_ | refine And.intro rfl ?_ | refine And.intro (one_flat (fun _ => rfl) _) ?_ | refine Fit.yes (by omega) ?_ | refine Fit.no ?_ | (refine And.intro (fun hc => ?_) (fun hc => ?_) <;> ((try simp only [Sy.nf, ne_eq, reduceCtorEq, eq_self] at hc); first | (exfalso; first | omega | exact absurd hc (by assumption) | exact absurd (by assumption) hc) | (with_reducible change True at hc; clear hc) | skip)) | refine And.intro (by first | omega | (simp only [Sy.lc, Sy.ll]; omega) | (simp only [Sy.lc] at *; omega)) ?_ | refine And.intro ?_ ?_ | exact rfl | (refine congrArg SV.bool (decide_eq_true ?_); first | rfl | omega | assumption) | refine Pick.mk _ rfl ?_ | refine fun (bN : Nat) => ?_ | refine fun (zA : Bool) (bA : Bs) (cA : Nat) hA => ?_)
    refine loop_st mixed (S := sch37) (by kernel_rfl) 42 (σ := Int × List (Int × Int) × Bool × Bs × Nat) (fun (id, T, oz, ob, oc) => [(0, .ptr 0 rb 0 0 0), (1, .int .i64 id), (6, .sl 2 oz ob 2 0 T.length oc)]) (fun (id, T, oz, ob, oc) => rfM 1 rb z lb c L ++ [(ob, .vec oz oc enc2 2 T)])
      (fun (id, T, _) => (id = -1 ∧ T.reverse = upA L k) ∨ ∃ (j : Nat) (y : Ent), id = j ∧ L[j]? = some y ∧ y.live = true ∧ T.reverse ++ upA L j = upA L k) (fun (id, _) => if id = -1 then 0 else ((getE L id).place + 1).toNat) ((k : Int), [], true, ⟨0, 0⟩, 0) rfl (.inr ⟨k, x, rfl, hx, hxl, rfl⟩) ⟨rfl, rfl, rfl, trivial⟩
      (Tells.pick [some 0, some 1, none] (by decide) ⟨Retell.refl _, Retell.refl _, Ghost.vec, rfl⟩) ?_
    intro ⟨id, T, oz, ob, oc⟩ J hok
    rcases hok with ⟨hid, hT⟩ | ⟨j, y, hid, hy, hyl, hT⟩
    · subst hid
      have hTe : (upA L k).reverse = T := by rw [← hT, List.reverse_reverse]
      rw [hTe] at h
      have := h oz ob oc
      (repeat' first | exact trivial | refine And.intro trivial ?_ | refine And.intro rfl ?_ | refine And.intro (one_flat (fun _ => rfl) _) ?_ | refine Fit.yes (by omega) ?_ | refine Fit.no ?_ | (refine And.intro (fun hc => ?_) (fun hc => ?_) <;> ((try simp only [Sy.nf, ne_eq, reduceCtorEq, eq_self] at hc); first | (exfalso; first | omega | exact absurd hc (by assumption) | exact absurd (by assumption) hc) | (with_reducible change True at hc; clear hc) | skip)) | refine And.intro (by first | omega | (simp only [Sy.lc, Sy.ll]; omega) | (simp only [Sy.lc] at *; omega)) ?_ | refine And.intro ?_ ?_ | exact rfl | (refine congrArg SV.bool (decide_eq_true ?_); first | rfl | omega | assumption) | refine Pick.mk _ rfl ?_ | refine fun (bN : Nat) => ?_ | refine fun (zA : Bool) (bA : Bs) (cA : Nat) hA => ?_); all_goals (try (conv => whnf)); (repeat' first | exact trivial | refine And.intro trivial ?_ | refine And.intro rfl ?_ | refine And.intro (one_flat (fun _ => rfl) _) ?_ | refine Fit.yes (by omega) ?_ | refine Fit.no ?_ | (refine And.intro (fun hc => ?_) (fun hc => ?_) <;> ((try simp only [Sy.nf, ne_eq, reduceCtorEq, eq_self] at hc); first | (exfalso; first | omega | exact absurd hc (by assumption) | exact absurd (by assumption) hc) | (with_reducible change True at hc; clear hc) | skip)) | refine And.intro (by first | omega | (simp only [Sy.lc, Sy.ll]; omega) | (simp only [Sy.lc] at *; omega)) ?_ | refine And.intro ?_ ?_ | exact rfl | (refine congrArg SV.bool (decide_eq_true ?_); first | rfl | omega | assumption) | refine Pick.mk _ rfl ?_ | refine fun (bN : Nat) => ?_ | refine fun (zA : Bool) (bA : Bs) (cA : Nat) hA => ?_)
      exact ⟨_, _, rfl, Tells.refl _, this⟩
    · subst hid
      have hjl := (List.getElem?_eq_some_iff.1 hy).1
      have hjr : regAt L none j = true := by rw [regNone]; unfold liveAt; rw [hy]; exact hyl
      have hyr := hw.rng j y hy hjr
      have hyp := hw.par j y hy hjr
      have hstep := upA_step hw hy hyl
      have hTl : T.length ≤ 1073741826 := by
        have := congrArg List.length hT
        rw [List.length_append, List.length_reverse] at this
        omega
      have hy' : L[0 + (j : Int).toNat]? = some y := by rw [show 0 + (j : Int).toNat = j by omega]; exact hy
      repeat' first | exact trivial | refine And.intro trivial ?_ | refine And.intro rfl ?_ | refine And.intro (one_flat (fun _ => rfl) _) ?_ | refine Fit.yes (by omega) ?_ | refine Fit.no ?_ | (refine And.intro (fun hc => ?_) (fun hc => ?_) <;> ((try simp only [Sy.nf, ne_eq, reduceCtorEq, eq_self] at hc); first | (exfalso; first | omega | exact absurd hc (by assumption) | exact absurd (by assumption) hc) | (with_reducible change True at hc; clear hc) | skip)) | refine And.intro (by first | omega | (simp only [Sy.lc, Sy.ll]; omega) | (simp only [Sy.lc] at *; omega)) ?_ | refine And.intro ?_ ?_ | exact rfl | (refine congrArg SV.bool (decide_eq_true ?_); first | rfl | omega | assumption) | refine Pick.mk _ rfl ?_ | refine fun (bN : Nat) => ?_ | refine fun (zA : Bool) (bA : Bs) (cA : Nat) hA => ?_ | (intro x' hx''; obtain rfl := Option.some.inj (hy'.symm.trans hx''))
      conv => whnf
      repeat' first | exact trivial | refine And.intro trivial ?_ | refine And.intro rfl ?_ | refine And.intro (one_flat (fun _ => rfl) _) ?_ | refine Fit.yes (by omega) ?_ | refine Fit.no ?_ | (refine And.intro (fun hc => ?_) (fun hc => ?_) <;> ((try simp only [Sy.nf, ne_eq, reduceCtorEq, eq_self] at hc); first | (exfalso; first | omega | exact absurd hc (by assumption) | exact absurd (by assumption) hc) | (with_reducible change True at hc; clear hc) | skip)) | refine And.intro (by first | omega | (simp only [Sy.lc, Sy.ll]; omega) | (simp only [Sy.lc] at *; omega)) ?_ | refine And.intro ?_ ?_ | exact rfl | (refine congrArg SV.bool (decide_eq_true ?_); first | rfl | omega | assumption) | refine Pick.mk _ rfl ?_ | refine fun (bN : Nat) => ?_ | refine fun (zA : Bool) (bA : Bs) (cA : Nat) hA => ?_ | (intro x' hx''; obtain rfl := Option.some.inj (hy'.symm.trans hx''))
      refine ⟨Int × Int, enc2, [(y.stage, y.place)], rfl, rfl, by simp, ?_⟩
      refine ⟨T, by rw [List.drop_zero, List.take_length], fun _ _ => rfl, ?_⟩
      repeat' first | exact trivial | refine And.intro trivial ?_ | refine And.intro rfl ?_ | refine And.intro (one_flat (fun _ => rfl) _) ?_ | refine Fit.yes (by omega) ?_ | refine Fit.no ?_ | (refine And.intro (fun hc => ?_) (fun hc => ?_) <;> ((try simp only [Sy.nf, ne_eq, reduceCtorEq, eq_self] at hc); first | (exfalso; first | omega | exact absurd hc (by assumption) | exact absurd (by assumption) hc) | (with_reducible change True at hc; clear hc) | skip)) | refine And.intro (by first | omega | (simp only [Sy.lc, Sy.ll]; omega) | (simp only [Sy.lc] at *; omega)) ?_ | refine And.intro ?_ ?_ | exact rfl | (refine congrArg SV.bool (decide_eq_true ?_); first | rfl | omega | assumption) | refine Pick.mk _ rfl ?_ | refine fun (bN : Nat) => ?_ | refine fun (zA : Bool) (bA : Bs) (cA : Nat) hA => ?_ | (intro x' hx''; obtain rfl := Option.some.inj (hy'.symm.trans hx''))
      conv => whnf
      repeat' first | exact trivial | refine And.intro trivial ?_ | refine And.intro rfl ?_ | refine And.intro (one_flat (fun _ => rfl) _) ?_ | refine Fit.yes (by omega) ?_ | refine Fit.no ?_ | (refine And.intro (fun hc => ?_) (fun hc => ?_) <;> ((try simp only [Sy.nf, ne_eq, reduceCtorEq, eq_self] at hc); first | (exfalso; first | omega | exact absurd hc (by assumption) | exact absurd (by assumption) hc) | (with_reducible change True at hc; clear hc) | skip)) | refine And.intro (by first | omega | (simp only [Sy.lc, Sy.ll]; omega) | (simp only [Sy.lc] at *; omega)) ?_ | refine And.intro ?_ ?_ | exact rfl | (refine congrArg SV.bool (decide_eq_true ?_); first | rfl | omega | assumption) | refine Pick.mk _ rfl ?_ | refine fun (bN : Nat) => ?_ | refine fun (zA : Bool) (bA : Bs) (cA : Nat) hA => ?_ | (intro x' hx''; obtain rfl := Option.some.inj (hy'.symm.trans hx''))
      have hmes : (if ((j : Nat) : Int) = -1 then 0 else ((getE L (j : Int)).place + 1).toNat) = (y.place + 1).toNat := by rw [if_neg (by omega), getE_of hy]
      have hT2 : ([(y.stage, y.place)] ++ T).reverse = T.reverse ++ [(y.stage, y.place)] := by simp
      rcases hyp with hp | ⟨p, q, hp, hq, hpl⟩
      · rw [hstep, if_pos hp] at hT
        refine ⟨(y.parent, [(y.stage, y.place)] ++ T, zA, bA, cA), (by show (if y.parent = -1 then 0 else _) < (if ((j : Nat) : Int) = -1 then 0 else _); rw [hmes, if_pos hp]; omega), .inl ⟨hp, by show ([(y.stage, y.place)] ++ T).reverse = _; rw [hT2]; exact hT⟩, rfl, ⟨rfl, rfl, rfl, trivial⟩, by (refine Tells.pick [some 0, some 1, some 3] (by decide) ?_; repeat' first | exact rfl | exact Retell.refl _ | exact Retell.lit rfl | exact Retell.rows | exact Ghost.vec | exact Ghost.win | refine And.intro ?_ ?_)⟩
      · have hql := (hw.parReg hy hjr hp hq).1
        have hqr := hw.rng p q hq (by rw [regNone]; unfold liveAt; rw [hq]; exact hql)
        rw [hstep, if_neg (by omega), hp] at hT
        refine ⟨(y.parent, [(y.stage, y.place)] ++ T, zA, bA, cA), (by show (if y.parent = -1 then 0 else ((getE L y.parent).place + 1).toNat) < (if ((j : Nat) : Int) = -1 then 0 else _); rw [hmes, hp, if_neg (by omega), getE_of hq]; omega), .inr ⟨p, q, hp, hq, hql, by show ([(y.stage, y.place)] ++ T).reverse ++ _ = _; rw [hT2, ← hT]; simp⟩, rfl, ⟨rfl, rfl, rfl, trivial⟩, by (refine Tells.pick [some 0, some 1, some 3] (by decide) ?_; repeat' first | exact rfl | exact Retell.refl _ | exact Retell.lit rfl | exact Retell.rows | exact Ghost.vec | exact Ghost.win | refine And.intro ?_ ?_)⟩
end Go.Proofs.Ythimgonpkhoodaa

/- The document's buffer: dropped. Own work. -/
import Derived.Test.YthimgonpkhoodaaX1
namespace Go.Proofs.Ythimgonpkhoodaa
open Go Go.Sy Go.Bu
set_option maxRecDepth 100000
set_option linter.unusedVariables false
set_option linter.unusedSimpArgs false
set_option maxHeartbeats 4000000
theorem rdrop_ob (rb : Bs) (z : Bool) (lb : Bs) (c : Nat) (L : List Ent) {N : Nat} (hw : WF L none N) (hN : N ≤ 1099511627776) (id : Int) {v e : Int} {L' : List Ent} (hR : dropA L id = ((v, e), L')) (K : SV → SH → Prop)
    (h : K (.tup [.int .i64 v, .int .i64 e]) (rfM 1 rb z lb c L')) : FnOb Try.prog 36 [.ptr 0 rb 0 0 0, .int .i64 id] (rfM 1 rb z lb c L) K := by
  have hL := boundL_of hw hN
  apply FnOb.tidy
  apply en36
  refine FnOb.call [0, 1] (rhas_ob rb z lb c L hL id _ ?_) (by decide) rfl rfl
  unfold dropA at hR
  cases hh : hasB L id with
  | false =>
    rw [if_pos hh] at hR
    simp only [Prod.mk.injEq] at hR
    obtain ⟨⟨rfl, rfl⟩, rfl⟩ := hR
    (repeat' first | exact trivial | refine And.intro trivial ?_ | refine And.intro rfl ?_ | refine And.intro (one_flat (fun _ => rfl) _) ?_ | refine Fit.yes (by omega) ?_ | refine Fit.no ?_ | (refine And.intro (fun hc => ?_) (fun hc => ?_) <;> ((try simp only [Sy.nf, ne_eq, reduceCtorEq, eq_self] at hc); first | (exfalso; first | omega | exact absurd hc (by assumption) | exact absurd (by assumption) hc) | (with_reducible change True at hc; clear hc) | skip)) | refine And.intro (by first | omega | (simp only [Sy.lc, Sy.ll]; omega) | (simp only [Sy.lc] at *; omega)) ?_ | refine And.intro ?_ ?_ | exact rfl | (refine congrArg SV.bool (decide_eq_true ?_); first | rfl | omega | assumption) | refine Pick.mk _ rfl ?_ | refine fun (bN : Nat) => ?_ | refine fun (zA : Bool) (bA : Bs) (cA : Nat) hA => ?_); all_goals (try (conv => whnf)); (repeat' first | exact trivial | refine And.intro trivial ?_ | refine And.intro rfl ?_ | refine And.intro (one_flat (fun _ => rfl) _) ?_ | refine Fit.yes (by omega) ?_ | refine Fit.no ?_ | (refine And.intro (fun hc => ?_) (fun hc => ?_) <;> ((try simp only [Sy.nf, ne_eq, reduceCtorEq, eq_self] at hc); first | (exfalso; first | omega | exact absurd hc (by assumption) | exact absurd (by assumption) hc) | (with_reducible change True at hc; clear hc) | skip)) | refine And.intro (by first | omega | (simp only [Sy.lc, Sy.ll]; omega) | (simp only [Sy.lc] at *; omega)) ?_ | refine And.intro ?_ ?_ | exact rfl | (refine congrArg SV.bool (decide_eq_true ?_); first | rfl | omega | assumption) | refine Pick.mk _ rfl ?_ | refine fun (bN : Nat) => ?_ | refine fun (zA : Bool) (bA : Bs) (cA : Nat) hA => ?_)
    exact ⟨_, _, rfl, Tells.refl _, h⟩
  | true =>
    rw [if_neg (by rw [hh]; simp)] at hR
    obtain ⟨k, x, rfl, hx, hxl, hg⟩ := hasB_some hh
    rw [hg, Int.toNat_natCast] at hR
    have hkl := (List.getElem?_eq_some_iff.1 hx).1
    have hx' : L[0 + (k : Int).toNat]? = some x := by rw [show 0 + (k : Int).toNat = k by omega]; exact hx
    obtain ⟨b1, b2, b3, b4⟩ := hL.2 x (List.mem_of_getElem? hx)
    by_cases h0 : x.held = 0
    · rw [if_pos h0] at hR
      simp only [Prod.mk.injEq] at hR
      obtain ⟨⟨rfl, rfl⟩, rfl⟩ := hR
      repeat' first | exact trivial | refine And.intro trivial ?_ | refine And.intro rfl ?_ | refine And.intro (one_flat (fun _ => rfl) _) ?_ | refine Fit.yes (by omega) ?_ | refine Fit.no ?_ | (refine And.intro (fun hc => ?_) (fun hc => ?_) <;> ((try simp only [Sy.nf, ne_eq, reduceCtorEq, eq_self] at hc); first | (exfalso; first | omega | exact absurd hc (by assumption) | exact absurd (by assumption) hc) | (with_reducible change True at hc; clear hc) | skip)) | refine And.intro (by first | omega | (simp only [Sy.lc, Sy.ll]; omega) | (simp only [Sy.lc] at *; omega)) ?_ | refine And.intro ?_ ?_ | exact rfl | (refine congrArg SV.bool (decide_eq_true ?_); first | rfl | omega | assumption) | refine Pick.mk _ rfl ?_ | refine fun (bN : Nat) => ?_ | refine fun (zA : Bool) (bA : Bs) (cA : Nat) hA => ?_ | (intro x' hx''; obtain rfl := Option.some.inj (hx'.symm.trans hx''))
      conv => whnf
      repeat' first | exact trivial | refine And.intro trivial ?_ | refine And.intro rfl ?_ | refine And.intro (one_flat (fun _ => rfl) _) ?_ | refine Fit.yes (by omega) ?_ | refine Fit.no ?_ | (refine And.intro (fun hc => ?_) (fun hc => ?_) <;> ((try simp only [Sy.nf, ne_eq, reduceCtorEq, eq_self] at hc); first | (exfalso; first | omega | exact absurd hc (by assumption) | exact absurd (by assumption) hc) | (with_reducible change True at hc; clear hc) | skip)) | refine And.intro (by first | omega | (simp only [Sy.lc, Sy.ll]; omega) | (simp only [Sy.lc] at *; omega)) ?_ | refine And.intro ?_ ?_ | exact rfl | (refine congrArg SV.bool (decide_eq_true ?_); first | rfl | omega | assumption) | refine Pick.mk _ rfl ?_ | refine fun (bN : Nat) => ?_ | refine fun (zA : Bool) (bA : Bs) (cA : Nat) hA => ?_ | (intro x' hx''; obtain rfl := Option.some.inj (hx'.symm.trans hx''))
      exact ⟨_, _, rfl, Tells.refl _, h⟩
    rw [if_neg h0] at hR
    simp only [Prod.mk.injEq] at hR
    obtain ⟨⟨rfl, rfl⟩, rfl⟩ := hR
    have hkr : regAt L none k = true := by rw [regNone]; unfold liveAt; rw [hx]; exact hxl
    have hrg := hw.rng k x hx hkr
    have hhe := hw.held k x hx
    obtain ⟨hw1, _, _, _, hget⟩ := hw.bump (d := -1) (N' := N) (cur' := some k) hx ⟨by omega, by omega⟩ (Nat.le_refl _) (fun j hj => (Option.some.inj hj).symm) (by simp) hkr (.inr rfl)
    have hx1 : (bumpH L k (-1))[k]? = some { x with held := x.held + -1 } := by rw [hget, hx]; simp
    have hG := reapF_le (x.place + 2).toNat (bumpH L k (-1)) k
    repeat' first | exact trivial | refine And.intro trivial ?_ | refine And.intro rfl ?_ | refine And.intro (one_flat (fun _ => rfl) _) ?_ | refine Fit.yes (by omega) ?_ | refine Fit.no ?_ | (refine And.intro (fun hc => ?_) (fun hc => ?_) <;> ((try simp only [Sy.nf, ne_eq, reduceCtorEq, eq_self] at hc); first | (exfalso; first | omega | exact absurd hc (by assumption) | exact absurd (by assumption) hc) | (with_reducible change True at hc; clear hc) | skip)) | refine And.intro (by first | omega | (simp only [Sy.lc, Sy.ll]; omega) | (simp only [Sy.lc] at *; omega)) ?_ | refine And.intro ?_ ?_ | exact rfl | (refine congrArg SV.bool (decide_eq_true ?_); first | rfl | omega | assumption) | refine Pick.mk _ rfl ?_ | refine fun (bN : Nat) => ?_ | refine fun (zA : Bool) (bA : Bs) (cA : Nat) hA => ?_ | (intro x' hx''; obtain rfl := Option.some.inj (hx'.symm.trans hx''))
    conv => whnf
    repeat' first | exact trivial | refine And.intro trivial ?_ | refine And.intro rfl ?_ | refine And.intro (one_flat (fun _ => rfl) _) ?_ | refine Fit.yes (by omega) ?_ | refine Fit.no ?_ | (refine And.intro (fun hc => ?_) (fun hc => ?_) <;> ((try simp only [Sy.nf, ne_eq, reduceCtorEq, eq_self] at hc); first | (exfalso; first | omega | exact absurd hc (by assumption) | exact absurd (by assumption) hc) | (with_reducible change True at hc; clear hc) | skip)) | refine And.intro (by first | omega | (simp only [Sy.lc, Sy.ll]; omega) | (simp only [Sy.lc] at *; omega)) ?_ | refine And.intro ?_ ?_ | exact rfl | (refine congrArg SV.bool (decide_eq_true ?_); first | rfl | omega | assumption) | refine Pick.mk _ rfl ?_ | refine fun (bN : Nat) => ?_ | refine fun (zA : Bool) (bA : Bs) (cA : Nat) hA => ?_ | (intro x' hx''; obtain rfl := Option.some.inj (hx'.symm.trans hx''))
    refine Pick.mk { x with held := x.held + -1 } rfl ?_
    (repeat' first | exact trivial | refine And.intro trivial ?_ | refine And.intro rfl ?_ | refine And.intro (one_flat (fun _ => rfl) _) ?_ | refine Fit.yes (by omega) ?_ | refine Fit.no ?_ | (refine And.intro (fun hc => ?_) (fun hc => ?_) <;> ((try simp only [Sy.nf, ne_eq, reduceCtorEq, eq_self] at hc); first | (exfalso; first | omega | exact absurd hc (by assumption) | exact absurd (by assumption) hc) | (with_reducible change True at hc; clear hc) | skip)) | refine And.intro (by first | omega | (simp only [Sy.lc, Sy.ll]; omega) | (simp only [Sy.lc] at *; omega)) ?_ | refine And.intro ?_ ?_ | exact rfl | (refine congrArg SV.bool (decide_eq_true ?_); first | rfl | omega | assumption) | refine Pick.mk _ rfl ?_ | refine fun (bN : Nat) => ?_ | refine fun (zA : Bool) (bA : Bs) (cA : Nat) hA => ?_); all_goals (try (conv => whnf)); (repeat' first | exact trivial | refine And.intro trivial ?_ | refine And.intro rfl ?_ | refine And.intro (one_flat (fun _ => rfl) _) ?_ | refine Fit.yes (by omega) ?_ | refine Fit.no ?_ | (refine And.intro (fun hc => ?_) (fun hc => ?_) <;> ((try simp only [Sy.nf, ne_eq, reduceCtorEq, eq_self] at hc); first | (exfalso; first | omega | exact absurd hc (by assumption) | exact absurd (by assumption) hc) | (with_reducible change True at hc; clear hc) | skip)) | refine And.intro (by first | omega | (simp only [Sy.lc, Sy.ll]; omega) | (simp only [Sy.lc] at *; omega)) ?_ | refine And.intro ?_ ?_ | exact rfl | (refine congrArg SV.bool (decide_eq_true ?_); first | rfl | omega | assumption) | refine Pick.mk _ rfl ?_ | refine fun (bN : Nat) => ?_ | refine fun (zA : Bool) (bA : Bs) (cA : Nat) hA => ?_)
    refine loop_st mixed (S := sch36) (by kernel_rfl) 77 (σ := Int × Nat × List Ent × Nat) (fun (id, gone, M, fuel) => [(0, .ptr 0 rb 0 0 0), (1, .int .i64 id), (6, .int .i64 gone)]) (fun (id, gone, M, fuel) => rfM 1 rb z lb c M)
      (fun (id, gone, M, fuel) => (id = -1 ∧ gone = (reapF (x.place + 2).toNat (bumpH L k (-1)) k).1 ∧ M = (reapF (x.place + 2).toNat (bumpH L k (-1)) k).2) ∨ ∃ (j : Nat) (y : Ent), id = j ∧ M[j]? = some y ∧ WF M (some j) N ∧ gone + (reapF fuel M j).1 = (reapF (x.place + 2).toNat (bumpH L k (-1)) k).1 ∧ (reapF fuel M j).2 = (reapF (x.place + 2).toNat (bumpH L k (-1)) k).2 ∧ (y.place + 2).toNat ≤ fuel)
      (fun (id, gone, M, fuel) => if id = -1 then 0 else fuel) ((k : Int), 0, bumpH L k (-1), (x.place + 2).toNat) rfl (.inr ⟨k, _, rfl, hx1, hw1, by omega, rfl, Nat.le_refl _⟩) ⟨rfl, rfl, rfl, trivial⟩
      (Tells.trans (H1 := [(rb, .lit [.sl 1 z lb 5 0 L.length c]), (lb, .vec z c cellsE 5 (L.set (0 + (k : Int).toNat) { x with held := x.held + -1 }))]) (Tells.refl _) (by rw [show 0 + (k : Int).toNat = k by omega, bumpH_set hx]; exact rfM_set 1 rb z lb c L k _)) ?_
    intro ⟨id, gone, M, fuel⟩ J hok
    rcases hok with ⟨hid, hg1, hM⟩ | ⟨j, y, hid, hy, hwM, hg1, hM, hfu⟩
    · subst hid; subst hg1; subst hM
      (repeat' first | exact trivial | refine And.intro trivial ?_ | refine And.intro rfl ?_ | refine And.intro (one_flat (fun _ => rfl) _) ?_ | refine Fit.yes (by omega) ?_ | refine Fit.no ?_ | (refine And.intro (fun hc => ?_) (fun hc => ?_) <;> ((try simp only [Sy.nf, ne_eq, reduceCtorEq, eq_self] at hc); first | (exfalso; first | omega | exact absurd hc (by assumption) | exact absurd (by assumption) hc) | (with_reducible change True at hc; clear hc) | skip)) | refine And.intro (by first | omega | (simp only [Sy.lc, Sy.ll]; omega) | (simp only [Sy.lc] at *; omega)) ?_ | refine And.intro ?_ ?_ | exact rfl | (refine congrArg SV.bool (decide_eq_true ?_); first | rfl | omega | assumption) | refine Pick.mk _ rfl ?_ | refine fun (bN : Nat) => ?_ | refine fun (zA : Bool) (bA : Bs) (cA : Nat) hA => ?_); all_goals (try (conv => whnf)); (repeat' first | exact trivial | refine And.intro trivial ?_ | refine And.intro rfl ?_ | refine And.intro (one_flat (fun _ => rfl) _) ?_ | refine Fit.yes (by omega) ?_ | refine Fit.no ?_ | (refine And.intro (fun hc => ?_) (fun hc => ?_) <;> ((try simp only [Sy.nf, ne_eq, reduceCtorEq, eq_self] at hc); first | (exfalso; first | omega | exact absurd hc (by assumption) | exact absurd (by assumption) hc) | (with_reducible change True at hc; clear hc) | skip)) | refine And.intro (by first | omega | (simp only [Sy.lc, Sy.ll]; omega) | (simp only [Sy.lc] at *; omega)) ?_ | refine And.intro ?_ ?_ | exact rfl | (refine congrArg SV.bool (decide_eq_true ?_); first | rfl | omega | assumption) | refine Pick.mk _ rfl ?_ | refine fun (bN : Nat) => ?_ | refine fun (zA : Bool) (bA : Bs) (cA : Nat) hA => ?_)
      exact ⟨_, _, rfl, Tells.refl _, h⟩
    · subst hid
      have hLM := boundL_of hwM hN
      have hjl := (List.getElem?_eq_some_iff.1 hy).1
      obtain ⟨c1, c2, c3, c4⟩ := hLM.2 y (List.mem_of_getElem? hy)
      have hy' : M[0 + (j : Int).toNat]? = some y := by rw [show 0 + (j : Int).toNat = j by omega]; exact hy
      have hyr := hwM.rng j y hy (by unfold regAt; simp)
      have hyp := hwM.par j y hy (by unfold regAt; simp)
      obtain ⟨n, rfl⟩ : ∃ n, fuel = n + 1 := ⟨fuel - 1, by omega⟩
      cases hyl : y.live with
      | true =>
        have hyl' : 0 < y.held + y.kids := by simpa [Ent.live] using hyl
        rw [reapF_stop hy hyl] at hg1 hM
        dsimp only at hg1 hM
        subst hM
        rw [← hg1, Nat.add_zero] at h
        repeat' first | exact trivial | refine And.intro trivial ?_ | refine And.intro rfl ?_ | refine And.intro (one_flat (fun _ => rfl) _) ?_ | refine Fit.yes (by omega) ?_ | refine Fit.no ?_ | (refine And.intro (fun hc => ?_) (fun hc => ?_) <;> ((try simp only [Sy.nf, ne_eq, reduceCtorEq, eq_self] at hc); first | (exfalso; first | omega | exact absurd hc (by assumption) | exact absurd (by assumption) hc) | (with_reducible change True at hc; clear hc) | skip)) | refine And.intro (by first | omega | (simp only [Sy.lc, Sy.ll]; omega) | (simp only [Sy.lc] at *; omega)) ?_ | refine And.intro ?_ ?_ | exact rfl | (refine congrArg SV.bool (decide_eq_true ?_); first | rfl | omega | assumption) | refine Pick.mk _ rfl ?_ | refine fun (bN : Nat) => ?_ | refine fun (zA : Bool) (bA : Bs) (cA : Nat) hA => ?_ | (intro x' hx''; obtain rfl := Option.some.inj (hy'.symm.trans hx''))
        conv => whnf
        repeat' first | exact trivial | refine And.intro trivial ?_ | refine And.intro rfl ?_ | refine And.intro (one_flat (fun _ => rfl) _) ?_ | refine Fit.yes (by omega) ?_ | refine Fit.no ?_ | (refine And.intro (fun hc => ?_) (fun hc => ?_) <;> ((try simp only [Sy.nf, ne_eq, reduceCtorEq, eq_self] at hc); first | (exfalso; first | omega | exact absurd hc (by assumption) | exact absurd (by assumption) hc) | (with_reducible change True at hc; clear hc) | skip)) | refine And.intro (by first | omega | (simp only [Sy.lc, Sy.ll]; omega) | (simp only [Sy.lc] at *; omega)) ?_ | refine And.intro ?_ ?_ | exact rfl | (refine congrArg SV.bool (decide_eq_true ?_); first | rfl | omega | assumption) | refine Pick.mk _ rfl ?_ | refine fun (bN : Nat) => ?_ | refine fun (zA : Bool) (bA : Bs) (cA : Nat) hA => ?_ | (intro x' hx''; obtain rfl := Option.some.inj (hy'.symm.trans hx''))
        exact ⟨_, _, rfl, Tells.refl _, h⟩
      | false =>
        have hyl' : y.held + y.kids = 0 := by
          have : ¬ 0 < y.held + y.kids := by simpa [Ent.live] using hyl
          omega
        rw [reapF_go hy hyl] at hg1 hM
        dsimp only at hg1 hM
        obtain ⟨hw2, _, _, _, hget2⟩ := hwM.reap hy hyl
        rcases hyp with hp | ⟨p, q, hp, hq, hpl⟩
        · rw [hp] at hg1 hM
          have hbk : bumpK M (-1) (-1) = M := if_pos rfl
          rw [hbk, reapF_end] at hg1 hM
          repeat' first | exact trivial | refine And.intro trivial ?_ | refine And.intro rfl ?_ | refine And.intro (one_flat (fun _ => rfl) _) ?_ | refine Fit.yes (by omega) ?_ | refine Fit.no ?_ | (refine And.intro (fun hc => ?_) (fun hc => ?_) <;> ((try simp only [Sy.nf, ne_eq, reduceCtorEq, eq_self] at hc); first | (exfalso; first | omega | exact absurd hc (by assumption) | exact absurd (by assumption) hc) | (with_reducible change True at hc; clear hc) | skip)) | refine And.intro (by first | omega | (simp only [Sy.lc, Sy.ll]; omega) | (simp only [Sy.lc] at *; omega)) ?_ | refine And.intro ?_ ?_ | exact rfl | (refine congrArg SV.bool (decide_eq_true ?_); first | rfl | omega | assumption) | refine Pick.mk _ rfl ?_ | refine fun (bN : Nat) => ?_ | refine fun (zA : Bool) (bA : Bs) (cA : Nat) hA => ?_ | (intro x' hx''; obtain rfl := Option.some.inj (hy'.symm.trans hx''))
          all_goals (try (conv => whnf))
          all_goals repeat' first | exact trivial | refine And.intro trivial ?_ | refine And.intro rfl ?_ | refine And.intro (one_flat (fun _ => rfl) _) ?_ | refine Fit.yes (by omega) ?_ | refine Fit.no ?_ | (refine And.intro (fun hc => ?_) (fun hc => ?_) <;> ((try simp only [Sy.nf, ne_eq, reduceCtorEq, eq_self] at hc); first | (exfalso; first | omega | exact absurd hc (by assumption) | exact absurd (by assumption) hc) | (with_reducible change True at hc; clear hc) | skip)) | refine And.intro (by first | omega | (simp only [Sy.lc, Sy.ll]; omega) | (simp only [Sy.lc] at *; omega)) ?_ | refine And.intro ?_ ?_ | exact rfl | (refine congrArg SV.bool (decide_eq_true ?_); first | rfl | omega | assumption) | refine Pick.mk _ rfl ?_ | refine fun (bN : Nat) => ?_ | refine fun (zA : Bool) (bA : Bs) (cA : Nat) hA => ?_ | (intro x' hx''; obtain rfl := Option.some.inj (hy'.symm.trans hx''))
          refine ⟨(-1, gone + 1, M, n), (by show (if (-1 : Int) = -1 then 0 else n) < (if ((j : Nat) : Int) = -1 then 0 else n + 1); rw [if_pos rfl, if_neg (by omega)]; omega), .inl ⟨rfl, (by omega), hM⟩, rfl, ⟨rfl, den_intE hp, rfl, trivial⟩, Tells.refl _⟩
        · have hpll := (List.getElem?_eq_some_iff.1 hq).1
          have hq' : M[0 + y.parent.toNat]? = some q := by rw [hp, show 0 + ((p : Int)).toNat = p by omega]; exact hq
          obtain ⟨d1, d2, d3, d4⟩ := hLM.2 q (List.mem_of_getElem? hq)
          have hk1 := (hwM.parReg hy (by unfold regAt; simp) hp hq).2
          rw [hp] at hg1 hM hw2
          have hcur : curOf (p : Int) = some p := by unfold curOf; rw [if_neg (by omega), Int.toNat_natCast]
          rw [hcur] at hw2
          have hq2 : (bumpK M p (-1))[p]? = some { q with kids := q.kids + -1 } := by rw [bumpK_set hq, List.getElem?_set_self hpll]
          repeat' first | exact trivial | refine And.intro trivial ?_ | refine And.intro rfl ?_ | refine And.intro (one_flat (fun _ => rfl) _) ?_ | refine Fit.yes (by omega) ?_ | refine Fit.no ?_ | (refine And.intro (fun hc => ?_) (fun hc => ?_) <;> ((try simp only [Sy.nf, ne_eq, reduceCtorEq, eq_self] at hc); first | (exfalso; first | omega | exact absurd hc (by assumption) | exact absurd (by assumption) hc) | (with_reducible change True at hc; clear hc) | skip)) | refine And.intro (by first | omega | (simp only [Sy.lc, Sy.ll]; omega) | (simp only [Sy.lc] at *; omega)) ?_ | refine And.intro ?_ ?_ | exact rfl | (refine congrArg SV.bool (decide_eq_true ?_); first | rfl | omega | assumption) | refine Pick.mk _ rfl ?_ | refine fun (bN : Nat) => ?_ | refine fun (zA : Bool) (bA : Bs) (cA : Nat) hA => ?_ | (intro x' hx''; first | obtain rfl := Option.some.inj (hy'.symm.trans hx'') | obtain rfl := Option.some.inj (hq'.symm.trans hx''))
          all_goals (try (conv => whnf))
          all_goals repeat' first | exact trivial | refine And.intro trivial ?_ | refine And.intro rfl ?_ | refine And.intro (one_flat (fun _ => rfl) _) ?_ | refine Fit.yes (by omega) ?_ | refine Fit.no ?_ | (refine And.intro (fun hc => ?_) (fun hc => ?_) <;> ((try simp only [Sy.nf, ne_eq, reduceCtorEq, eq_self] at hc); first | (exfalso; first | omega | exact absurd hc (by assumption) | exact absurd (by assumption) hc) | (with_reducible change True at hc; clear hc) | skip)) | refine And.intro (by first | omega | (simp only [Sy.lc, Sy.ll]; omega) | (simp only [Sy.lc] at *; omega)) ?_ | refine And.intro ?_ ?_ | exact rfl | (refine congrArg SV.bool (decide_eq_true ?_); first | rfl | omega | assumption) | refine Pick.mk _ rfl ?_ | refine fun (bN : Nat) => ?_ | refine fun (zA : Bool) (bA : Bs) (cA : Nat) hA => ?_ | (intro x' hx''; first | obtain rfl := Option.some.inj (hy'.symm.trans hx'') | obtain rfl := Option.some.inj (hq'.symm.trans hx''))
          all_goals (try (conv => whnf))
          all_goals repeat' first | exact trivial | refine And.intro trivial ?_ | refine And.intro rfl ?_ | refine And.intro (one_flat (fun _ => rfl) _) ?_ | refine Fit.yes (by omega) ?_ | refine Fit.no ?_ | (refine And.intro (fun hc => ?_) (fun hc => ?_) <;> ((try simp only [Sy.nf, ne_eq, reduceCtorEq, eq_self] at hc); first | (exfalso; first | omega | exact absurd hc (by assumption) | exact absurd (by assumption) hc) | (with_reducible change True at hc; clear hc) | skip)) | refine And.intro (by first | omega | (simp only [Sy.lc, Sy.ll]; omega) | (simp only [Sy.lc] at *; omega)) ?_ | refine And.intro ?_ ?_ | exact rfl | (refine congrArg SV.bool (decide_eq_true ?_); first | rfl | omega | assumption) | refine Pick.mk _ rfl ?_ | refine fun (bN : Nat) => ?_ | refine fun (zA : Bool) (bA : Bs) (cA : Nat) hA => ?_ | (intro x' hx''; first | obtain rfl := Option.some.inj (hy'.symm.trans hx'') | obtain rfl := Option.some.inj (hq'.symm.trans hx''))
          refine Pick.mk { q with kids := q.kids + -1 } rfl ?_
          (repeat' first | exact trivial | refine And.intro trivial ?_ | refine And.intro rfl ?_ | refine And.intro (one_flat (fun _ => rfl) _) ?_ | refine Fit.yes (by omega) ?_ | refine Fit.no ?_ | (refine And.intro (fun hc => ?_) (fun hc => ?_) <;> ((try simp only [Sy.nf, ne_eq, reduceCtorEq, eq_self] at hc); first | (exfalso; first | omega | exact absurd hc (by assumption) | exact absurd (by assumption) hc) | (with_reducible change True at hc; clear hc) | skip)) | refine And.intro (by first | omega | (simp only [Sy.lc, Sy.ll]; omega) | (simp only [Sy.lc] at *; omega)) ?_ | refine And.intro ?_ ?_ | exact rfl | (refine congrArg SV.bool (decide_eq_true ?_); first | rfl | omega | assumption) | refine Pick.mk _ rfl ?_ | refine fun (bN : Nat) => ?_ | refine fun (zA : Bool) (bA : Bs) (cA : Nat) hA => ?_); all_goals (try (conv => whnf)); (repeat' first | exact trivial | refine And.intro trivial ?_ | refine And.intro rfl ?_ | refine And.intro (one_flat (fun _ => rfl) _) ?_ | refine Fit.yes (by omega) ?_ | refine Fit.no ?_ | (refine And.intro (fun hc => ?_) (fun hc => ?_) <;> ((try simp only [Sy.nf, ne_eq, reduceCtorEq, eq_self] at hc); first | (exfalso; first | omega | exact absurd hc (by assumption) | exact absurd (by assumption) hc) | (with_reducible change True at hc; clear hc) | skip)) | refine And.intro (by first | omega | (simp only [Sy.lc, Sy.ll]; omega) | (simp only [Sy.lc] at *; omega)) ?_ | refine And.intro ?_ ?_ | exact rfl | (refine congrArg SV.bool (decide_eq_true ?_); first | rfl | omega | assumption) | refine Pick.mk _ rfl ?_ | refine fun (bN : Nat) => ?_ | refine fun (zA : Bool) (bA : Bs) (cA : Nat) hA => ?_)
          have hpn : 0 + y.parent.toNat = p := by rw [hp]; omega
          refine ⟨((p : Int), gone + 1, bumpK M p (-1), n), (by show (if ((p : Nat) : Int) = -1 then 0 else n) < (if ((j : Nat) : Int) = -1 then 0 else n + 1); rw [if_neg (by omega), if_neg (by omega)]; omega), .inr ⟨p, _, rfl, hq2, hw2, (by show gone + 1 + (reapF n (bumpK M (p : Int) (-1)) (p : Int)).1 = _; omega), hM, (by show (q.place + 2).toNat ≤ n; omega)⟩, rfl, ⟨rfl, den_intE hp, rfl, trivial⟩, ?_⟩
          rw [hpn]
          show Tells _ (rfM 1 rb z lb c (bumpK M p (-1)))
          rw [bumpK_set hq]
          exact rfM_set 1 rb z lb c M p _
end Go.Proofs.Ythimgonpkhoodaa

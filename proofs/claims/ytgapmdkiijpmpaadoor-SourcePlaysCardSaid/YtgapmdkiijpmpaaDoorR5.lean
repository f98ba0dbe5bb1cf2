/- The document's source: below. Own work. -/
import Derived.Test.YtgapmdkiijpmpaaDoorR4
namespace Go.Proofs.YtgapmdkiijpmpaaDoor
open Go Go.Sy Go.Sp
set_option maxRecDepth 100000
set_option linter.unusedVariables false
set_option linter.unusedSimpArgs false
set_option maxHeartbeats 4000000
theorem refBelow_ob (sb : Bs) (S : Src) (hS : okSrc S) (key : List UInt8) (hk : key.length ≤ 140737488351232) (z : Bool) (ob : Bs) (c : Nat) (offs : List Int) (hol : offs.length ≤ 17592186044416) {O : List Evt} {e : Int} (hR : belowA S.ab key offs = (O, e)) (K : SV → SH → Prop)
    (h : ∀ uz ub uc, K (.tup [.sl 4 uz ub 7 0 O.length uc, .int .i64 e]) (sM sb S ++ [(ob, .win (encInt .i64) 1 offs)] ++ [(ub, .vec uz uc encEv 7 O)])) :
    FnOb Tryd.prog 19 [.ptr 0 sb 0 0 0, .str key, .sl 3 z ob 1 0 offs.length c] (sM sb S ++ [(ob, .win (encInt .i64) 1 offs)]) K := by
  obtain ⟨hS1, hS2, hS3⟩ := id hS
  have hal : S.ab.length = S.rows.length := by simp [Src.ab]
  obtain ⟨p, hp⟩ : ∃ p, p = partOf key S.rows.length := ⟨_, rfl⟩
  have hpl : p < S.rows.length := by rw [hp]; exact Nat.mod_lt _ (by omega)
  obtain ⟨q, hq⟩ : ∃ q, S.rows[p]? = some q := ⟨_, List.getElem?_eq_getElem hpl⟩
  have hqa : S.ab[p]? = some q.l := by unfold Src.ab; rw [List.getElem?_map, hq]; rfl
  have hql := hS3 q (List.mem_of_getElem? hq)
  have hlm : (S.rows.map (setp 4)).length = S.rows.length := by simp
  have hgq : (S.rows.map (setp 4))[p]? = some (setp 4 q) := by rw [List.getElem?_map, hq]; rfl
  unfold belowA at hR
  have hqd : S.ab.getD p [] = q.l := by rw [List.getD_eq_getElem?_getD, hqa]; rfl
  rw [hal, ← hp, hqd] at hR
  refine FnOb.start (sopen1 hq) ?_
  refine FnOb.know (q.l.length ≤ q.c) (fun w hw => HSat.room hw (i := 4) rfl) fun hroom => ?_
  have hend : ∀ (H : SH), Tells H (sH sb S (S.rows.map (setp 4)) (S.rows.eraseIdx p) ++ [(ob, Blk.win (encInt .i64) 1 offs)] ++ atomsP 4 q) → Tells H (sM sb S ++ [(ob, .win (encInt .i64) 1 offs)]) := fun H hH => hH.trans (ssame1 hq)
  apply FnOb.tidy
  apply en19
  by_cases hlen : offs.length = S.rows.length
  · rw [if_neg (by simp [hlen])] at hR
    repeat' first | exact trivial | refine And.intro trivial ?_ | refine And.intro rfl ?_ | refine And.intro (one_flat (fun _ => rfl) _) ?_ | refine Fit.yes (by omega) ?_ | refine Fit.no ?_ | (refine And.intro (fun hc => ?_) (fun hc => ?_) <;> ((try simp only [Sy.nf, ne_eq, reduceCtorEq, eq_self] at hc); first | (exfalso; first | omega | exact absurd hc (by assumption) | exact absurd (by assumption) hc) | (with_reducible change True at hc; clear hc) | skip)) | refine And.intro (by first | omega | (simp only [Sy.lc, Sy.ll]; omega) | (simp only [Sy.lc] at *; omega)) ?_ | refine And.intro ?_ ?_ | exact rfl | (refine congrArg SV.bool (decide_eq_true ?_); first | rfl | omega | assumption) | refine Pick.mk _ rfl ?_ | refine fun (bN : Nat) => ?_ | refine fun (zA : Bool) (bA : Bs) (cA : Nat) hA => ?_
    refine loop_st mixed (S := sch19) (by kernel_rfl) 88 (σ := Nat) (fun k => [(0, .ptr 0 sb 0 0 0), (1, .str key), (2, .sl 3 z ob 1 0 offs.length c), (8, .int .i64 k)])
      (fun _ => sH sb S (S.rows.map (setp 4)) (S.rows.eraseIdx p) ++ [(ob, .win (encInt .i64) 1 offs)] ++ atomsP 4 q) (fun k => k ≤ offs.length ∧ ∀ j < k, ∀ o l, offs[j]? = some o → S.ab[j]? = some l → 0 ≤ o ∧ o ≤ (l.length : Int)) (fun k => offs.length - k) 0 rfl ⟨by omega, fun j hj => absurd hj (by omega)⟩ ⟨rfl, rfl, rfl, rfl, trivial⟩ (Tells.refl _) ?_
    intro k J ⟨hk1, hk2⟩
    by_cases hkl : k < offs.length
    · obtain ⟨o, ho⟩ : ∃ o, offs[k]? = some o := ⟨_, List.getElem?_eq_getElem hkl⟩
      obtain ⟨r, hr⟩ : ∃ r, S.rows[k]? = some r := ⟨_, List.getElem?_eq_getElem (by omega)⟩
      have hra : S.ab[k]? = some r.l := by unfold Src.ab; rw [List.getElem?_map, hr]; rfl
      have ho' : offs[0 + (k : Int).toNat]? = some o := by rw [show 0 + (k : Int).toNat = k by omega]; exact ho
      have hr' : (S.rows.map (setp 4))[0 + (k : Int).toNat]? = some (setp 4 r) := by rw [show 0 + (k : Int).toNat = k by omega, List.getElem?_map, hr]; rfl
      have hrl : (setp 4 r).l.length = r.l.length := rfl
      by_cases hoo : 0 ≤ o ∧ o ≤ (r.l.length : Int)
      · repeat' first | exact trivial | refine And.intro trivial ?_ | refine And.intro rfl ?_ | refine And.intro (one_flat (fun _ => rfl) _) ?_ | refine Fit.yes (by omega) ?_ | refine Fit.no ?_ | (refine And.intro (fun hc => ?_) (fun hc => ?_) <;> ((try simp only [Sy.nf, ne_eq, reduceCtorEq, eq_self] at hc); first | (exfalso; first | omega | exact absurd hc (by assumption) | exact absurd (by assumption) hc) | (with_reducible change True at hc; clear hc) | skip)) | refine And.intro (by first | omega | (simp only [Sy.lc, Sy.ll]; omega) | (simp only [Sy.lc] at *; omega)) ?_ | refine And.intro ?_ ?_ | exact rfl | (refine congrArg SV.bool (decide_eq_true ?_); first | rfl | omega | assumption) | refine Pick.mk _ rfl ?_ | refine fun (bN : Nat) => ?_ | refine fun (zA : Bool) (bA : Bs) (cA : Nat) hA => ?_ | (intro x' hx''; first | obtain rfl := Option.some.inj (ho'.symm.trans hx'') | obtain rfl := Option.some.inj (hr'.symm.trans hx''))
        exact ⟨k + 1, (by first | omega | (dsimp only; omega) | (simp; omega)), ⟨hkl, fun j hj o' l' h1 h2 => by
          by_cases hjk : j < k
          · exact hk2 j hjk o' l' h1 h2
          · have : j = k := by omega
            subst this
            rw [ho] at h1; rw [hra] at h2
            cases h1; cases h2; exact hoo⟩, rfl, ⟨rfl, rfl, rfl, rfl, trivial⟩, Tells.refl _⟩
      · rw [if_neg (fun hh => hoo (hh k o r.l ho hra))] at hR
        obtain ⟨rfl, rfl⟩ := Prod.mk.inj hR
        have := h true ⟨0, 0⟩ 0
        repeat' first | exact trivial | refine And.intro trivial ?_ | refine And.intro rfl ?_ | refine And.intro (one_flat (fun _ => rfl) _) ?_ | refine Fit.yes (by omega) ?_ | refine Fit.no ?_ | (refine And.intro (fun hc => ?_) (fun hc => ?_) <;> ((try simp only [Sy.nf, ne_eq, reduceCtorEq, eq_self] at hc); first | (exfalso; first | omega | exact absurd hc (by assumption) | exact absurd (by assumption) hc) | (with_reducible change True at hc; clear hc) | skip)) | refine And.intro (by first | omega | (simp only [Sy.lc, Sy.ll]; omega) | (simp only [Sy.lc] at *; omega)) ?_ | refine And.intro ?_ ?_ | exact rfl | (refine congrArg SV.bool (decide_eq_true ?_); first | rfl | omega | assumption) | refine Pick.mk _ rfl ?_ | refine fun (bN : Nat) => ?_ | refine fun (zA : Bool) (bA : Bs) (cA : Nat) hA => ?_ | (intro x' hx''; first | obtain rfl := Option.some.inj (ho'.symm.trans hx'') | obtain rfl := Option.some.inj (hr'.symm.trans hx''))
        all_goals (conv => whnf)
        all_goals repeat' first | exact trivial | refine And.intro trivial ?_ | refine And.intro rfl ?_ | refine And.intro (one_flat (fun _ => rfl) _) ?_ | refine Fit.yes (by omega) ?_ | refine Fit.no ?_ | (refine And.intro (fun hc => ?_) (fun hc => ?_) <;> ((try simp only [Sy.nf, ne_eq, reduceCtorEq, eq_self] at hc); first | (exfalso; first | omega | exact absurd hc (by assumption) | exact absurd (by assumption) hc) | (with_reducible change True at hc; clear hc) | skip)) | refine And.intro (by first | omega | (simp only [Sy.lc, Sy.ll]; omega) | (simp only [Sy.lc] at *; omega)) ?_ | refine And.intro ?_ ?_ | exact rfl | (refine congrArg SV.bool (decide_eq_true ?_); first | rfl | omega | assumption) | refine Pick.mk _ rfl ?_ | refine fun (bN : Nat) => ?_ | refine fun (zA : Bool) (bA : Bs) (cA : Nat) hA => ?_
        all_goals
          refine ⟨.tup [.sl 4 true ⟨0, 0⟩ 7 0 0 0, .int .i64 50], sM sb S ++ [(ob, .win (encInt .i64) 1 offs)] ++ [(⟨0, 0⟩, .vec true 0 encEv 7 [])], rfl, ?_, this⟩
          refine Tells.trans (H1 := sM sb S ++ [(ob, .win (encInt .i64) 1 offs)]) (hend _ (by (refine Tells.pick [some 0, some 1, some 2, some 3, some 4] (by decide) ?_; repeat' first | exact rfl | exact Retell.refl _ | exact Retell.lit rfl | exact Retell.rows | exact Ghost.vec | exact Ghost.win | refine And.intro ?_ ?_))) ?_
          exact Tells.pick [some 0, some 1, some 2, some 3, none] (by decide) ⟨Retell.refl _, Retell.refl _, Retell.refl _, Retell.refl _, Ghost.vec, rfl⟩
    · obtain rfl : k = offs.length := by omega
      have hoffs : offOk S.ab offs := fun j o l h1 h2 => hk2 j (List.getElem?_eq_some_iff.1 h1).1 o l h1 h2
      obtain ⟨o, ho⟩ : ∃ o, offs[p]? = some o := ⟨_, List.getElem?_eq_getElem (by omega)⟩
      have hod : offs.getD p 0 = o := by rw [List.getD_eq_getElem?_getD, ho]; rfl
      obtain ⟨ho0, ho1⟩ := hoffs p o q.l ho hqa
      obtain ⟨n, rfl⟩ : ∃ n : Nat, o = n := ⟨o.toNat, by omega⟩
      rw [if_pos hoffs, hod, Int.toNat_natCast] at hR
      obtain ⟨rfl, rfl⟩ := Prod.mk.inj hR
      have hpa : 0 + (p : Int).toNat = p := by omega
      have ho' : offs[0 + (p : Int).toNat]? = some (n : Int) := by rw [hpa]; exact ho
      have hgq' : (S.rows.map (setp 4))[0 + (p : Int).toNat]? = some (setp 4 q) := by rw [hpa]; exact hgq
      have hql' : (setp 4 q).l.length = q.l.length := rfl
      have hqc' : (setp 4 q).c = q.c := rfl
      (repeat' first | exact trivial | refine And.intro trivial ?_ | refine And.intro rfl ?_ | refine And.intro (one_flat (fun _ => rfl) _) ?_ | refine Fit.yes (by omega) ?_ | refine Fit.no ?_ | (refine And.intro (fun hc => ?_) (fun hc => ?_) <;> ((try simp only [Sy.nf, ne_eq, reduceCtorEq, eq_self] at hc); first | (exfalso; first | omega | exact absurd hc (by assumption) | exact absurd (by assumption) hc) | (with_reducible change True at hc; clear hc) | skip)) | refine And.intro (by first | omega | (simp only [Sy.lc, Sy.ll]; omega) | (simp only [Sy.lc] at *; omega)) ?_ | refine And.intro ?_ ?_ | exact rfl | (refine congrArg SV.bool (decide_eq_true ?_); first | rfl | omega | assumption) | refine Pick.mk _ rfl ?_ | refine fun (bN : Nat) => ?_ | refine fun (zA : Bool) (bA : Bs) (cA : Nat) hA => ?_); all_goals (try (conv => whnf)); (repeat' first | exact trivial | refine And.intro trivial ?_ | refine And.intro rfl ?_ | refine And.intro (one_flat (fun _ => rfl) _) ?_ | refine Fit.yes (by omega) ?_ | refine Fit.no ?_ | (refine And.intro (fun hc => ?_) (fun hc => ?_) <;> ((try simp only [Sy.nf, ne_eq, reduceCtorEq, eq_self] at hc); first | (exfalso; first | omega | exact absurd hc (by assumption) | exact absurd (by assumption) hc) | (with_reducible change True at hc; clear hc) | skip)) | refine And.intro (by first | omega | (simp only [Sy.lc, Sy.ll]; omega) | (simp only [Sy.lc] at *; omega)) ?_ | refine And.intro ?_ ?_ | exact rfl | (refine congrArg SV.bool (decide_eq_true ?_); first | rfl | omega | assumption) | refine Pick.mk _ rfl ?_ | refine fun (bN : Nat) => ?_ | refine fun (zA : Bool) (bA : Bs) (cA : Nat) hA => ?_)
      refine FnOb.pure (refPartOf_ob S.rows.length ⟨hS1, hS2⟩ key hk _ ?_)
      rw [← hp]
      (repeat' first | exact trivial | refine And.intro trivial ?_ | refine And.intro rfl ?_ | refine And.intro (one_flat (fun _ => rfl) _) ?_ | refine Fit.yes (by omega) ?_ | refine Fit.no ?_ | (refine And.intro (fun hc => ?_) (fun hc => ?_) <;> ((try simp only [Sy.nf, ne_eq, reduceCtorEq, eq_self] at hc); first | (exfalso; first | omega | exact absurd hc (by assumption) | exact absurd (by assumption) hc) | (with_reducible change True at hc; clear hc) | skip)) | refine And.intro (by first | omega | (simp only [Sy.lc, Sy.ll]; omega) | (simp only [Sy.lc] at *; omega)) ?_ | refine And.intro ?_ ?_ | exact rfl | (refine congrArg SV.bool (decide_eq_true ?_); first | rfl | omega | assumption) | refine Pick.mk _ rfl ?_ | refine fun (bN : Nat) => ?_ | refine fun (zA : Bool) (bA : Bs) (cA : Nat) hA => ?_); all_goals (try (conv => whnf)); (repeat' first | exact trivial | refine And.intro trivial ?_ | refine And.intro rfl ?_ | refine And.intro (one_flat (fun _ => rfl) _) ?_ | refine Fit.yes (by omega) ?_ | refine Fit.no ?_ | (refine And.intro (fun hc => ?_) (fun hc => ?_) <;> ((try simp only [Sy.nf, ne_eq, reduceCtorEq, eq_self] at hc); first | (exfalso; first | omega | exact absurd hc (by assumption) | exact absurd (by assumption) hc) | (with_reducible change True at hc; clear hc) | skip)) | refine And.intro (by first | omega | (simp only [Sy.lc, Sy.ll]; omega) | (simp only [Sy.lc] at *; omega)) ?_ | refine And.intro ?_ ?_ | exact rfl | (refine congrArg SV.bool (decide_eq_true ?_); first | rfl | omega | assumption) | refine Pick.mk _ rfl ?_ | refine fun (bN : Nat) => ?_ | refine fun (zA : Bool) (bA : Bs) (cA : Nat) hA => ?_)
      refine loop_st mixed (S := sch19) (by kernel_rfl) 88 (σ := Nat × Bool × Bs × Nat) (fun (i, uz, ub, uc) => [(0, .ptr 0 sb 0 0 0), (1, .str key), (2, .sl 3 z ob 1 0 offs.length c), (9, .int .i64 p), (10, .sl 5 uz ub 7 0 (keyed key (q.l.take i)).length uc), (11, .int .i64 i)])
        (fun (i, uz, ub, uc) => sH sb S (S.rows.map (setp 4)) (S.rows.eraseIdx p) ++ [(ob, .win (encInt .i64) 1 offs)] ++ atomsP 4 q ++ [(ub, .vec uz uc encEv 7 (keyed key (q.l.take i)))]) (fun (i, _) => i ≤ n) (fun (i, _) => n - i) (0, true, ⟨0, 0⟩, 0) rfl (by omega) ⟨rfl, rfl, rfl, rfl, rfl, rfl, trivial⟩
        (Tells.pick [some 0, some 1, some 2, some 3, some 4, none] (by decide) ⟨Retell.refl _, Retell.refl _, Retell.refl _, Retell.refl _, Retell.refl _, Ghost.vec, rfl⟩) ?_
      intro ⟨i, uz, ub, uc⟩ J hi
      have hi : i ≤ n := hi
      by_cases hi2 : i < n
      · obtain ⟨x, hx⟩ : ∃ x, q.l[i]? = some x := ⟨_, List.getElem?_eq_getElem (by omega)⟩
        have hx' : q.l[0 + (i : Int).toNat]? = some x := by rw [show 0 + (i : Int).toNat = i by omega]; exact hx
        have ht : q.l.take (i + 1) = q.l.take i ++ [x] := by rw [List.take_add_one, hx]; rfl
        have hkl : (keyed key (q.l.take i)).length ≤ 4096 := Nat.le_trans (List.length_filter_le _ _) (by simp; omega)
        by_cases hxk : x.key = key
        · have hks := keyed_snoc key (q.l.take i) x
          rw [if_pos hxk, ← ht] at hks
          repeat' first | exact trivial | refine And.intro trivial ?_ | refine And.intro rfl ?_ | refine And.intro (one_flat (fun _ => rfl) _) ?_ | refine Fit.yes (by omega) ?_ | refine Fit.no ?_ | (refine And.intro (fun hc => ?_) (fun hc => ?_) <;> ((try simp only [Sy.nf, ne_eq, reduceCtorEq, eq_self] at hc); first | (exfalso; first | omega | exact absurd hc (by assumption) | exact absurd (by assumption) hc) | (with_reducible change True at hc; clear hc) | skip)) | refine And.intro (by first | omega | (simp only [Sy.lc, Sy.ll]; omega) | (simp only [Sy.lc] at *; omega)) ?_ | refine And.intro ?_ ?_ | exact rfl | (refine congrArg SV.bool (decide_eq_true ?_); first | rfl | omega | assumption) | refine Pick.mk _ rfl ?_ | refine fun (bN : Nat) => ?_ | refine fun (zA : Bool) (bA : Bs) (cA : Nat) hA => ?_ | (intro x' hx''; first | obtain rfl := Option.some.inj (ho'.symm.trans hx'') | obtain rfl := Option.some.inj (hgq'.symm.trans hx'') | obtain rfl := Option.some.inj (hx'.symm.trans hx''))
          conv => whnf
          repeat' first | exact trivial | refine And.intro trivial ?_ | refine And.intro rfl ?_ | refine And.intro (one_flat (fun _ => rfl) _) ?_ | refine Fit.yes (by omega) ?_ | refine Fit.no ?_ | (refine And.intro (fun hc => ?_) (fun hc => ?_) <;> ((try simp only [Sy.nf, ne_eq, reduceCtorEq, eq_self] at hc); first | (exfalso; first | omega | exact absurd hc (by assumption) | exact absurd (by assumption) hc) | (with_reducible change True at hc; clear hc) | skip)) | refine And.intro (by first | omega | (simp only [Sy.lc, Sy.ll]; omega) | (simp only [Sy.lc] at *; omega)) ?_ | refine And.intro ?_ ?_ | exact rfl | (refine congrArg SV.bool (decide_eq_true ?_); first | rfl | omega | assumption) | refine Pick.mk _ rfl ?_ | refine fun (bN : Nat) => ?_ | refine fun (zA : Bool) (bA : Bs) (cA : Nat) hA => ?_
          refine ⟨(i + 1, zA, bA, cA), (by show n - (i + 1) < n - i; omega), hi2, rfl, ⟨rfl, rfl, rfl, rfl, den_slL (by rw [hks]), rfl, trivial⟩, ?_⟩
          show Tells _ (sH sb S (S.rows.map (setp 4)) (S.rows.eraseIdx p) ++ [(ob, .win (encInt .i64) 1 offs)] ++ atomsP 4 q ++ [(bA, .vec zA cA encEv 7 (keyed key (q.l.take (i + 1))))])
          rw [hks]
          (refine Tells.pick [some 0, some 1, some 2, some 3, some 4, some 5] (by decide) ?_; repeat' first | exact rfl | exact Retell.refl _ | exact Retell.lit rfl | exact Retell.rows | exact Ghost.vec | exact Ghost.win | refine And.intro ?_ ?_)
        · have hks := keyed_snoc key (q.l.take i) x
          rw [if_neg hxk, ← ht] at hks
          repeat' first | exact trivial | refine And.intro trivial ?_ | refine And.intro rfl ?_ | refine And.intro (one_flat (fun _ => rfl) _) ?_ | refine Fit.yes (by omega) ?_ | refine Fit.no ?_ | (refine And.intro (fun hc => ?_) (fun hc => ?_) <;> ((try simp only [Sy.nf, ne_eq, reduceCtorEq, eq_self] at hc); first | (exfalso; first | omega | exact absurd hc (by assumption) | exact absurd (by assumption) hc) | (with_reducible change True at hc; clear hc) | skip)) | refine And.intro (by first | omega | (simp only [Sy.lc, Sy.ll]; omega) | (simp only [Sy.lc] at *; omega)) ?_ | refine And.intro ?_ ?_ | exact rfl | (refine congrArg SV.bool (decide_eq_true ?_); first | rfl | omega | assumption) | refine Pick.mk _ rfl ?_ | refine fun (bN : Nat) => ?_ | refine fun (zA : Bool) (bA : Bs) (cA : Nat) hA => ?_ | (intro x' hx''; first | obtain rfl := Option.some.inj (ho'.symm.trans hx'') | obtain rfl := Option.some.inj (hgq'.symm.trans hx'') | obtain rfl := Option.some.inj (hx'.symm.trans hx''))
          conv => whnf
          repeat' first | exact trivial | refine And.intro trivial ?_ | refine And.intro rfl ?_ | refine And.intro (one_flat (fun _ => rfl) _) ?_ | refine Fit.yes (by omega) ?_ | refine Fit.no ?_ | (refine And.intro (fun hc => ?_) (fun hc => ?_) <;> ((try simp only [Sy.nf, ne_eq, reduceCtorEq, eq_self] at hc); first | (exfalso; first | omega | exact absurd hc (by assumption) | exact absurd (by assumption) hc) | (with_reducible change True at hc; clear hc) | skip)) | refine And.intro (by first | omega | (simp only [Sy.lc, Sy.ll]; omega) | (simp only [Sy.lc] at *; omega)) ?_ | refine And.intro ?_ ?_ | exact rfl | (refine congrArg SV.bool (decide_eq_true ?_); first | rfl | omega | assumption) | refine Pick.mk _ rfl ?_ | refine fun (bN : Nat) => ?_ | refine fun (zA : Bool) (bA : Bs) (cA : Nat) hA => ?_
          refine ⟨(i + 1, uz, ub, uc), (by show n - (i + 1) < n - i; omega), hi2, rfl, ⟨rfl, rfl, rfl, rfl, den_slL (by rw [hks]), rfl, trivial⟩, ?_⟩
          show Tells _ (sH sb S (S.rows.map (setp 4)) (S.rows.eraseIdx p) ++ [(ob, .win (encInt .i64) 1 offs)] ++ atomsP 4 q ++ [(ub, .vec uz uc encEv 7 (keyed key (q.l.take (i + 1))))])
          rw [hks]
          (refine Tells.pick [some 0, some 1, some 2, some 3, some 4, some 5] (by decide) ?_; repeat' first | exact rfl | exact Retell.refl _ | exact Retell.lit rfl | exact Retell.rows | exact Ghost.vec | exact Ghost.win | refine And.intro ?_ ?_)
      · obtain rfl : i = n := by omega
        have := h uz ub uc
        repeat' first | exact trivial | refine And.intro trivial ?_ | refine And.intro rfl ?_ | refine And.intro (one_flat (fun _ => rfl) _) ?_ | refine Fit.yes (by omega) ?_ | refine Fit.no ?_ | (refine And.intro (fun hc => ?_) (fun hc => ?_) <;> ((try simp only [Sy.nf, ne_eq, reduceCtorEq, eq_self] at hc); first | (exfalso; first | omega | exact absurd hc (by assumption) | exact absurd (by assumption) hc) | (with_reducible change True at hc; clear hc) | skip)) | refine And.intro (by first | omega | (simp only [Sy.lc, Sy.ll]; omega) | (simp only [Sy.lc] at *; omega)) ?_ | refine And.intro ?_ ?_ | exact rfl | (refine congrArg SV.bool (decide_eq_true ?_); first | rfl | omega | assumption) | refine Pick.mk _ rfl ?_ | refine fun (bN : Nat) => ?_ | refine fun (zA : Bool) (bA : Bs) (cA : Nat) hA => ?_ | (intro x' hx''; obtain rfl := Option.some.inj (ho'.symm.trans hx''))
        conv => whnf
        repeat' first | exact trivial | refine And.intro trivial ?_ | refine And.intro rfl ?_ | refine And.intro (one_flat (fun _ => rfl) _) ?_ | refine Fit.yes (by omega) ?_ | refine Fit.no ?_ | (refine And.intro (fun hc => ?_) (fun hc => ?_) <;> ((try simp only [Sy.nf, ne_eq, reduceCtorEq, eq_self] at hc); first | (exfalso; first | omega | exact absurd hc (by assumption) | exact absurd (by assumption) hc) | (with_reducible change True at hc; clear hc) | skip)) | refine And.intro (by first | omega | (simp only [Sy.lc, Sy.ll]; omega) | (simp only [Sy.lc] at *; omega)) ?_ | refine And.intro ?_ ?_ | exact rfl | (refine congrArg SV.bool (decide_eq_true ?_); first | rfl | omega | assumption) | refine Pick.mk _ rfl ?_ | refine fun (bN : Nat) => ?_ | refine fun (zA : Bool) (bA : Bs) (cA : Nat) hA => ?_
        exact ⟨.tup [.sl 4 uz ub 7 0 (keyed key (q.l.take i)).length uc, .int .i64 0], _, rfl, ssame2 hq, this⟩
  · rw [if_pos hlen] at hR
    obtain ⟨rfl, rfl⟩ := Prod.mk.inj hR
    have := h true ⟨0, 0⟩ 0
    (repeat' first | exact trivial | refine And.intro trivial ?_ | refine And.intro rfl ?_ | refine And.intro (one_flat (fun _ => rfl) _) ?_ | refine Fit.yes (by omega) ?_ | refine Fit.no ?_ | (refine And.intro (fun hc => ?_) (fun hc => ?_) <;> ((try simp only [Sy.nf, ne_eq, reduceCtorEq, eq_self] at hc); first | (exfalso; first | omega | exact absurd hc (by assumption) | exact absurd (by assumption) hc) | (with_reducible change True at hc; clear hc) | skip)) | refine And.intro (by first | omega | (simp only [Sy.lc, Sy.ll]; omega) | (simp only [Sy.lc] at *; omega)) ?_ | refine And.intro ?_ ?_ | exact rfl | (refine congrArg SV.bool (decide_eq_true ?_); first | rfl | omega | assumption) | refine Pick.mk _ rfl ?_ | refine fun (bN : Nat) => ?_ | refine fun (zA : Bool) (bA : Bs) (cA : Nat) hA => ?_); all_goals (try (conv => whnf)); (repeat' first | exact trivial | refine And.intro trivial ?_ | refine And.intro rfl ?_ | refine And.intro (one_flat (fun _ => rfl) _) ?_ | refine Fit.yes (by omega) ?_ | refine Fit.no ?_ | (refine And.intro (fun hc => ?_) (fun hc => ?_) <;> ((try simp only [Sy.nf, ne_eq, reduceCtorEq, eq_self] at hc); first | (exfalso; first | omega | exact absurd hc (by assumption) | exact absurd (by assumption) hc) | (with_reducible change True at hc; clear hc) | skip)) | refine And.intro (by first | omega | (simp only [Sy.lc, Sy.ll]; omega) | (simp only [Sy.lc] at *; omega)) ?_ | refine And.intro ?_ ?_ | exact rfl | (refine congrArg SV.bool (decide_eq_true ?_); first | rfl | omega | assumption) | refine Pick.mk _ rfl ?_ | refine fun (bN : Nat) => ?_ | refine fun (zA : Bool) (bA : Bs) (cA : Nat) hA => ?_)
    refine ⟨.tup [.sl 4 true ⟨0, 0⟩ 7 0 0 0, .int .i64 1], sM sb S ++ [(ob, .win (encInt .i64) 1 offs)] ++ [(⟨0, 0⟩, .vec true 0 encEv 7 [])], rfl, ?_, this⟩
    refine Tells.trans (H1 := sM sb S ++ [(ob, .win (encInt .i64) 1 offs)]) (hend _ (by (refine Tells.pick [some 0, some 1, some 2, some 3, some 4] (by decide) ?_; repeat' first | exact rfl | exact Retell.refl _ | exact Retell.lit rfl | exact Retell.rows | exact Ghost.vec | exact Ghost.win | refine And.intro ?_ ?_))) ?_
    exact Tells.pick [some 0, some 1, some 2, some 3, none] (by decide) ⟨Retell.refl _, Retell.refl _, Retell.refl _, Retell.refl _, Ghost.vec, rfl⟩
end Go.Proofs.YtgapmdkiijpmpaaDoor

/- The document's source: an event is put. Own work. -/
import Derived.Test.YtgapmdkiijpmpaaDoorS3
import Derived.Test.YtgapmdkiijpmpaaDoorR1
namespace Go.Proofs.YtgapmdkiijpmpaaDoor
open Go Go.Sy Go.Sp
set_option maxRecDepth 100000
set_option linter.unusedVariables false
set_option linter.unusedSimpArgs false
set_option maxHeartbeats 4000000
theorem refPut_ob (sb : Bs) (S : Src) (hS : okSrc S) (x : Evt) (hx : okE x) {p o e : Int} {A : List (List Evt)} (hR : putA S.ab x = ((p, o, e), A)) (K : SV → SH → Prop)
    (h : ∀ S' : Src, okSrc S' → S'.ab = A → S'.rows.length = S.rows.length → K (.tup [.int .i64 p, .int .i64 o, .int .i64 e]) (sM sb S')) : FnOb Tryd.prog 13 [.ptr 0 sb 0 0 0, .agg (encEv x)] (sM sb S) K := by
  obtain ⟨hS1, hS2, hS3⟩ := id hS
  have hal : S.ab.length = S.rows.length := by simp [Src.ab]
  obtain ⟨k, hk⟩ : ∃ k, k = partOf x.key S.rows.length := ⟨_, rfl⟩
  have hkl : k < S.rows.length := by rw [hk]; exact Nat.mod_lt _ (by omega)
  obtain ⟨q, hq⟩ : ∃ q, S.rows[k]? = some q := ⟨_, List.getElem?_eq_getElem hkl⟩
  have hqa : S.ab[k]? = some q.l := by unfold Src.ab; rw [List.getElem?_map, hq]; rfl
  have hql := hS3 q (List.mem_of_getElem? hq)
  have hka : 0 + (k : Int).toNat = k := by omega
  have hlm : (S.rows.map (setp 3)).length = S.rows.length := by simp
  have hgq : (S.rows.map (setp 3))[k]? = some (setp 3 q) := by rw [List.getElem?_map, hq]; rfl
  unfold putA at hR
  rw [hal, ← hk, hqa] at hR
  dsimp only at hR
  refine FnOb.start (sopen hq) ?_
  apply FnOb.tidy
  apply en13
  repeat' first | exact trivial | refine And.intro trivial ?_ | refine And.intro rfl ?_ | refine And.intro (one_flat (fun _ => rfl) _) ?_ | refine Fit.yes (by omega) ?_ | refine Fit.no ?_ | (refine And.intro (fun hc => ?_) (fun hc => ?_) <;> ((try simp only [Sy.nf, ne_eq, reduceCtorEq, eq_self] at hc); first | (exfalso; first | omega | exact absurd hc (by assumption) | exact absurd (by assumption) hc) | (with_reducible change True at hc; clear hc) | skip)) | refine And.intro (by first | omega | (simp only [Sy.lc, Sy.ll]; omega) | (simp only [Sy.lc] at *; omega)) ?_ | refine And.intro ?_ ?_ | exact rfl | (refine congrArg SV.bool (decide_eq_true ?_); first | rfl | omega | assumption) | refine Pick.mk _ rfl ?_ | refine fun (bN : Nat) => ?_ | refine fun (zA : Bool) (bA : Bs) (cA : Nat) hA => ?_
  conv => whnf
  repeat' first | exact trivial | refine And.intro trivial ?_ | refine And.intro rfl ?_ | refine And.intro (one_flat (fun _ => rfl) _) ?_ | refine Fit.yes (by omega) ?_ | refine Fit.no ?_ | (refine And.intro (fun hc => ?_) (fun hc => ?_) <;> ((try simp only [Sy.nf, ne_eq, reduceCtorEq, eq_self] at hc); first | (exfalso; first | omega | exact absurd hc (by assumption) | exact absurd (by assumption) hc) | (with_reducible change True at hc; clear hc) | skip)) | refine And.intro (by first | omega | (simp only [Sy.lc, Sy.ll]; omega) | (simp only [Sy.lc] at *; omega)) ?_ | refine And.intro ?_ ?_ | exact rfl | (refine congrArg SV.bool (decide_eq_true ?_); first | rfl | omega | assumption) | refine Pick.mk _ rfl ?_ | refine fun (bN : Nat) => ?_ | refine fun (zA : Bool) (bA : Bs) (cA : Nat) hA => ?_
  refine FnOb.pure (refMay_ob x hx _ ?_)
  cases hm : mayE x with
  | false =>
    rw [if_pos hm] at hR
    simp only [Prod.mk.injEq] at hR
    obtain ⟨⟨rfl, rfl, rfl⟩, rfl⟩ := hR
    repeat' first | exact trivial | refine And.intro trivial ?_ | refine And.intro rfl ?_ | refine And.intro (one_flat (fun _ => rfl) _) ?_ | refine Fit.yes (by omega) ?_ | refine Fit.no ?_ | (refine And.intro (fun hc => ?_) (fun hc => ?_) <;> ((try simp only [Sy.nf, ne_eq, reduceCtorEq, eq_self] at hc); first | (exfalso; first | omega | exact absurd hc (by assumption) | exact absurd (by assumption) hc) | (with_reducible change True at hc; clear hc) | skip)) | refine And.intro (by first | omega | (simp only [Sy.lc, Sy.ll]; omega) | (simp only [Sy.lc] at *; omega)) ?_ | refine And.intro ?_ ?_ | exact rfl | (refine congrArg SV.bool (decide_eq_true ?_); first | rfl | omega | assumption) | refine Pick.mk _ rfl ?_ | refine fun (bN : Nat) => ?_ | refine fun (zA : Bool) (bA : Bs) (cA : Nat) hA => ?_
    conv => whnf
    repeat' first | exact trivial | refine And.intro trivial ?_ | refine And.intro rfl ?_ | refine And.intro (one_flat (fun _ => rfl) _) ?_ | refine Fit.yes (by omega) ?_ | refine Fit.no ?_ | (refine And.intro (fun hc => ?_) (fun hc => ?_) <;> ((try simp only [Sy.nf, ne_eq, reduceCtorEq, eq_self] at hc); first | (exfalso; first | omega | exact absurd hc (by assumption) | exact absurd (by assumption) hc) | (with_reducible change True at hc; clear hc) | skip)) | refine And.intro (by first | omega | (simp only [Sy.lc, Sy.ll]; omega) | (simp only [Sy.lc] at *; omega)) ?_ | refine And.intro ?_ ?_ | exact rfl | (refine congrArg SV.bool (decide_eq_true ?_); first | rfl | omega | assumption) | refine Pick.mk _ rfl ?_ | refine fun (bN : Nat) => ?_ | refine fun (zA : Bool) (bA : Bs) (cA : Nat) hA => ?_
    exact ⟨_, _, rfl, Tells.trans (H1 := sO sb S k q) (by (refine Tells.pick [some 0, some 1, some 2, some 3] (by decide) ?_; repeat' first | exact rfl | exact Retell.refl _ | exact Retell.lit rfl | exact Retell.rows | exact Ghost.vec | exact Ghost.win | refine And.intro ?_ ?_)) (ssame hq (by simp only [List.map_map]; rfl)), h S hS rfl rfl⟩
  | true =>
    rw [if_neg (by rw [hm]; simp)] at hR
    repeat' first | exact trivial | refine And.intro trivial ?_ | refine And.intro rfl ?_ | refine And.intro (one_flat (fun _ => rfl) _) ?_ | refine Fit.yes (by omega) ?_ | refine Fit.no ?_ | (refine And.intro (fun hc => ?_) (fun hc => ?_) <;> ((try simp only [Sy.nf, ne_eq, reduceCtorEq, eq_self] at hc); first | (exfalso; first | omega | exact absurd hc (by assumption) | exact absurd (by assumption) hc) | (with_reducible change True at hc; clear hc) | skip)) | refine And.intro (by first | omega | (simp only [Sy.lc, Sy.ll]; omega) | (simp only [Sy.lc] at *; omega)) ?_ | refine And.intro ?_ ?_ | exact rfl | (refine congrArg SV.bool (decide_eq_true ?_); first | rfl | omega | assumption) | refine Pick.mk _ rfl ?_ | refine fun (bN : Nat) => ?_ | refine fun (zA : Bool) (bA : Bs) (cA : Nat) hA => ?_
    conv => whnf
    repeat' first | exact trivial | refine And.intro trivial ?_ | refine And.intro rfl ?_ | refine And.intro (one_flat (fun _ => rfl) _) ?_ | refine Fit.yes (by omega) ?_ | refine Fit.no ?_ | (refine And.intro (fun hc => ?_) (fun hc => ?_) <;> ((try simp only [Sy.nf, ne_eq, reduceCtorEq, eq_self] at hc); first | (exfalso; first | omega | exact absurd hc (by assumption) | exact absurd (by assumption) hc) | (with_reducible change True at hc; clear hc) | skip)) | refine And.intro (by first | omega | (simp only [Sy.lc, Sy.ll]; omega) | (simp only [Sy.lc] at *; omega)) ?_ | refine And.intro ?_ ?_ | exact rfl | (refine congrArg SV.bool (decide_eq_true ?_); first | rfl | omega | assumption) | refine Pick.mk _ rfl ?_ | refine fun (bN : Nat) => ?_ | refine fun (zA : Bool) (bA : Bs) (cA : Nat) hA => ?_
    refine FnOb.pure (refPartOf_ob S.rows.length ⟨hS1, hS2⟩ x.key hx.1 _ ?_)
    rw [← hk]
    by_cases h40 : 4096 ≤ q.l.length
    · rw [if_pos h40] at hR
      simp only [Prod.mk.injEq] at hR
      obtain ⟨⟨rfl, rfl, rfl⟩, rfl⟩ := hR
      have h40' : 4096 ≤ (setp 3 q).l.length := h40
      repeat' first | exact trivial | refine And.intro trivial ?_ | refine And.intro rfl ?_ | refine And.intro (one_flat (fun _ => rfl) _) ?_ | refine Fit.yes (by omega) ?_ | refine Fit.no ?_ | (refine And.intro (fun hc => ?_) (fun hc => ?_) <;> ((try simp only [Sy.nf, ne_eq, reduceCtorEq, eq_self] at hc); first | (exfalso; first | omega | exact absurd hc (by assumption) | exact absurd (by assumption) hc) | (with_reducible change True at hc; clear hc) | skip)) | refine And.intro (by first | omega | (simp only [Sy.lc, Sy.ll]; omega) | (simp only [Sy.lc] at *; omega)) ?_ | refine And.intro ?_ ?_ | exact rfl | (refine congrArg SV.bool (decide_eq_true ?_); first | rfl | omega | assumption) | refine Pick.mk _ rfl ?_ | refine fun (bN : Nat) => ?_ | refine fun (zA : Bool) (bA : Bs) (cA : Nat) hA => ?_ | (intro x' hx''; rw [hka, hgq] at hx''; obtain rfl := Option.some.inj hx'')
      conv => whnf
      repeat' first | exact trivial | refine And.intro trivial ?_ | refine And.intro rfl ?_ | refine And.intro (one_flat (fun _ => rfl) _) ?_ | refine Fit.yes (by omega) ?_ | refine Fit.no ?_ | (refine And.intro (fun hc => ?_) (fun hc => ?_) <;> ((try simp only [Sy.nf, ne_eq, reduceCtorEq, eq_self] at hc); first | (exfalso; first | omega | exact absurd hc (by assumption) | exact absurd (by assumption) hc) | (with_reducible change True at hc; clear hc) | skip)) | refine And.intro (by first | omega | (simp only [Sy.lc, Sy.ll]; omega) | (simp only [Sy.lc] at *; omega)) ?_ | refine And.intro ?_ ?_ | exact rfl | (refine congrArg SV.bool (decide_eq_true ?_); first | rfl | omega | assumption) | refine Pick.mk _ rfl ?_ | refine fun (bN : Nat) => ?_ | refine fun (zA : Bool) (bA : Bs) (cA : Nat) hA => ?_
      exact ⟨_, _, rfl, Tells.trans (H1 := sO sb S k q) (by (refine Tells.pick [some 0, some 1, some 2, some 3] (by decide) ?_; repeat' first | exact rfl | exact Retell.refl _ | exact Retell.lit rfl | exact Retell.rows | exact Ghost.vec | exact Ghost.win | refine And.intro ?_ ?_)) (ssame hq (by simp only [List.map_map]; rfl)), h S hS rfl rfl⟩
    · rw [if_neg h40] at hR
      simp only [Prod.mk.injEq] at hR
      obtain ⟨⟨rfl, rfl, rfl⟩, rfl⟩ := hR
      have h40' : ¬ 4096 ≤ (setp 3 q).l.length := h40
      repeat' first | exact trivial | refine And.intro trivial ?_ | refine And.intro rfl ?_ | refine And.intro (one_flat (fun _ => rfl) _) ?_ | refine Fit.yes (by omega) ?_ | refine Fit.no ?_ | (refine And.intro (fun hc => ?_) (fun hc => ?_) <;> ((try simp only [Sy.nf, ne_eq, reduceCtorEq, eq_self] at hc); first | (exfalso; first | omega | exact absurd hc (by assumption) | exact absurd (by assumption) hc) | (with_reducible change True at hc; clear hc) | skip)) | refine And.intro (by first | omega | (simp only [Sy.lc, Sy.ll]; omega) | (simp only [Sy.lc] at *; omega)) ?_ | refine And.intro ?_ ?_ | exact rfl | (refine congrArg SV.bool (decide_eq_true ?_); first | rfl | omega | assumption) | refine Pick.mk _ rfl ?_ | refine fun (bN : Nat) => ?_ | refine fun (zA : Bool) (bA : Bs) (cA : Nat) hA => ?_ | (intro x' hx''; rw [hka, hgq] at hx''; obtain rfl := Option.some.inj hx'')
      conv => whnf
      repeat' first | exact trivial | refine And.intro trivial ?_ | refine And.intro rfl ?_ | refine And.intro (one_flat (fun _ => rfl) _) ?_ | refine Fit.yes (by omega) ?_ | refine Fit.no ?_ | (refine And.intro (fun hc => ?_) (fun hc => ?_) <;> ((try simp only [Sy.nf, ne_eq, reduceCtorEq, eq_self] at hc); first | (exfalso; first | omega | exact absurd hc (by assumption) | exact absurd (by assumption) hc) | (with_reducible change True at hc; clear hc) | skip)) | refine And.intro (by first | omega | (simp only [Sy.lc, Sy.ll]; omega) | (simp only [Sy.lc] at *; omega)) ?_ | refine And.intro ?_ ?_ | exact rfl | (refine congrArg SV.bool (decide_eq_true ?_); first | rfl | omega | assumption) | refine Pick.mk _ rfl ?_ | refine fun (bN : Nat) => ?_ | refine fun (zA : Bool) (bA : Bs) (cA : Nat) hA => ?_ | (intro x' hx''; rw [hka, hgq] at hx''; obtain rfl := Option.some.inj hx'')
      refine reg_st mixed (s := sch13 6) (by kernel_rfl) 56 (σ := Bool × Bs × Nat) (fun (z, b, c) => [(0, .ptr 0 sb 0 0 0), (7, .int .i64 k)])
        (fun (z, b, c) => sH sb S ((S.rows.map (setp 3)).set k (⟨q.l ++ [x], 3, z, b, c⟩ : Pt)) (S.rows.eraseIdx k) ++ atomsP 3 (⟨q.l ++ [x], 3, z, b, c⟩ : Pt)) (fun _ => True) ?_ ?_
      · repeat' first | exact trivial | refine And.intro trivial ?_ | refine And.intro rfl ?_ | refine And.intro (one_flat (fun _ => rfl) _) ?_ | refine Fit.yes (by omega) ?_ | refine Fit.no ?_ | (refine And.intro (fun hc => ?_) (fun hc => ?_) <;> ((try simp only [Sy.nf, ne_eq, reduceCtorEq, eq_self] at hc); first | (exfalso; first | omega | exact absurd hc (by assumption) | exact absurd (by assumption) hc) | (with_reducible change True at hc; clear hc) | skip)) | refine And.intro (by first | omega | (simp only [Sy.lc, Sy.ll]; omega) | (simp only [Sy.lc] at *; omega)) ?_ | refine And.intro ?_ ?_ | exact rfl | (refine congrArg SV.bool (decide_eq_true ?_); first | rfl | omega | assumption) | refine Pick.mk _ rfl ?_ | refine fun (bN : Nat) => ?_ | refine fun (zA : Bool) (bA : Bs) (cA : Nat) hA => ?_ | (intro x' hx''; rw [hka, hgq] at hx''; obtain rfl := Option.some.inj hx'')
        all_goals try (first | exact Nat.le_refl _ | (show _ ≤ _; simp only [setp]; omega))
        all_goals try (intro x' hx''; rw [hka, hgq] at hx''; obtain rfl := Option.some.inj hx''; exact rfl)
        all_goals
          refine ⟨Evt, encEv, [], rfl, rfl, by simp, ?_⟩
          refine ⟨q.l, by simp [setp], fun _ _ => rfl, ?_⟩
          repeat' first | exact trivial | refine And.intro trivial ?_ | refine And.intro rfl ?_ | refine And.intro (one_flat (fun _ => rfl) _) ?_ | refine Fit.yes (by omega) ?_ | refine Fit.no ?_ | (refine And.intro (fun hc => ?_) (fun hc => ?_) <;> ((try simp only [Sy.nf, ne_eq, reduceCtorEq, eq_self] at hc); first | (exfalso; first | omega | exact absurd hc (by assumption) | exact absurd (by assumption) hc) | (with_reducible change True at hc; clear hc) | skip)) | refine And.intro (by first | omega | (simp only [Sy.lc, Sy.ll]; omega) | (simp only [Sy.lc] at *; omega)) ?_ | refine And.intro ?_ ?_ | exact rfl | (refine congrArg SV.bool (decide_eq_true ?_); first | rfl | omega | assumption) | refine Pick.mk _ rfl ?_ | refine fun (bN : Nat) => ?_ | refine fun (zA : Bool) (bA : Bs) (cA : Nat) hA => ?_ | (intro x' hx''; rw [hka, hgq] at hx''; obtain rfl := Option.some.inj hx'')
          first
            | refine Pick.mk (⟨q.l ++ [x], 5, zA, bA, cA⟩ : Pt) rfl ?_
            | refine Pick.mk (⟨q.l ++ [x], 6, zA, bA, cA⟩ : Pt) rfl ?_
          rw [hka]
          repeat' first | exact trivial | refine And.intro trivial ?_ | refine And.intro rfl ?_ | refine And.intro (one_flat (fun _ => rfl) _) ?_ | refine Fit.yes (by omega) ?_ | refine Fit.no ?_ | (refine And.intro (fun hc => ?_) (fun hc => ?_) <;> ((try simp only [Sy.nf, ne_eq, reduceCtorEq, eq_self] at hc); first | (exfalso; first | omega | exact absurd hc (by assumption) | exact absurd (by assumption) hc) | (with_reducible change True at hc; clear hc) | skip)) | refine And.intro (by first | omega | (simp only [Sy.lc, Sy.ll]; omega) | (simp only [Sy.lc] at *; omega)) ?_ | refine And.intro ?_ ?_ | exact rfl | (refine congrArg SV.bool (decide_eq_true ?_); first | rfl | omega | assumption) | refine Pick.mk _ rfl ?_ | refine fun (bN : Nat) => ?_ | refine fun (zA : Bool) (bA : Bs) (cA : Nat) hA => ?_ | (intro x' hx''; rw [hka, hgq] at hx''; obtain rfl := Option.some.inj hx'')
          conv => whnf
          repeat' first | exact trivial | refine And.intro trivial ?_ | refine And.intro rfl ?_ | refine And.intro (one_flat (fun _ => rfl) _) ?_ | refine Fit.yes (by omega) ?_ | refine Fit.no ?_ | (refine And.intro (fun hc => ?_) (fun hc => ?_) <;> ((try simp only [Sy.nf, ne_eq, reduceCtorEq, eq_self] at hc); first | (exfalso; first | omega | exact absurd hc (by assumption) | exact absurd (by assumption) hc) | (with_reducible change True at hc; clear hc) | skip)) | refine And.intro (by first | omega | (simp only [Sy.lc, Sy.ll]; omega) | (simp only [Sy.lc] at *; omega)) ?_ | refine And.intro ?_ ?_ | exact rfl | (refine congrArg SV.bool (decide_eq_true ?_); first | rfl | omega | assumption) | refine Pick.mk _ rfl ?_ | refine fun (bN : Nat) => ?_ | refine fun (zA : Bool) (bA : Bs) (cA : Nat) hA => ?_
          refine ⟨(zA, bA, cA), trivial, rfl, ⟨rfl, rfl, trivial⟩, ?_⟩
          first
            | exact Tells.pick [some 0, some 1, some 2, some 5] (by decide) ⟨Retell.refl _, Retell.map (denP (by simp only [List.map_set]; rfl)) (by simp) (fun _ _ => rfl), Retell.refl _, Retell.refl _, rfl⟩
            | exact Tells.pick [some 0, some 1, some 2, some 6] (by decide) ⟨Retell.refl _, Retell.map (denP (by simp only [List.map_set]; rfl)) (by simp) (fun _ _ => rfl), Retell.refl _, Retell.refl _, rfl⟩
      · intro ⟨z, b, c⟩ J _
        have hgq2 : ((S.rows.map (setp 3)).set k (⟨q.l ++ [x], 3, z, b, c⟩ : Pt))[0 + (k : Int).toNat]? = some ⟨q.l ++ [x], 3, z, b, c⟩ := by rw [hka, List.getElem?_set_self (by omega)]
        repeat' first | exact trivial | refine And.intro trivial ?_ | refine And.intro rfl ?_ | refine And.intro (one_flat (fun _ => rfl) _) ?_ | refine Fit.yes (by omega) ?_ | refine Fit.no ?_ | (refine And.intro (fun hc => ?_) (fun hc => ?_) <;> ((try simp only [Sy.nf, ne_eq, reduceCtorEq, eq_self] at hc); first | (exfalso; first | omega | exact absurd hc (by assumption) | exact absurd (by assumption) hc) | (with_reducible change True at hc; clear hc) | skip)) | refine And.intro (by first | omega | (simp only [Sy.lc, Sy.ll]; omega) | (simp only [Sy.lc] at *; omega)) ?_ | refine And.intro ?_ ?_ | exact rfl | (refine congrArg SV.bool (decide_eq_true ?_); first | rfl | omega | assumption) | refine Pick.mk _ rfl ?_ | refine fun (bN : Nat) => ?_ | refine fun (zA : Bool) (bA : Bs) (cA : Nat) hA => ?_ | (intro x' hx''; rw [hgq2] at hx''; obtain rfl := Option.some.inj hx'')
        conv => whnf
        repeat' first | exact trivial | refine And.intro trivial ?_ | refine And.intro rfl ?_ | refine And.intro (one_flat (fun _ => rfl) _) ?_ | refine Fit.yes (by omega) ?_ | refine Fit.no ?_ | (refine And.intro (fun hc => ?_) (fun hc => ?_) <;> ((try simp only [Sy.nf, ne_eq, reduceCtorEq, eq_self] at hc); first | (exfalso; first | omega | exact absurd hc (by assumption) | exact absurd (by assumption) hc) | (with_reducible change True at hc; clear hc) | skip)) | refine And.intro (by first | omega | (simp only [Sy.lc, Sy.ll]; omega) | (simp only [Sy.lc] at *; omega)) ?_ | refine And.intro ?_ ?_ | exact rfl | (refine congrArg SV.bool (decide_eq_true ?_); first | rfl | omega | assumption) | refine Pick.mk _ rfl ?_ | refine fun (bN : Nat) => ?_ | refine fun (zA : Bool) (bA : Bs) (cA : Nat) hA => ?_ | (intro x' hx''; rw [hgq2] at hx''; obtain rfl := Option.some.inj hx'')
        refine ⟨.tup [.int .i64 k, .int .i64 q.l.length, .int .i64 0], _, ?_, sclose (x' := ⟨q.l ++ [x], 3, z, b, c⟩) hq (by rw [List.map_set, List.map_set, List.map_map]; rfl), h _ (okSrc_set hS (by simp; omega)) (sab_set S k _) (by simp)⟩
        have e : IntKind.i64.wrap (((q.l ++ [x]).length : Nat) - 1 : Int) = q.l.length := by
          have hl1 : (q.l ++ [x]).length = q.l.length + 1 := by simp
          rw [hl1, wrap_i64 ⟨by omega, by omega⟩]; omega
        show (SV.tup [SV.int .i64 k, SV.int .i64 q.l.length, SV.int .i64 0]).den = (SV.tup [SV.int .i64 k, SV.int .i64 (IntKind.i64.wrap (((q.l ++ [x]).length : Nat) - 1 : Int)), SV.int .i64 0]).den
        rw [e]
end Go.Proofs.YtgapmdkiijpmpaaDoor

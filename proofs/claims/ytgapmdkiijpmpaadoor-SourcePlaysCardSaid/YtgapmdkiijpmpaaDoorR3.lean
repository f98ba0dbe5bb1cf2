/- The document's source: read and below. Own work. -/
import Derived.Test.YtgapmdkiijpmpaaDoorR2
import Derived.Test.YtgapmdkiijpmpaaDoorS7
namespace Go.Proofs.YtgapmdkiijpmpaaDoor
open Go Go.Sy Go.Sp
set_option maxRecDepth 100000
set_option linter.unusedVariables false
set_option linter.unusedSimpArgs false
set_option maxHeartbeats 4000000
theorem cut_same (l : List Evt) (c f m off n : Nat) (hc : l.length ≤ c) (hf : f ≤ l.length) (hoff : off = if c = f then 0 else 0 + f) (hn : n = min m (l.length - f)) : (l.drop off).take n = (l.drop f).take (min m (l.length - f)) := by
  rw [hoff]
  split
  · have h0 : n = 0 := by omega
    rw [h0, ← hn, h0, List.take_zero, List.take_zero]
  · rw [hn, Nat.zero_add]
theorem refRead_ob (sb : Bs) (S : Src) (hS : okSrc S) (part frm most : Int) {O : List Evt} {e : Int} (hR : readA S.ab part frm most = (O, e)) (K : SV → SH → Prop)
    (h : ∀ oz ob oc, K (.tup [.sl 3 oz ob 7 0 O.length oc, .int .i64 e]) (sM sb S ++ [(ob, .vec oz oc encEv 7 O)])) : FnOb Tryd.prog 15 [.ptr 0 sb 0 0 0, .int .i64 part, .int .i64 frm, .int .i64 most] (sM sb S) K := by
  obtain ⟨hS1, hS2, hS3⟩ := id hS
  have hal : S.ab.length = S.rows.length := by simp [Src.ab]
  by_cases hp : part < 0 ∨ (S.rows.length : Int) ≤ part
  · unfold readA at hR
    rw [if_pos (by rw [hal]; exact hp)] at hR
    obtain ⟨rfl, rfl⟩ := Prod.mk.inj hR
    have := h true ⟨0, 0⟩ 0
    apply FnOb.tidy
    apply en15
    (repeat' first | exact trivial | refine And.intro trivial ?_ | refine And.intro rfl ?_ | refine And.intro (one_flat (fun _ => rfl) _) ?_ | refine Fit.yes (by omega) ?_ | refine Fit.no ?_ | (refine And.intro (fun hc => ?_) (fun hc => ?_) <;> ((try simp only [Sy.nf, ne_eq, reduceCtorEq, eq_self] at hc); first | (exfalso; first | omega | exact absurd hc (by assumption) | exact absurd (by assumption) hc) | (with_reducible change True at hc; clear hc) | skip)) | refine And.intro (by first | omega | (simp only [Sy.lc, Sy.ll]; omega) | (simp only [Sy.lc] at *; omega)) ?_ | refine And.intro ?_ ?_ | exact rfl | (refine congrArg SV.bool (decide_eq_true ?_); first | rfl | omega | assumption) | refine Pick.mk _ rfl ?_ | refine fun (bN : Nat) => ?_ | refine fun (zA : Bool) (bA : Bs) (cA : Nat) hA => ?_); all_goals (try (conv => whnf)); (repeat' first | exact trivial | refine And.intro trivial ?_ | refine And.intro rfl ?_ | refine And.intro (one_flat (fun _ => rfl) _) ?_ | refine Fit.yes (by omega) ?_ | refine Fit.no ?_ | (refine And.intro (fun hc => ?_) (fun hc => ?_) <;> ((try simp only [Sy.nf, ne_eq, reduceCtorEq, eq_self] at hc); first | (exfalso; first | omega | exact absurd hc (by assumption) | exact absurd (by assumption) hc) | (with_reducible change True at hc; clear hc) | skip)) | refine And.intro (by first | omega | (simp only [Sy.lc, Sy.ll]; omega) | (simp only [Sy.lc] at *; omega)) ?_ | refine And.intro ?_ ?_ | exact rfl | (refine congrArg SV.bool (decide_eq_true ?_); first | rfl | omega | assumption) | refine Pick.mk _ rfl ?_ | refine fun (bN : Nat) => ?_ | refine fun (zA : Bool) (bA : Bs) (cA : Nat) hA => ?_)
    all_goals
      refine ⟨.tup [.sl 3 true ⟨0, 0⟩ 7 0 0 0, .int .i64 1], sM sb S ++ [(⟨0, 0⟩, .vec true 0 encEv 7 [])], rfl, ?_, this⟩
      exact Tells.pick [some 0, some 1, some 2, none] (by decide) ⟨Retell.refl _, Retell.refl _, Retell.refl _, Ghost.vec, rfl⟩
  · obtain ⟨k, rfl⟩ : ∃ k : Nat, part = k := ⟨part.toNat, by omega⟩
    obtain ⟨q, hq⟩ : ∃ q, S.rows[k]? = some q := ⟨_, List.getElem?_eq_getElem (by omega)⟩
    have hqa : S.ab[k]? = some q.l := by unfold Src.ab; rw [List.getElem?_map, hq]; rfl
    have hqd : S.ab.getD k [] = q.l := by rw [List.getD_eq_getElem?_getD, hqa]; rfl
    have hql := hS3 q (List.mem_of_getElem? hq)
    have hlm : (S.rows.map (setp 3)).length = S.rows.length := by simp
    have hgq : (S.rows.map (setp 3))[0 + (k : Int).toNat]? = some (setp 3 q) := by rw [show 0 + (k : Int).toNat = k by omega, List.getElem?_map, hq]; rfl
    have hql' : (setp 3 q).l.length = q.l.length := rfl
    have hqc' : (setp 3 q).c = q.c := rfl
    unfold readA at hR
    rw [if_neg (by rw [hal]; exact hp), Int.toNat_natCast, hqd] at hR
    refine FnOb.start (sopen hq) ?_
    refine FnOb.know (q.l.length ≤ q.c) (fun w hw => HSat.room hw (i := 3) rfl) fun hroom => ?_
    have hend : ∀ (H : SH), Tells H (sO sb S k q) → Tells H (sM sb S) := fun H hH => hH.trans (ssame hq (by simp only [List.map_map]; rfl))
    apply FnOb.tidy
    apply en15
    by_cases hf : frm < 0 ∨ (q.l.length : Int) < frm
    · rw [if_pos hf] at hR
      obtain ⟨rfl, rfl⟩ := Prod.mk.inj hR
      have := h true ⟨0, 0⟩ 0
      repeat' first | exact trivial | refine And.intro trivial ?_ | refine And.intro rfl ?_ | refine And.intro (one_flat (fun _ => rfl) _) ?_ | refine Fit.yes (by omega) ?_ | refine Fit.no ?_ | (refine And.intro (fun hc => ?_) (fun hc => ?_) <;> ((try simp only [Sy.nf, ne_eq, reduceCtorEq, eq_self] at hc); first | (exfalso; first | omega | exact absurd hc (by assumption) | exact absurd (by assumption) hc) | (with_reducible change True at hc; clear hc) | skip)) | refine And.intro (by first | omega | (simp only [Sy.lc, Sy.ll]; omega) | (simp only [Sy.lc] at *; omega)) ?_ | refine And.intro ?_ ?_ | exact rfl | (refine congrArg SV.bool (decide_eq_true ?_); first | rfl | omega | assumption) | refine Pick.mk _ rfl ?_ | refine fun (bN : Nat) => ?_ | refine fun (zA : Bool) (bA : Bs) (cA : Nat) hA => ?_ | (intro x' hx''; obtain rfl := Option.some.inj (hgq.symm.trans hx''))
      all_goals (try (conv => whnf))
      all_goals repeat' first | exact trivial | refine And.intro trivial ?_ | refine And.intro rfl ?_ | refine And.intro (one_flat (fun _ => rfl) _) ?_ | refine Fit.yes (by omega) ?_ | refine Fit.no ?_ | (refine And.intro (fun hc => ?_) (fun hc => ?_) <;> ((try simp only [Sy.nf, ne_eq, reduceCtorEq, eq_self] at hc); first | (exfalso; first | omega | exact absurd hc (by assumption) | exact absurd (by assumption) hc) | (with_reducible change True at hc; clear hc) | skip)) | refine And.intro (by first | omega | (simp only [Sy.lc, Sy.ll]; omega) | (simp only [Sy.lc] at *; omega)) ?_ | refine And.intro ?_ ?_ | exact rfl | (refine congrArg SV.bool (decide_eq_true ?_); first | rfl | omega | assumption) | refine Pick.mk _ rfl ?_ | refine fun (bN : Nat) => ?_ | refine fun (zA : Bool) (bA : Bs) (cA : Nat) hA => ?_ | (intro x' hx''; obtain rfl := Option.some.inj (hgq.symm.trans hx''))
      all_goals (try (conv => whnf))
      all_goals repeat' first | exact trivial | refine And.intro trivial ?_ | refine And.intro rfl ?_ | refine And.intro (one_flat (fun _ => rfl) _) ?_ | refine Fit.yes (by omega) ?_ | refine Fit.no ?_ | (refine And.intro (fun hc => ?_) (fun hc => ?_) <;> ((try simp only [Sy.nf, ne_eq, reduceCtorEq, eq_self] at hc); first | (exfalso; first | omega | exact absurd hc (by assumption) | exact absurd (by assumption) hc) | (with_reducible change True at hc; clear hc) | skip)) | refine And.intro (by first | omega | (simp only [Sy.lc, Sy.ll]; omega) | (simp only [Sy.lc] at *; omega)) ?_ | refine And.intro ?_ ?_ | exact rfl | (refine congrArg SV.bool (decide_eq_true ?_); first | rfl | omega | assumption) | refine Pick.mk _ rfl ?_ | refine fun (bN : Nat) => ?_ | refine fun (zA : Bool) (bA : Bs) (cA : Nat) hA => ?_
      all_goals
        refine ⟨.tup [.sl 3 true ⟨0, 0⟩ 7 0 0 0, .int .i64 50], sM sb S ++ [(⟨0, 0⟩, .vec true 0 encEv 7 [])], rfl, Tells.trans (H1 := sM sb S) (hend _ (by (refine Tells.pick [some 0, some 1, some 2, some 3] (by decide) ?_; repeat' first | exact rfl | exact Retell.refl _ | exact Retell.lit rfl | exact Retell.rows | exact Ghost.vec | exact Ghost.win | refine And.intro ?_ ?_))) ?_, this⟩
        exact Tells.pick [some 0, some 1, some 2, none] (by decide) ⟨Retell.refl _, Retell.refl _, Retell.refl _, Ghost.vec, rfl⟩
    · rw [if_neg hf] at hR
      by_cases hm : most < 0
      · rw [if_pos hm] at hR
        obtain ⟨rfl, rfl⟩ := Prod.mk.inj hR
        have := h true ⟨0, 0⟩ 0
        repeat' first | exact trivial | refine And.intro trivial ?_ | refine And.intro rfl ?_ | refine And.intro (one_flat (fun _ => rfl) _) ?_ | refine Fit.yes (by omega) ?_ | refine Fit.no ?_ | (refine And.intro (fun hc => ?_) (fun hc => ?_) <;> ((try simp only [Sy.nf, ne_eq, reduceCtorEq, eq_self] at hc); first | (exfalso; first | omega | exact absurd hc (by assumption) | exact absurd (by assumption) hc) | (with_reducible change True at hc; clear hc) | skip)) | refine And.intro (by first | omega | (simp only [Sy.lc, Sy.ll]; omega) | (simp only [Sy.lc] at *; omega)) ?_ | refine And.intro ?_ ?_ | exact rfl | (refine congrArg SV.bool (decide_eq_true ?_); first | rfl | omega | assumption) | refine Pick.mk _ rfl ?_ | refine fun (bN : Nat) => ?_ | refine fun (zA : Bool) (bA : Bs) (cA : Nat) hA => ?_ | (intro x' hx''; obtain rfl := Option.some.inj (hgq.symm.trans hx''))
        all_goals (try (conv => whnf))
        all_goals repeat' first | exact trivial | refine And.intro trivial ?_ | refine And.intro rfl ?_ | refine And.intro (one_flat (fun _ => rfl) _) ?_ | refine Fit.yes (by omega) ?_ | refine Fit.no ?_ | (refine And.intro (fun hc => ?_) (fun hc => ?_) <;> ((try simp only [Sy.nf, ne_eq, reduceCtorEq, eq_self] at hc); first | (exfalso; first | omega | exact absurd hc (by assumption) | exact absurd (by assumption) hc) | (with_reducible change True at hc; clear hc) | skip)) | refine And.intro (by first | omega | (simp only [Sy.lc, Sy.ll]; omega) | (simp only [Sy.lc] at *; omega)) ?_ | refine And.intro ?_ ?_ | exact rfl | (refine congrArg SV.bool (decide_eq_true ?_); first | rfl | omega | assumption) | refine Pick.mk _ rfl ?_ | refine fun (bN : Nat) => ?_ | refine fun (zA : Bool) (bA : Bs) (cA : Nat) hA => ?_ | (intro x' hx''; obtain rfl := Option.some.inj (hgq.symm.trans hx''))
        all_goals (try (conv => whnf))
        all_goals repeat' first | exact trivial | refine And.intro trivial ?_ | refine And.intro rfl ?_ | refine And.intro (one_flat (fun _ => rfl) _) ?_ | refine Fit.yes (by omega) ?_ | refine Fit.no ?_ | (refine And.intro (fun hc => ?_) (fun hc => ?_) <;> ((try simp only [Sy.nf, ne_eq, reduceCtorEq, eq_self] at hc); first | (exfalso; first | omega | exact absurd hc (by assumption) | exact absurd (by assumption) hc) | (with_reducible change True at hc; clear hc) | skip)) | refine And.intro (by first | omega | (simp only [Sy.lc, Sy.ll]; omega) | (simp only [Sy.lc] at *; omega)) ?_ | refine And.intro ?_ ?_ | exact rfl | (refine congrArg SV.bool (decide_eq_true ?_); first | rfl | omega | assumption) | refine Pick.mk _ rfl ?_ | refine fun (bN : Nat) => ?_ | refine fun (zA : Bool) (bA : Bs) (cA : Nat) hA => ?_
        refine ⟨.tup [.sl 3 true ⟨0, 0⟩ 7 0 0 0, .int .i64 1], sM sb S ++ [(⟨0, 0⟩, .vec true 0 encEv 7 [])], rfl, Tells.trans (H1 := sM sb S) (hend _ (by (refine Tells.pick [some 0, some 1, some 2, some 3] (by decide) ?_; repeat' first | exact rfl | exact Retell.refl _ | exact Retell.lit rfl | exact Retell.rows | exact Ghost.vec | exact Ghost.win | refine And.intro ?_ ?_))) ?_, this⟩
        exact Tells.pick [some 0, some 1, some 2, none] (by decide) ⟨Retell.refl _, Retell.refl _, Retell.refl _, Ghost.vec, rfl⟩
      · rw [if_neg hm] at hR
        obtain ⟨f, rfl⟩ : ∃ f : Nat, frm = f := ⟨frm.toNat, by omega⟩
        obtain ⟨m, rfl⟩ : ∃ m : Nat, most = m := ⟨most.toNat, by omega⟩
        simp only [Int.toNat_natCast] at hR
        repeat' first | exact trivial | refine And.intro trivial ?_ | refine And.intro rfl ?_ | refine And.intro (one_flat (fun _ => rfl) _) ?_ | refine Fit.yes (by omega) ?_ | refine Fit.no ?_ | (refine And.intro (fun hc => ?_) (fun hc => ?_) <;> ((try simp only [Sy.nf, ne_eq, reduceCtorEq, eq_self] at hc); first | (exfalso; first | omega | exact absurd hc (by assumption) | exact absurd (by assumption) hc) | (with_reducible change True at hc; clear hc) | skip)) | refine And.intro (by first | omega | (simp only [Sy.lc, Sy.ll]; omega) | (simp only [Sy.lc] at *; omega)) ?_ | refine And.intro ?_ ?_ | exact rfl | (refine congrArg SV.bool (decide_eq_true ?_); first | rfl | omega | assumption) | refine Pick.mk _ rfl ?_ | refine fun (bN : Nat) => ?_ | refine fun (zA : Bool) (bA : Bs) (cA : Nat) hA => ?_ | (intro x' hx''; obtain rfl := Option.some.inj (hgq.symm.trans hx''))
        all_goals (try (conv => whnf))
        all_goals repeat' first | exact trivial | refine And.intro trivial ?_ | refine And.intro rfl ?_ | refine And.intro (one_flat (fun _ => rfl) _) ?_ | refine Fit.yes (by omega) ?_ | refine Fit.no ?_ | (refine And.intro (fun hc => ?_) (fun hc => ?_) <;> ((try simp only [Sy.nf, ne_eq, reduceCtorEq, eq_self] at hc); first | (exfalso; first | omega | exact absurd hc (by assumption) | exact absurd (by assumption) hc) | (with_reducible change True at hc; clear hc) | skip)) | refine And.intro (by first | omega | (simp only [Sy.lc, Sy.ll]; omega) | (simp only [Sy.lc] at *; omega)) ?_ | refine And.intro ?_ ?_ | exact rfl | (refine congrArg SV.bool (decide_eq_true ?_); first | rfl | omega | assumption) | refine Pick.mk _ rfl ?_ | refine fun (bN : Nat) => ?_ | refine fun (zA : Bool) (bA : Bs) (cA : Nat) hA => ?_ | (intro x' hx''; obtain rfl := Option.some.inj (hgq.symm.trans hx''))
        all_goals obtain ⟨n, hn⟩ : ∃ n, n = (min (m : Int) ((((setp 3 q).l.length - (f : Int).toNat : Nat)) : Int)).toNat := ⟨_, rfl⟩
        all_goals obtain ⟨off, hoff⟩ : ∃ off, off = (if (setp 3 q).c = (f : Int).toNat then 0 else 0 + (f : Int).toNat) := ⟨_, rfl⟩
        all_goals rw [← hn, ← hoff]
        all_goals have hnn : n = min m (q.l.length - f) := by omega
        all_goals have hofn : off + n ≤ q.l.length := by rw [hoff]; split <;> omega
        all_goals first | exact hofn | skip
        all_goals have hcell := cut_same q.l q.c f m off n hroom (by omega) (by rw [hoff, Int.toNat_natCast]; rfl) hnn
        all_goals obtain ⟨rfl, rfl⟩ := Prod.mk.inj hR
        all_goals have hnl : n = ((q.l.drop f).take (min m (q.l.length - f))).length := by rw [← hcell]; simp; omega
        all_goals rw [← hcell] at h
        all_goals have hnl2 : ((q.l.drop off).take n).length = n := by simp; omega
        all_goals
          refine ⟨Evt, encEv, [], rfl, rfl, by simp, ?_⟩
          refine ⟨(q.l.drop off).take n, rfl, fun _ _ => rfl, ?_⟩
          (repeat' first | exact trivial | refine And.intro trivial ?_ | refine And.intro rfl ?_ | refine And.intro (one_flat (fun _ => rfl) _) ?_ | refine Fit.yes (by omega) ?_ | refine Fit.no ?_ | (refine And.intro (fun hc => ?_) (fun hc => ?_) <;> ((try simp only [Sy.nf, ne_eq, reduceCtorEq, eq_self] at hc); first | (exfalso; first | omega | exact absurd hc (by assumption) | exact absurd (by assumption) hc) | (with_reducible change True at hc; clear hc) | skip)) | refine And.intro (by first | omega | (simp only [Sy.lc, Sy.ll]; omega) | (simp only [Sy.lc] at *; omega)) ?_ | refine And.intro ?_ ?_ | exact rfl | (refine congrArg SV.bool (decide_eq_true ?_); first | rfl | omega | assumption) | refine Pick.mk _ rfl ?_ | refine fun (bN : Nat) => ?_ | refine fun (zA : Bool) (bA : Bs) (cA : Nat) hA => ?_); all_goals (try (conv => whnf)); (repeat' first | exact trivial | refine And.intro trivial ?_ | refine And.intro rfl ?_ | refine And.intro (one_flat (fun _ => rfl) _) ?_ | refine Fit.yes (by omega) ?_ | refine Fit.no ?_ | (refine And.intro (fun hc => ?_) (fun hc => ?_) <;> ((try simp only [Sy.nf, ne_eq, reduceCtorEq, eq_self] at hc); first | (exfalso; first | omega | exact absurd hc (by assumption) | exact absurd (by assumption) hc) | (with_reducible change True at hc; clear hc) | skip)) | refine And.intro (by first | omega | (simp only [Sy.lc, Sy.ll]; omega) | (simp only [Sy.lc] at *; omega)) ?_ | refine And.intro ?_ ?_ | exact rfl | (refine congrArg SV.bool (decide_eq_true ?_); first | rfl | omega | assumption) | refine Pick.mk _ rfl ?_ | refine fun (bN : Nat) => ?_ | refine fun (zA : Bool) (bA : Bs) (cA : Nat) hA => ?_)
          have := h zA bA cA
          rw [hnl2] at this
          exact ⟨.tup [.sl 3 zA bA 7 0 n cA, .int .i64 0], _, congrArg (fun j => (SV.tup [SV.sl 3 zA bA 7 0 j cA, SV.int .i64 0]).den) hnl2.symm, Tells.trans (H1 := sO sb S k q ++ [(bA, .vec zA cA encEv 7 ((q.l.drop off).take n))]) (by (refine Tells.pick [some 0, some 1, some 2, some 3, some 4] (by decide) ?_; repeat' first | exact rfl | exact Retell.refl _ | exact Retell.lit rfl | exact Retell.rows | exact Ghost.vec | exact Ghost.win | refine And.intro ?_ ?_)) (ssameY hq), this⟩
end Go.Proofs.YtgapmdkiijpmpaaDoor

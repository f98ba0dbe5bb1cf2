/- The source: an event is put. Own work. -/
import Derived.Test.YtgapmdkiijpmpaaDoorS2
namespace Go.Proofs.YtgapmdkiijpmpaaDoor
open Go Go.Sy Go.Sp
set_option maxRecDepth 100000
set_option linter.unusedVariables false
set_option linter.unusedSimpArgs false
set_option maxHeartbeats 4000000
def putA (A : List (List Evt)) (x : Evt) : (Int × Int × Int) × List (List Evt) := if mayE x = false then ((0, 0, 20), A) else match A[partOf x.key A.length]? with
  | none => ((0, 0, 0), A)
  | some l => if 4096 ≤ l.length then ((0, 0, 2), A) else (((partOf x.key A.length : Nat), (l.length : Nat), 0), A.set (partOf x.key A.length) (l ++ [x]))
theorem okSrc_set {S : Src} {k : Nat} {x' : Pt} (hS : okSrc S) (hx : x'.l.length ≤ 4096) : okSrc { S with rows := S.rows.set k x' } :=
  ⟨by simpa using hS.1, by simpa using hS.2.1, fun y hy => by rcases List.mem_or_eq_of_mem_set hy with h | rfl; exact hS.2.2 y h; exact hx⟩
theorem sab_set (S : Src) (k : Nat) (x' : Pt) : ({ S with rows := S.rows.set k x' } : Src).ab = S.ab.set k x'.l := by simp [Src.ab, List.map_set]
theorem check2_ob (x : Evt) (hx : okE x) (K : SV → SH → Prop) (h1 : mayE x = true → K (.int .i64 0) []) (h2 : mayE x = false → K (.int .i64 20) []) : FnOb Tryd.prog 26 [.agg (encEv x)] [] K := by
  refine check_ob x hx K ?_
  cases hm : mayE x with
  | true => exact h1 hm
  | false => exact h2 hm
theorem put_ob (sb : Bs) (S : Src) (hS : okSrc S) (x : Evt) (hx : okE x) {p o e : Int} {A : List (List Evt)} (hR : putA S.ab x = ((p, o, e), A)) (K : SV → SH → Prop)
    (h : ∀ S' : Src, okSrc S' → S'.ab = A → S'.rows.length = S.rows.length → K (.tup [.int .i64 p, .int .i64 o, .int .i64 e]) (sM sb S')) : FnOb Tryd.prog 10 [.ptr 0 sb 0 0 0, .agg (encEv x)] (sM sb S) K := by
  obtain ⟨hS1, hS2, hS3⟩ := id hS
  have hal : S.ab.length = S.rows.length := by simp [Src.ab]
  obtain ⟨k, hk⟩ : ∃ k, k = partOf x.key S.rows.length := ⟨_, rfl⟩
  have hkl : k < S.rows.length := by rw [hk]; exact Nat.mod_lt _ (by omega)
  obtain ⟨q, hq⟩ : ∃ q, S.rows[k]? = some q := ⟨_, List.getElem?_eq_getElem hkl⟩
  have hqa : S.ab[k]? = some q.l := by unfold Src.ab; rw [List.getElem?_map, hq]; rfl
  have hql := hS3 q (List.mem_of_getElem? hq)
  have hka : 0 + (k : Int).toNat = k := by omega
  have hlm : (S.rows.map (setp 3)).length = S.rows.length := by simp
  have hgq : (S.rows.map (setp 3))[k]? = some (setp 3 q) := by rw [List.getElem?_map, hq]; rfl
  unfold putA at hR
  rw [hal, ← hk, hqa] at hR
  dsimp only at hR
  refine FnOb.start (sopen hq) ?_
  apply FnOb.tidy
  apply en10
  repeat' first | exact trivial | refine And.intro trivial ?_ | refine And.intro rfl ?_ | refine And.intro (one_flat (fun _ => rfl) _) ?_ | refine Fit.yes (by omega) ?_ | refine Fit.no ?_ | (refine And.intro (fun hc => ?_) (fun hc => ?_) <;> ((try simp only [Sy.nf, ne_eq, reduceCtorEq, eq_self] at hc); first | (exfalso; first | omega | exact absurd hc (by assumption) | exact absurd (by assumption) hc) | (with_reducible change True at hc; clear hc) | skip)) | refine And.intro (by first | omega | (simp only [Sy.lc, Sy.ll]; omega) | (simp only [Sy.lc] at *; omega)) ?_ | refine And.intro ?_ ?_ | exact rfl | (refine congrArg SV.bool (decide_eq_true ?_); first | rfl | omega | assumption) | refine Pick.mk _ rfl ?_ | refine fun (bN : Nat) => ?_ | refine fun (zA : Bool) (bA : Bs) (cA : Nat) hA => ?_
  conv => whnf
  repeat' first | exact trivial | refine And.intro trivial ?_ | refine And.intro rfl ?_ | refine And.intro (one_flat (fun _ => rfl) _) ?_ | refine Fit.yes (by omega) ?_ | refine Fit.no ?_ | (refine And.intro (fun hc => ?_) (fun hc => ?_) <;> ((try simp only [Sy.nf, ne_eq, reduceCtorEq, eq_self] at hc); first | (exfalso; first | omega | exact absurd hc (by assumption) | exact absurd (by assumption) hc) | (with_reducible change True at hc; clear hc) | skip)) | refine And.intro (by first | omega | (simp only [Sy.lc, Sy.ll]; omega) | (simp only [Sy.lc] at *; omega)) ?_ | refine And.intro ?_ ?_ | exact rfl | (refine congrArg SV.bool (decide_eq_true ?_); first | rfl | omega | assumption) | refine Pick.mk _ rfl ?_ | refine fun (bN : Nat) => ?_ | refine fun (zA : Bool) (bA : Bs) (cA : Nat) hA => ?_
  refine FnOb.pure (check2_ob x hx _ (fun hm => ?_) (fun hm => ?_))
  · rw [if_neg (by rw [hm]; simp)] at hR
    repeat' first | exact trivial | refine And.intro trivial ?_ | refine And.intro rfl ?_ | refine And.intro (one_flat (fun _ => rfl) _) ?_ | refine Fit.yes (by omega) ?_ | refine Fit.no ?_ | (refine And.intro (fun hc => ?_) (fun hc => ?_) <;> ((try simp only [Sy.nf, ne_eq, reduceCtorEq, eq_self] at hc); first | (exfalso; first | omega | exact absurd hc (by assumption) | exact absurd (by assumption) hc) | (with_reducible change True at hc; clear hc) | skip)) | refine And.intro (by first | omega | (simp only [Sy.lc, Sy.ll]; omega) | (simp only [Sy.lc] at *; omega)) ?_ | refine And.intro ?_ ?_ | exact rfl | (refine congrArg SV.bool (decide_eq_true ?_); first | rfl | omega | assumption) | refine Pick.mk _ rfl ?_ | refine fun (bN : Nat) => ?_ | refine fun (zA : Bool) (bA : Bs) (cA : Nat) hA => ?_
    conv => whnf
    repeat' first | exact trivial | refine And.intro trivial ?_ | refine And.intro rfl ?_ | refine And.intro (one_flat (fun _ => rfl) _) ?_ | refine Fit.yes (by omega) ?_ | refine Fit.no ?_ | (refine And.intro (fun hc => ?_) (fun hc => ?_) <;> ((try simp only [Sy.nf, ne_eq, reduceCtorEq, eq_self] at hc); first | (exfalso; first | omega | exact absurd hc (by assumption) | exact absurd (by assumption) hc) | (with_reducible change True at hc; clear hc) | skip)) | refine And.intro (by first | omega | (simp only [Sy.lc, Sy.ll]; omega) | (simp only [Sy.lc] at *; omega)) ?_ | refine And.intro ?_ ?_ | exact rfl | (refine congrArg SV.bool (decide_eq_true ?_); first | rfl | omega | assumption) | refine Pick.mk _ rfl ?_ | refine fun (bN : Nat) => ?_ | refine fun (zA : Bool) (bA : Bs) (cA : Nat) hA => ?_
    refine FnOb.call [0, 1] (part_ob sb S.pb S.rows.length _ (by omega) x.key hx.1 _ ?_) (by decide) rfl rfl
    rw [← hk]
    by_cases h40 : 4096 ≤ q.l.length
    · rw [if_pos h40] at hR
      simp only [Prod.mk.injEq] at hR
      obtain ⟨⟨rfl, rfl, rfl⟩, rfl⟩ := hR
      have h40' : 4096 ≤ (setp 3 q).l.length := h40
      repeat' first | exact trivial | refine And.intro trivial ?_ | refine And.intro rfl ?_ | refine And.intro (one_flat (fun _ => rfl) _) ?_ | refine Fit.yes (by omega) ?_ | refine Fit.no ?_ | (refine And.intro (fun hc => ?_) (fun hc => ?_) <;> ((try simp only [Sy.nf, ne_eq, reduceCtorEq, eq_self] at hc); first | (exfalso; first | omega | exact absurd hc (by assumption) | exact absurd (by assumption) hc) | (with_reducible change True at hc; clear hc) | skip)) | refine And.intro (by first | omega | (simp only [Sy.lc, Sy.ll]; omega) | (simp only [Sy.lc] at *; omega)) ?_ | refine And.intro ?_ ?_ | exact rfl | (refine congrArg SV.bool (decide_eq_true ?_); first | rfl | omega | assumption) | refine Pick.mk _ rfl ?_ | refine fun (bN : Nat) => ?_ | refine fun (zA : Bool) (bA : Bs) (cA : Nat) hA => ?_ | (intro x' hx''; rw [hka, hgq] at hx''; obtain rfl := Option.some.inj hx'')
      exact ⟨_, _, rfl, Tells.trans (H1 := sO sb S k q) (by (refine Tells.pick [some 0, some 1, some 2, some 3] (by decide) ?_; repeat' first | exact rfl | exact Retell.refl _ | exact Retell.lit rfl | exact Retell.rows | exact Ghost.vec | exact Ghost.win | refine And.intro ?_ ?_)) (ssame hq (by simp only [List.map_map]; rfl)), h S hS rfl rfl⟩
    · rw [if_neg h40] at hR
      simp only [Prod.mk.injEq] at hR
      obtain ⟨⟨rfl, rfl, rfl⟩, rfl⟩ := hR
      have h40' : ¬ 4096 ≤ (setp 3 q).l.length := h40
      repeat' first | exact trivial | refine And.intro trivial ?_ | refine And.intro rfl ?_ | refine And.intro (one_flat (fun _ => rfl) _) ?_ | refine Fit.yes (by omega) ?_ | refine Fit.no ?_ | (refine And.intro (fun hc => ?_) (fun hc => ?_) <;> ((try simp only [Sy.nf, ne_eq, reduceCtorEq, eq_self] at hc); first | (exfalso; first | omega | exact absurd hc (by assumption) | exact absurd (by assumption) hc) | (with_reducible change True at hc; clear hc) | skip)) | refine And.intro (by first | omega | (simp only [Sy.lc, Sy.ll]; omega) | (simp only [Sy.lc] at *; omega)) ?_ | refine And.intro ?_ ?_ | exact rfl | (refine congrArg SV.bool (decide_eq_true ?_); first | rfl | omega | assumption) | refine Pick.mk _ rfl ?_ | refine fun (bN : Nat) => ?_ | refine fun (zA : Bool) (bA : Bs) (cA : Nat) hA => ?_ | (intro x' hx''; rw [hka, hgq] at hx''; obtain rfl := Option.some.inj hx'')
      refine Pick.mk (⟨q.l ++ [x], (setp 3 q).h, zA, bA, cA⟩ : Pt) rfl ?_
      rw [hka]
      conv => whnf
      repeat' first | exact trivial | refine And.intro trivial ?_ | refine And.intro rfl ?_ | refine And.intro (one_flat (fun _ => rfl) _) ?_ | refine Fit.yes (by omega) ?_ | refine Fit.no ?_ | (refine And.intro (fun hc => ?_) (fun hc => ?_) <;> ((try simp only [Sy.nf, ne_eq, reduceCtorEq, eq_self] at hc); first | (exfalso; first | omega | exact absurd hc (by assumption) | exact absurd (by assumption) hc) | (with_reducible change True at hc; clear hc) | skip)) | refine And.intro (by first | omega | (simp only [Sy.lc, Sy.ll]; omega) | (simp only [Sy.lc] at *; omega)) ?_ | refine And.intro ?_ ?_ | exact rfl | (refine congrArg SV.bool (decide_eq_true ?_); first | rfl | omega | assumption) | refine Pick.mk _ rfl ?_ | refine fun (bN : Nat) => ?_ | refine fun (zA : Bool) (bA : Bs) (cA : Nat) hA => ?_
      refine ⟨.tup [.int .i64 k, .int .i64 q.l.length, .int .i64 0], _, rfl, Tells.trans (H1 := sH sb S ((S.rows.map (setp 3)).set k (⟨q.l ++ [x], (setp 3 q).h, zA, bA, cA⟩ : Pt)) (S.rows.eraseIdx k) ++ atomsP 3 (⟨q.l ++ [x], (setp 3 q).h, zA, bA, cA⟩ : Pt)) (by (refine Tells.pick [some 0, some 1, some 2, some 3] (by decide) ?_; repeat' first | exact rfl | exact Retell.refl _ | exact Retell.lit rfl | exact Retell.rows | exact Ghost.vec | exact Ghost.win | refine And.intro ?_ ?_))
        (sclose (x' := ⟨q.l ++ [x], (setp 3 q).h, zA, bA, cA⟩) hq (by rw [List.map_set, List.map_set, List.map_map]; rfl)), h _ (okSrc_set hS (by simp; omega)) (sab_set S k _) (by simp)⟩
  · rw [if_pos hm] at hR
    simp only [Prod.mk.injEq] at hR
    obtain ⟨⟨rfl, rfl, rfl⟩, rfl⟩ := hR
    repeat' first | exact trivial | refine And.intro trivial ?_ | refine And.intro rfl ?_ | refine And.intro (one_flat (fun _ => rfl) _) ?_ | refine Fit.yes (by omega) ?_ | refine Fit.no ?_ | (refine And.intro (fun hc => ?_) (fun hc => ?_) <;> ((try simp only [Sy.nf, ne_eq, reduceCtorEq, eq_self] at hc); first | (exfalso; first | omega | exact absurd hc (by assumption) | exact absurd (by assumption) hc) | (with_reducible change True at hc; clear hc) | skip)) | refine And.intro (by first | omega | (simp only [Sy.lc, Sy.ll]; omega) | (simp only [Sy.lc] at *; omega)) ?_ | refine And.intro ?_ ?_ | exact rfl | (refine congrArg SV.bool (decide_eq_true ?_); first | rfl | omega | assumption) | refine Pick.mk _ rfl ?_ | refine fun (bN : Nat) => ?_ | refine fun (zA : Bool) (bA : Bs) (cA : Nat) hA => ?_
    exact ⟨_, _, rfl, Tells.trans (H1 := sO sb S k q) (by (refine Tells.pick [some 0, some 1, some 2, some 3] (by decide) ?_; repeat' first | exact rfl | exact Retell.refl _ | exact Retell.lit rfl | exact Retell.rows | exact Ghost.vec | exact Ghost.win | refine And.intro ?_ ?_)) (ssame hq (by simp only [List.map_map]; rfl)), h S hS rfl rfl⟩
end Go.Proofs.YtgapmdkiijpmpaaDoor

/- The source is read. Own work. -/
import Derived.Test.YtgapmdkiijpmpaaDoorS5
namespace Go.Proofs.YtgapmdkiijpmpaaDoor
open Go Go.Sy Go.Sp
set_option maxRecDepth 100000
set_option linter.unusedVariables false
set_option linter.unusedSimpArgs false
set_option maxHeartbeats 4000000
theorem nilB_no {z : Bool} {l c : Nat} (h : nilB z l c = true) : l = 0 ∧ c = 0 := by
  unfold nilB at h
  simp only [Bool.and_eq_true] at h
  exact ⟨Nat.eq_of_beq_eq_true h.2.1, Nat.eq_of_beq_eq_true h.2.2⟩
theorem clone_ob (z : Bool) (b : Bs) (c off n : Nat) (l : List Evt) (hn : off + n ≤ l.length) (hl : l.length ≤ 4096) (K : SV → SH → Prop) (h : ∀ oz ob oc, K (.sl 1 oz ob 7 0 n oc) [(b, .win encEv 7 l), (ob, .vec oz oc encEv 7 ((l.drop off).take n))]) :
    FnOb Tryd.prog 28 [.sl 0 z b 7 off n c] [(b, .win encEv 7 l)] K := by
  have hlt : ((l.drop off).take n).length = n := by simp; omega
  apply FnOb.tidy
  apply en28
  by_cases hz : nilB z n c = true ∧ b.e.a.isNone = true
  · obtain ⟨hz, hz2⟩ := hz
    obtain ⟨rfl, rfl⟩ := nilB_no hz
    have := h true ⟨0, 0⟩ 0
    rw [List.take_zero] at this
    have hz' : ¬ (nilB z 0 0 = false ∨ b.e.a.isNone = false) := by rw [hz, hz2]; simp
    (repeat' first | exact trivial | refine And.intro trivial ?_ | refine And.intro rfl ?_ | refine And.intro (one_flat (fun _ => rfl) _) ?_ | refine Fit.yes (by omega) ?_ | refine Fit.no ?_ | (refine And.intro (fun hc => ?_) (fun hc => ?_) <;> ((try simp only [Sy.nf, ne_eq, reduceCtorEq, eq_self] at hc); first | (exfalso; first | omega | exact absurd hc (by assumption) | exact absurd (by assumption) hc) | (with_reducible change True at hc; clear hc) | skip)) | refine And.intro (by first | omega | (simp only [Sy.lc, Sy.ll]; omega) | (simp only [Sy.lc] at *; omega)) ?_ | refine And.intro ?_ ?_ | exact rfl | (refine congrArg SV.bool (decide_eq_true ?_); first | rfl | omega | assumption) | refine Pick.mk _ rfl ?_ | refine fun (bN : Nat) => ?_ | refine fun (zA : Bool) (bA : Bs) (cA : Nat) hA => ?_); all_goals (try (conv => whnf)); (repeat' first | exact trivial | refine And.intro trivial ?_ | refine And.intro rfl ?_ | refine And.intro (one_flat (fun _ => rfl) _) ?_ | refine Fit.yes (by omega) ?_ | refine Fit.no ?_ | (refine And.intro (fun hc => ?_) (fun hc => ?_) <;> ((try simp only [Sy.nf, ne_eq, reduceCtorEq, eq_self] at hc); first | (exfalso; first | omega | exact absurd hc (by assumption) | exact absurd (by assumption) hc) | (with_reducible change True at hc; clear hc) | skip)) | refine And.intro (by first | omega | (simp only [Sy.lc, Sy.ll]; omega) | (simp only [Sy.lc] at *; omega)) ?_ | refine And.intro ?_ ?_ | exact rfl | (refine congrArg SV.bool (decide_eq_true ?_); first | rfl | omega | assumption) | refine Pick.mk _ rfl ?_ | refine fun (bN : Nat) => ?_ | refine fun (zA : Bool) (bA : Bs) (cA : Nat) hA => ?_)
    refine ⟨.sl 1 true ⟨0, 0⟩ 7 0 0 0, [(b, .win encEv 7 l), (⟨0, 0⟩, .vec true 0 encEv 7 [])], rfl, ?_, this⟩
    exact Tells.pick [some 0, none] (by decide) ⟨Retell.refl _, Ghost.vec, rfl⟩
  · have hz' : ¬ (nilB z n c = true ∧ b.e.a.isNone = true) := hz
    repeat' first | exact trivial | refine And.intro trivial ?_ | refine And.intro rfl ?_ | refine And.intro (one_flat (fun _ => rfl) _) ?_ | refine Fit.yes (by omega) ?_ | refine Fit.no ?_ | (refine And.intro (fun hc => ?_) (fun hc => ?_) <;> ((try simp only [Sy.nf, ne_eq, reduceCtorEq, eq_self] at hc); first | (exfalso; first | omega | exact absurd hc (by assumption) | exact absurd (by assumption) hc) | (with_reducible change True at hc; clear hc) | skip)) | refine And.intro (by first | omega | (simp only [Sy.lc, Sy.ll]; omega) | (simp only [Sy.lc] at *; omega)) ?_ | refine And.intro ?_ ?_ | exact rfl | (refine congrArg SV.bool (decide_eq_true ?_); first | rfl | omega | assumption) | refine Pick.mk _ rfl ?_ | refine fun (bN : Nat) => ?_ | refine fun (zA : Bool) (bA : Bs) (cA : Nat) hA => ?_
    refine ⟨Evt, encEv, [], rfl, rfl, by simp, ?_⟩
    refine ⟨(l.drop off).take n, by simp, fun _ _ => rfl, ?_⟩
    repeat' first | exact trivial | refine And.intro trivial ?_ | refine And.intro rfl ?_ | refine And.intro (one_flat (fun _ => rfl) _) ?_ | refine Fit.yes (by omega) ?_ | refine Fit.no ?_ | (refine And.intro (fun hc => ?_) (fun hc => ?_) <;> ((try simp only [Sy.nf, ne_eq, reduceCtorEq, eq_self] at hc); first | (exfalso; first | omega | exact absurd hc (by assumption) | exact absurd (by assumption) hc) | (with_reducible change True at hc; clear hc) | skip)) | refine And.intro (by first | omega | (simp only [Sy.lc, Sy.ll]; omega) | (simp only [Sy.lc] at *; omega)) ?_ | refine And.intro ?_ ?_ | exact rfl | (refine congrArg SV.bool (decide_eq_true ?_); first | rfl | omega | assumption) | refine Pick.mk _ rfl ?_ | refine fun (bN : Nat) => ?_ | refine fun (zA : Bool) (bA : Bs) (cA : Nat) hA => ?_
    refine ⟨.sl 1 zA bA 7 0 n cA, [(b, .win encEv 7 l), (bA, .vec zA cA encEv 7 ((l.drop off).take n))], den_slL ?_, ?_, h zA bA cA⟩
    · simp; omega
    · exact Tells.pick [some 0, some 1] (by decide) ⟨Retell.refl _, Retell.eqv rfl, rfl⟩
theorem kinds34 : kindsT Tryd.prog 12 34 = some [.s, .s, .i .i64, .i .i64, .i .i64, .i .i64, .s] := by kernel_rfl
theorem sameEvents_ob (z1 z2 : Bool) (b1 b2 : Bs) (c1 c2 : Nat) (l1 l2 : List Evt) (hl1 : l1.length ≤ 9223372036854775807) (hl2 : l2.length ≤ 9223372036854775807) (K : SV → SH → Prop)
    (h : K (.bool (decide (l1 = l2))) [(b1, .win encEv 7 l1), (b2, .win encEv 7 l2)]) :
    FnOb Tryd.prog 16 [.sl 0 z1 b1 7 0 l1.length c1, .sl 1 z2 b2 7 0 l2.length c2] [(b1, .win encEv 7 l1), (b2, .win encEv 7 l2)] K := by
  apply FnOb.tidy
  by_cases hlen : l1.length = l2.length
  · apply en16
    repeat' first | exact trivial | refine And.intro trivial ?_ | refine And.intro rfl ?_ | refine And.intro (one_flat (fun _ => rfl) _) ?_ | refine Fit.yes (by omega) ?_ | refine Fit.no ?_ | (refine And.intro (fun hc => ?_) (fun hc => ?_) <;> ((try simp only [Sy.nf, ne_eq, reduceCtorEq, eq_self] at hc); first | (exfalso; first | omega | exact absurd hc (by assumption) | exact absurd (by assumption) hc) | (with_reducible change True at hc; clear hc) | skip)) | refine And.intro (by first | omega | (simp only [Sy.lc, Sy.ll]; omega) | (simp only [Sy.lc] at *; omega)) ?_ | refine And.intro ?_ ?_ | exact rfl | (refine congrArg SV.bool (decide_eq_true ?_); first | rfl | omega | assumption) | refine Pick.mk _ rfl ?_ | refine fun (bN : Nat) => ?_ | refine fun (zA : Bool) (bA : Bs) (cA : Nat) hA => ?_
    refine loop_st mixed (S := sch16) (by kernel_rfl) 26 (σ := Nat) (fun k => [(0, .sl 0 z1 b1 7 0 l1.length c1), (1, .sl 1 z2 b2 7 0 l2.length c2), (5, .int .i64 k)]) (fun _ => [(b1, .win encEv 7 l1), (b2, .win encEv 7 l2)])
      (fun k => k ≤ l1.length ∧ l1.take k = l2.take k) (fun k => l1.length - k) 0 rfl ⟨by omega, rfl⟩ ⟨rfl, rfl, rfl, trivial⟩ (Tells.refl _) ?_
    intro k J ⟨hk, ht⟩
    by_cases hkl : k < l1.length
    · obtain ⟨x, hx⟩ : ∃ x, l1[k]? = some x := ⟨_, List.getElem?_eq_getElem hkl⟩
      obtain ⟨y, hy⟩ : ∃ y, l2[k]? = some y := ⟨_, List.getElem?_eq_getElem (by omega)⟩
      have h1 : l1.take (k + 1) = l1.take k ++ [x] := by rw [List.take_add_one, hx]; rfl
      have h2 : l2.take (k + 1) = l2.take k ++ [y] := by rw [List.take_add_one, hy]; rfl
      have hx' : l1[0 + (k : Int).toNat]? = some x := by rw [show 0 + (k : Int).toNat = k by omega]; exact hx
      have hy' : l2[0 + (k : Int).toNat]? = some y := by rw [show 0 + (k : Int).toNat = k by omega]; exact hy
      repeat' first | exact trivial | refine And.intro trivial ?_ | refine And.intro rfl ?_ | refine And.intro (one_flat (fun _ => rfl) _) ?_ | refine Fit.yes (by omega) ?_ | refine Fit.no ?_ | (refine And.intro (fun hc => ?_) (fun hc => ?_) <;> ((try simp only [Sy.nf, ne_eq, reduceCtorEq, eq_self] at hc); first | (exfalso; first | omega | exact absurd hc (by assumption) | exact absurd (by assumption) hc) | (with_reducible change True at hc; clear hc) | skip)) | refine And.intro (by first | omega | (simp only [Sy.lc, Sy.ll]; omega) | (simp only [Sy.lc] at *; omega)) ?_ | refine And.intro ?_ ?_ | exact rfl | (refine congrArg SV.bool (decide_eq_true ?_); first | rfl | omega | assumption) | refine Pick.mk _ rfl ?_ | refine fun (bN : Nat) => ?_ | refine fun (zA : Bool) (bA : Bs) (cA : Nat) hA => ?_ | (intro x' hx''; first | obtain rfl := Option.some.inj (hx'.symm.trans hx'') | obtain rfl := Option.some.inj (hy'.symm.trans hx''))
      conv => whnf
      rw [kinds34]
      repeat' first | exact trivial | refine And.intro trivial ?_ | refine And.intro rfl ?_ | refine And.intro (one_flat (fun _ => rfl) _) ?_ | refine Fit.yes (by omega) ?_ | refine Fit.no ?_ | (refine And.intro (fun hc => ?_) (fun hc => ?_) <;> ((try simp only [Sy.nf, ne_eq, reduceCtorEq, eq_self] at hc); first | (exfalso; first | omega | exact absurd hc (by assumption) | exact absurd (by assumption) hc) | (with_reducible change True at hc; clear hc) | skip)) | refine And.intro (by first | omega | (simp only [Sy.lc, Sy.ll]; omega) | (simp only [Sy.lc] at *; omega)) ?_ | refine And.intro ?_ ?_ | exact rfl | (refine congrArg SV.bool (decide_eq_true ?_); first | rfl | omega | assumption) | refine Pick.mk _ rfl ?_ | refine fun (bN : Nat) => ?_ | refine fun (zA : Bool) (bA : Bs) (cA : Nat) hA => ?_
      · kernel_rfl
      · have hne : l1 ≠ l2 := by
          rintro rfl
          rw [hx] at hy
          obtain rfl := Option.some.inj hy
          simp at hc
        rw [decide_eq_false hne] at h
        (repeat' first | exact trivial | refine And.intro trivial ?_ | refine And.intro rfl ?_ | refine And.intro (one_flat (fun _ => rfl) _) ?_ | refine Fit.yes (by omega) ?_ | refine Fit.no ?_ | (refine And.intro (fun hc => ?_) (fun hc => ?_) <;> ((try simp only [Sy.nf, ne_eq, reduceCtorEq, eq_self] at hc); first | (exfalso; first | omega | exact absurd hc (by assumption) | exact absurd (by assumption) hc) | (with_reducible change True at hc; clear hc) | skip)) | refine And.intro (by first | omega | (simp only [Sy.lc, Sy.ll]; omega) | (simp only [Sy.lc] at *; omega)) ?_ | refine And.intro ?_ ?_ | exact rfl | (refine congrArg SV.bool (decide_eq_true ?_); first | rfl | omega | assumption) | refine Pick.mk _ rfl ?_ | refine fun (bN : Nat) => ?_ | refine fun (zA : Bool) (bA : Bs) (cA : Nat) hA => ?_); all_goals (try (conv => whnf)); (repeat' first | exact trivial | refine And.intro trivial ?_ | refine And.intro rfl ?_ | refine And.intro (one_flat (fun _ => rfl) _) ?_ | refine Fit.yes (by omega) ?_ | refine Fit.no ?_ | (refine And.intro (fun hc => ?_) (fun hc => ?_) <;> ((try simp only [Sy.nf, ne_eq, reduceCtorEq, eq_self] at hc); first | (exfalso; first | omega | exact absurd hc (by assumption) | exact absurd (by assumption) hc) | (with_reducible change True at hc; clear hc) | skip)) | refine And.intro (by first | omega | (simp only [Sy.lc, Sy.ll]; omega) | (simp only [Sy.lc] at *; omega)) ?_ | refine And.intro ?_ ?_ | exact rfl | (refine congrArg SV.bool (decide_eq_true ?_); first | rfl | omega | assumption) | refine Pick.mk _ rfl ?_ | refine fun (bN : Nat) => ?_ | refine fun (zA : Bool) (bA : Bs) (cA : Nat) hA => ?_)
        (refine ⟨_, _, ?_, ?_, h⟩; exact rfl; refine Tells.pick [some 0, some 1] (by decide) ?_; repeat' first | exact rfl | exact Retell.refl _ | exact Retell.lit rfl | exact Retell.rows | exact Ghost.vec | exact Ghost.win | refine And.intro ?_ ?_)
      · have hxy : x = y := by
          obtain ⟨a1, a2, a3, a4, a5, a6, a7⟩ := x
          obtain ⟨b1, b2, b3, b4, b5, b6, b7⟩ := y
          obtain ⟨rfl, rfl, rfl, rfl, rfl, rfl, rfl⟩ := hc
          rfl
        subst hxy
        (repeat' first | exact trivial | refine And.intro trivial ?_ | refine And.intro rfl ?_ | refine And.intro (one_flat (fun _ => rfl) _) ?_ | refine Fit.yes (by omega) ?_ | refine Fit.no ?_ | (refine And.intro (fun hc => ?_) (fun hc => ?_) <;> ((try simp only [Sy.nf, ne_eq, reduceCtorEq, eq_self] at hc); first | (exfalso; first | omega | exact absurd hc (by assumption) | exact absurd (by assumption) hc) | (with_reducible change True at hc; clear hc) | skip)) | refine And.intro (by first | omega | (simp only [Sy.lc, Sy.ll]; omega) | (simp only [Sy.lc] at *; omega)) ?_ | refine And.intro ?_ ?_ | exact rfl | (refine congrArg SV.bool (decide_eq_true ?_); first | rfl | omega | assumption) | refine Pick.mk _ rfl ?_ | refine fun (bN : Nat) => ?_ | refine fun (zA : Bool) (bA : Bs) (cA : Nat) hA => ?_); all_goals (try (conv => whnf)); (repeat' first | exact trivial | refine And.intro trivial ?_ | refine And.intro rfl ?_ | refine And.intro (one_flat (fun _ => rfl) _) ?_ | refine Fit.yes (by omega) ?_ | refine Fit.no ?_ | (refine And.intro (fun hc => ?_) (fun hc => ?_) <;> ((try simp only [Sy.nf, ne_eq, reduceCtorEq, eq_self] at hc); first | (exfalso; first | omega | exact absurd hc (by assumption) | exact absurd (by assumption) hc) | (with_reducible change True at hc; clear hc) | skip)) | refine And.intro (by first | omega | (simp only [Sy.lc, Sy.ll]; omega) | (simp only [Sy.lc] at *; omega)) ?_ | refine And.intro ?_ ?_ | exact rfl | (refine congrArg SV.bool (decide_eq_true ?_); first | rfl | omega | assumption) | refine Pick.mk _ rfl ?_ | refine fun (bN : Nat) => ?_ | refine fun (zA : Bool) (bA : Bs) (cA : Nat) hA => ?_)
        exact ⟨k + 1, (by first | omega | (dsimp only; omega) | (simp; omega)), ⟨by omega, by rw [h1, h2, ht]⟩, rfl, ⟨rfl, rfl, rfl, trivial⟩, by (refine Tells.pick [some 0, some 1] (by decide) ?_; repeat' first | exact rfl | exact Retell.refl _ | exact Retell.lit rfl | exact Retell.rows | exact Ghost.vec | exact Ghost.win | refine And.intro ?_ ?_)⟩
    · obtain rfl : k = l1.length := by omega
      have e : l1 = l2 := by rw [List.take_length] at ht; rw [ht, hlen, List.take_length]
      rw [decide_eq_true e] at h
      repeat' first | exact trivial | refine And.intro trivial ?_ | refine And.intro rfl ?_ | refine And.intro (one_flat (fun _ => rfl) _) ?_ | refine Fit.yes (by omega) ?_ | refine Fit.no ?_ | (refine And.intro (fun hc => ?_) (fun hc => ?_) <;> ((try simp only [Sy.nf, ne_eq, reduceCtorEq, eq_self] at hc); first | (exfalso; first | omega | exact absurd hc (by assumption) | exact absurd (by assumption) hc) | (with_reducible change True at hc; clear hc) | skip)) | refine And.intro (by first | omega | (simp only [Sy.lc, Sy.ll]; omega) | (simp only [Sy.lc] at *; omega)) ?_ | refine And.intro ?_ ?_ | exact rfl | (refine congrArg SV.bool (decide_eq_true ?_); first | rfl | omega | assumption) | refine Pick.mk _ rfl ?_ | refine fun (bN : Nat) => ?_ | refine fun (zA : Bool) (bA : Bs) (cA : Nat) hA => ?_
      (refine ⟨_, _, ?_, ?_, h⟩; exact rfl; refine Tells.pick [some 0, some 1] (by decide) ?_; repeat' first | exact rfl | exact Retell.refl _ | exact Retell.lit rfl | exact Retell.rows | exact Ghost.vec | exact Ghost.win | refine And.intro ?_ ?_)
  · rw [decide_eq_false (fun e => hlen (by rw [e]))] at h
    apply en16
    repeat' first | exact trivial | refine And.intro trivial ?_ | refine And.intro rfl ?_ | refine And.intro (one_flat (fun _ => rfl) _) ?_ | refine Fit.yes (by omega) ?_ | refine Fit.no ?_ | (refine And.intro (fun hc => ?_) (fun hc => ?_) <;> ((try simp only [Sy.nf, ne_eq, reduceCtorEq, eq_self] at hc); first | (exfalso; first | omega | exact absurd hc (by assumption) | exact absurd (by assumption) hc) | (with_reducible change True at hc; clear hc) | skip)) | refine And.intro (by first | omega | (simp only [Sy.lc, Sy.ll]; omega) | (simp only [Sy.lc] at *; omega)) ?_ | refine And.intro ?_ ?_ | exact rfl | (refine congrArg SV.bool (decide_eq_true ?_); first | rfl | omega | assumption) | refine Pick.mk _ rfl ?_ | refine fun (bN : Nat) => ?_ | refine fun (zA : Bool) (bA : Bs) (cA : Nat) hA => ?_
    (refine ⟨_, _, ?_, ?_, h⟩; exact rfl; refine Tells.pick [some 0, some 1] (by decide) ?_; repeat' first | exact rfl | exact Retell.refl _ | exact Retell.lit rfl | exact Retell.rows | exact Ghost.vec | exact Ghost.win | refine And.intro ?_ ?_)
def readA (A : List (List Evt)) (part frm most : Int) : List Evt × Int :=
  if part < 0 ∨ (A.length : Int) ≤ part then ([], 1) else if frm < 0 ∨ ((A.getD part.toNat []).length : Int) < frm then ([], 50) else if most < 0 then ([], 1) else
    (((A.getD part.toNat []).drop frm.toNat).take (min most.toNat ((A.getD part.toNat []).length - frm.toNat)), 0)
theorem ssameY {sb : Bs} {S : Src} {Y : Bs × Blk} {k : Nat} {x : Pt} (hx : S.rows[k]? = some x) : Tells (sO sb S k x ++ [Y]) (sM sb S ++ [Y]) := by
  have hk := (List.getElem?_eq_some_iff.1 hx).1
  refine Tells.trans (H1 := sH sb S (S.rows.map (setp 3)) (S.rows.eraseIdx k) ++ [Y] ++ atomsP 4 x) (by (refine Tells.pick [some 0, some 1, some 2, some 4, some 3] (by decide) ?_; repeat' first | exact rfl | exact Retell.refl _ | exact Retell.lit rfl | exact Retell.rows | exact Ghost.vec | exact Ghost.win | refine And.intro ?_ ?_)) ?_
  refine Tells.trans (Tells.closeK (f := atomsP) (H := sH sb S (S.rows.map (setp 3)) (S.rows.eraseIdx k) ++ [Y]) 2 k (x := x) rfl hk (atomsP_re _ _ _) (atomsP_ok _)) ?_
  rw [set_same' hx]
  exact Tells.pick [some 0, some 1, some 2, some 3] (by decide) ⟨Retell.refl _, Retell.map (denP (by simp only [List.map_map]; rfl)) (by simp) (fun _ _ => rfl), Retell.refl _, Retell.refl _, rfl⟩
theorem read_ob (sb : Bs) (S : Src) (hS : okSrc S) (part frm most : Int) {O : List Evt} {e : Int} (hR : readA S.ab part frm most = (O, e)) (K : SV → SH → Prop)
    (h : ∀ oz ob oc, K (.tup [.sl 3 oz ob 7 0 O.length oc, .int .i64 e]) (sM sb S ++ [(ob, .vec oz oc encEv 7 O)])) : FnOb Tryd.prog 14 [.ptr 0 sb 0 0 0, .int .i64 part, .int .i64 frm, .int .i64 most] (sM sb S) K := by
  obtain ⟨hS1, hS2, hS3⟩ := id hS
  have hal : S.ab.length = S.rows.length := by simp [Src.ab]
  by_cases hp : part < 0 ∨ (S.rows.length : Int) ≤ part
  · unfold readA at hR
    rw [if_pos (by rw [hal]; exact hp)] at hR
    obtain ⟨rfl, rfl⟩ := Prod.mk.inj hR
    have := h true ⟨0, 0⟩ 0
    apply FnOb.tidy
    apply en14
    repeat' first | exact trivial | refine And.intro trivial ?_ | refine And.intro rfl ?_ | refine And.intro (one_flat (fun _ => rfl) _) ?_ | refine Fit.yes (by omega) ?_ | refine Fit.no ?_ | (refine And.intro (fun hc => ?_) (fun hc => ?_) <;> ((try simp only [Sy.nf, ne_eq, reduceCtorEq, eq_self] at hc); first | (exfalso; first | omega | exact absurd hc (by assumption) | exact absurd (by assumption) hc) | (with_reducible change True at hc; clear hc) | skip)) | refine And.intro (by first | omega | (simp only [Sy.lc, Sy.ll]; omega) | (simp only [Sy.lc] at *; omega)) ?_ | refine And.intro ?_ ?_ | exact rfl | (refine congrArg SV.bool (decide_eq_true ?_); first | rfl | omega | assumption) | refine Pick.mk _ rfl ?_ | refine fun (bN : Nat) => ?_ | refine fun (zA : Bool) (bA : Bs) (cA : Nat) hA => ?_
    all_goals
      refine ⟨.tup [.sl 3 true ⟨0, 0⟩ 7 0 0 0, .int .i64 1], sM sb S ++ [(⟨0, 0⟩, .vec true 0 encEv 7 [])], rfl, ?_, this⟩
      exact Tells.pick [some 0, some 1, some 2, none] (by decide) ⟨Retell.refl _, Retell.refl _, Retell.refl _, Ghost.vec, rfl⟩
  · obtain ⟨k, rfl⟩ : ∃ k : Nat, part = k := ⟨part.toNat, by omega⟩
    obtain ⟨q, hq⟩ : ∃ q, S.rows[k]? = some q := ⟨_, List.getElem?_eq_getElem (by omega)⟩
    have hqa : S.ab[k]? = some q.l := by unfold Src.ab; rw [List.getElem?_map, hq]; rfl
    have hqd : S.ab.getD k [] = q.l := by rw [List.getD_eq_getElem?_getD, hqa]; rfl
    have hql := hS3 q (List.mem_of_getElem? hq)
    have hlm : (S.rows.map (setp 3)).length = S.rows.length := by simp
    have hgq : (S.rows.map (setp 3))[0 + (k : Int).toNat]? = some (setp 3 q) := by rw [show 0 + (k : Int).toNat = k by omega, List.getElem?_map, hq]; rfl
    have hql' : (setp 3 q).l.length = q.l.length := rfl
    have hqc' : (setp 3 q).c = q.c := rfl
    unfold readA at hR
    rw [if_neg (by rw [hal]; exact hp), Int.toNat_natCast, hqd] at hR
    refine FnOb.start (sopen hq) ?_
    refine FnOb.know (q.l.length ≤ q.c) (fun w hw => HSat.room hw (i := 3) rfl) fun hroom => ?_
    have hend : ∀ (H : SH), Tells H (sO sb S k q) → Tells H (sM sb S) := fun H hH => hH.trans (ssame hq (by simp only [List.map_map]; rfl))
    apply FnOb.tidy
    apply en14
    by_cases hf : frm < 0 ∨ (q.l.length : Int) < frm
    · rw [if_pos hf] at hR
      obtain ⟨rfl, rfl⟩ := Prod.mk.inj hR
      have := h true ⟨0, 0⟩ 0
      repeat' first | exact trivial | refine And.intro trivial ?_ | refine And.intro rfl ?_ | refine And.intro (one_flat (fun _ => rfl) _) ?_ | refine Fit.yes (by omega) ?_ | refine Fit.no ?_ | (refine And.intro (fun hc => ?_) (fun hc => ?_) <;> ((try simp only [Sy.nf, ne_eq, reduceCtorEq, eq_self] at hc); first | (exfalso; first | omega | exact absurd hc (by assumption) | exact absurd (by assumption) hc) | (with_reducible change True at hc; clear hc) | skip)) | refine And.intro (by first | omega | (simp only [Sy.lc, Sy.ll]; omega) | (simp only [Sy.lc] at *; omega)) ?_ | refine And.intro ?_ ?_ | exact rfl | (refine congrArg SV.bool (decide_eq_true ?_); first | rfl | omega | assumption) | refine Pick.mk _ rfl ?_ | refine fun (bN : Nat) => ?_ | refine fun (zA : Bool) (bA : Bs) (cA : Nat) hA => ?_ | (intro x' hx''; obtain rfl := Option.some.inj (hgq.symm.trans hx''))
      all_goals (try (conv => whnf))
      all_goals repeat' first | exact trivial | refine And.intro trivial ?_ | refine And.intro rfl ?_ | refine And.intro (one_flat (fun _ => rfl) _) ?_ | refine Fit.yes (by omega) ?_ | refine Fit.no ?_ | (refine And.intro (fun hc => ?_) (fun hc => ?_) <;> ((try simp only [Sy.nf, ne_eq, reduceCtorEq, eq_self] at hc); first | (exfalso; first | omega | exact absurd hc (by assumption) | exact absurd (by assumption) hc) | (with_reducible change True at hc; clear hc) | skip)) | refine And.intro (by first | omega | (simp only [Sy.lc, Sy.ll]; omega) | (simp only [Sy.lc] at *; omega)) ?_ | refine And.intro ?_ ?_ | exact rfl | (refine congrArg SV.bool (decide_eq_true ?_); first | rfl | omega | assumption) | refine Pick.mk _ rfl ?_ | refine fun (bN : Nat) => ?_ | refine fun (zA : Bool) (bA : Bs) (cA : Nat) hA => ?_
      all_goals
        refine ⟨.tup [.sl 3 true ⟨0, 0⟩ 7 0 0 0, .int .i64 50], sM sb S ++ [(⟨0, 0⟩, .vec true 0 encEv 7 [])], rfl, Tells.trans (H1 := sM sb S) (hend _ (by (refine Tells.pick [some 0, some 1, some 2, some 3] (by decide) ?_; repeat' first | exact rfl | exact Retell.refl _ | exact Retell.lit rfl | exact Retell.rows | exact Ghost.vec | exact Ghost.win | refine And.intro ?_ ?_))) ?_, this⟩
        exact Tells.pick [some 0, some 1, some 2, none] (by decide) ⟨Retell.refl _, Retell.refl _, Retell.refl _, Ghost.vec, rfl⟩
    · rw [if_neg hf] at hR
      by_cases hm : most < 0
      · rw [if_pos hm] at hR
        obtain ⟨rfl, rfl⟩ := Prod.mk.inj hR
        have := h true ⟨0, 0⟩ 0
        repeat' first | exact trivial | refine And.intro trivial ?_ | refine And.intro rfl ?_ | refine And.intro (one_flat (fun _ => rfl) _) ?_ | refine Fit.yes (by omega) ?_ | refine Fit.no ?_ | (refine And.intro (fun hc => ?_) (fun hc => ?_) <;> ((try simp only [Sy.nf, ne_eq, reduceCtorEq, eq_self] at hc); first | (exfalso; first | omega | exact absurd hc (by assumption) | exact absurd (by assumption) hc) | (with_reducible change True at hc; clear hc) | skip)) | refine And.intro (by first | omega | (simp only [Sy.lc, Sy.ll]; omega) | (simp only [Sy.lc] at *; omega)) ?_ | refine And.intro ?_ ?_ | exact rfl | (refine congrArg SV.bool (decide_eq_true ?_); first | rfl | omega | assumption) | refine Pick.mk _ rfl ?_ | refine fun (bN : Nat) => ?_ | refine fun (zA : Bool) (bA : Bs) (cA : Nat) hA => ?_ | (intro x' hx''; obtain rfl := Option.some.inj (hgq.symm.trans hx''))
        all_goals (try (conv => whnf))
        all_goals repeat' first | exact trivial | refine And.intro trivial ?_ | refine And.intro rfl ?_ | refine And.intro (one_flat (fun _ => rfl) _) ?_ | refine Fit.yes (by omega) ?_ | refine Fit.no ?_ | (refine And.intro (fun hc => ?_) (fun hc => ?_) <;> ((try simp only [Sy.nf, ne_eq, reduceCtorEq, eq_self] at hc); first | (exfalso; first | omega | exact absurd hc (by assumption) | exact absurd (by assumption) hc) | (with_reducible change True at hc; clear hc) | skip)) | refine And.intro (by first | omega | (simp only [Sy.lc, Sy.ll]; omega) | (simp only [Sy.lc] at *; omega)) ?_ | refine And.intro ?_ ?_ | exact rfl | (refine congrArg SV.bool (decide_eq_true ?_); first | rfl | omega | assumption) | refine Pick.mk _ rfl ?_ | refine fun (bN : Nat) => ?_ | refine fun (zA : Bool) (bA : Bs) (cA : Nat) hA => ?_
        refine ⟨.tup [.sl 3 true ⟨0, 0⟩ 7 0 0 0, .int .i64 1], sM sb S ++ [(⟨0, 0⟩, .vec true 0 encEv 7 [])], rfl, Tells.trans (H1 := sM sb S) (hend _ (by (refine Tells.pick [some 0, some 1, some 2, some 3] (by decide) ?_; repeat' first | exact rfl | exact Retell.refl _ | exact Retell.lit rfl | exact Retell.rows | exact Ghost.vec | exact Ghost.win | refine And.intro ?_ ?_))) ?_, this⟩
        exact Tells.pick [some 0, some 1, some 2, none] (by decide) ⟨Retell.refl _, Retell.refl _, Retell.refl _, Ghost.vec, rfl⟩
      · rw [if_neg hm] at hR
        obtain ⟨f, rfl⟩ : ∃ f : Nat, frm = f := ⟨frm.toNat, by omega⟩
        obtain ⟨m, rfl⟩ : ∃ m : Nat, most = m := ⟨most.toNat, by omega⟩
        simp only [Int.toNat_natCast] at hR
        repeat' first | exact trivial | refine And.intro trivial ?_ | refine And.intro rfl ?_ | refine And.intro (one_flat (fun _ => rfl) _) ?_ | refine Fit.yes (by omega) ?_ | refine Fit.no ?_ | (refine And.intro (fun hc => ?_) (fun hc => ?_) <;> ((try simp only [Sy.nf, ne_eq, reduceCtorEq, eq_self] at hc); first | (exfalso; first | omega | exact absurd hc (by assumption) | exact absurd (by assumption) hc) | (with_reducible change True at hc; clear hc) | skip)) | refine And.intro (by first | omega | (simp only [Sy.lc, Sy.ll]; omega) | (simp only [Sy.lc] at *; omega)) ?_ | refine And.intro ?_ ?_ | exact rfl | (refine congrArg SV.bool (decide_eq_true ?_); first | rfl | omega | assumption) | refine Pick.mk _ rfl ?_ | refine fun (bN : Nat) => ?_ | refine fun (zA : Bool) (bA : Bs) (cA : Nat) hA => ?_ | (intro x' hx''; obtain rfl := Option.some.inj (hgq.symm.trans hx''))
        all_goals (try (conv => whnf))
        all_goals repeat' first | exact trivial | refine And.intro trivial ?_ | refine And.intro rfl ?_ | refine And.intro (one_flat (fun _ => rfl) _) ?_ | refine Fit.yes (by omega) ?_ | refine Fit.no ?_ | (refine And.intro (fun hc => ?_) (fun hc => ?_) <;> ((try simp only [Sy.nf, ne_eq, reduceCtorEq, eq_self] at hc); first | (exfalso; first | omega | exact absurd hc (by assumption) | exact absurd (by assumption) hc) | (with_reducible change True at hc; clear hc) | skip)) | refine And.intro (by first | omega | (simp only [Sy.lc, Sy.ll]; omega) | (simp only [Sy.lc] at *; omega)) ?_ | refine And.intro ?_ ?_ | exact rfl | (refine congrArg SV.bool (decide_eq_true ?_); first | rfl | omega | assumption) | refine Pick.mk _ rfl ?_ | refine fun (bN : Nat) => ?_ | refine fun (zA : Bool) (bA : Bs) (cA : Nat) hA => ?_
        obtain ⟨n, hn⟩ : ∃ n, n = (((f : Int) + min (m : Int) (((setp 3 q).l.length : Int) - f)).toNat - (f : Int).toNat) := ⟨_, rfl⟩
        obtain ⟨off, hoff⟩ : ∃ off, off = (if (setp 3 q).c = (f : Int).toNat then 0 else 0 + (f : Int).toNat) := ⟨_, rfl⟩
        rw [← hn, ← hoff]
        have hnn : n = min m (q.l.length - f) := by omega
        have hofn : off + n ≤ q.l.length := by rw [hoff]; split <;> omega
        have hcell : (q.l.drop off).take n = (q.l.drop f).take (min m (q.l.length - f)) := by
          rw [hoff]
          split
          · have h0 : n = 0 := by omega
            rw [h0, ← hnn, h0, List.take_zero, List.take_zero]
          · rw [hnn, Int.toNat_natCast, Nat.zero_add]
        obtain ⟨rfl, rfl⟩ := Prod.mk.inj hR
        have hnl : n = ((q.l.drop f).take (min m (q.l.length - f))).length := by rw [← hcell]; simp; omega
        refine FnOb.callL [3] (clone_ob _ _ _ off n q.l hofn hql _ fun oz ob oc => ?_) (by decide) ⟨.inr (Lends.vec q.l [] (by simp)), rfl⟩ rfl
        have := h oz ob oc
        rw [← hnl, ← hcell] at this
        (repeat' first | exact trivial | refine And.intro trivial ?_ | refine And.intro rfl ?_ | refine And.intro (one_flat (fun _ => rfl) _) ?_ | refine Fit.yes (by omega) ?_ | refine Fit.no ?_ | (refine And.intro (fun hc => ?_) (fun hc => ?_) <;> ((try simp only [Sy.nf, ne_eq, reduceCtorEq, eq_self] at hc); first | (exfalso; first | omega | exact absurd hc (by assumption) | exact absurd (by assumption) hc) | (with_reducible change True at hc; clear hc) | skip)) | refine And.intro (by first | omega | (simp only [Sy.lc, Sy.ll]; omega) | (simp only [Sy.lc] at *; omega)) ?_ | refine And.intro ?_ ?_ | exact rfl | (refine congrArg SV.bool (decide_eq_true ?_); first | rfl | omega | assumption) | refine Pick.mk _ rfl ?_ | refine fun (bN : Nat) => ?_ | refine fun (zA : Bool) (bA : Bs) (cA : Nat) hA => ?_); all_goals (try (conv => whnf)); (repeat' first | exact trivial | refine And.intro trivial ?_ | refine And.intro rfl ?_ | refine And.intro (one_flat (fun _ => rfl) _) ?_ | refine Fit.yes (by omega) ?_ | refine Fit.no ?_ | (refine And.intro (fun hc => ?_) (fun hc => ?_) <;> ((try simp only [Sy.nf, ne_eq, reduceCtorEq, eq_self] at hc); first | (exfalso; first | omega | exact absurd hc (by assumption) | exact absurd (by assumption) hc) | (with_reducible change True at hc; clear hc) | skip)) | refine And.intro (by first | omega | (simp only [Sy.lc, Sy.ll]; omega) | (simp only [Sy.lc] at *; omega)) ?_ | refine And.intro ?_ ?_ | exact rfl | (refine congrArg SV.bool (decide_eq_true ?_); first | rfl | omega | assumption) | refine Pick.mk _ rfl ?_ | refine fun (bN : Nat) => ?_ | refine fun (zA : Bool) (bA : Bs) (cA : Nat) hA => ?_)
        exact ⟨.tup [.sl 3 oz ob 7 0 n oc, .int .i64 0], _, rfl, ssameY hq, this⟩
end Go.Proofs.YtgapmdkiijpmpaaDoor

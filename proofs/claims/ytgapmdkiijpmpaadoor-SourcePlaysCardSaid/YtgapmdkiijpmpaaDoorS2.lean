/- The source: its blocks; part, new, ends. Own work. -/
import Derived.Test.YtgapmdkiijpmpaaDoorS1
import Derived.Test.YtgapmdkiijpmpaaDoorSyU
namespace Go.Proofs.YtgapmdkiijpmpaaDoor
open Go Go.Sy Go.Sp
set_option maxRecDepth 100000
set_option linter.unusedVariables false
set_option linter.unusedSimpArgs false
set_option maxHeartbeats 4000000

theorem Ghost.famOf {b : Bs} {F : SH} (h : ∀ a ∈ F, Ghost a ∧ a.2.isFam = false ∧ a.2.isWin = false) : Ghost (b, .fam F) := by
  have hs : ∀ a ∈ F, ¬ solid a := fun a ha hs => (h a ha).1.2 a.1.n ((solid_atom (h a ha).2.1).2 ⟨hs, rfl⟩)
  have ho : ∀ a ∈ F, ¬ a.2.own := fun a ha ho => hs a ha (.inl ho)
  refine ⟨fun w => ⟨?_, fun a ha => ⟨(entry_atom (h a ha).2.1).1 ((h a ha).1.1 w), (h a ha).2.2⟩⟩, fun k ⟨a, ha, h1, _⟩ => hs a ha h1⟩
  rw [List.pairwise_iff_getElem]
  intro i j hi hj _ hh
  rcases hh with ⟨x, _⟩ | ⟨_, x⟩
  · exact absurd x (hs _ (List.getElem_mem hi))
  · exact absurd x (hs _ (List.getElem_mem hj))
/-- A partition. -/
structure Pt where
  l : List Evt
  h : Nat
  z : Bool
  lb : Bs
  c : Nat
abbrev encPt (x : Pt) : List SV := [.sl x.h x.z x.lb 7 0 x.l.length x.c]
def atomsP (n : Nat) (x : Pt) : SH := [(x.lb, .vec x.z x.c encEv 7 x.l)]
theorem atomsP_re (n m : Nat) (x : Pt) : Retells (atomsP n x) (atomsP m x) := ⟨Retell.refl _, trivial⟩
theorem atomsP_ok (x : Pt) : ∀ a ∈ atomsP 0 x, a.2.isFam = false ∧ a.2.isWin = false := by
  intro a ha
  rw [List.mem_singleton.1 ha]; exact ⟨rfl, rfl⟩
def setp (h : Nat) (x : Pt) : Pt := { x with h := h }
theorem denP {l l' : List Pt} (h : l.map (setp 0) = l'.map (setp 0)) : denL (l.flatMap encPt) = denL (l'.flatMap encPt) := by
  have key : ∀ l : List Pt, denL (l.flatMap encPt) = denL ((l.map (setp 0)).flatMap encPt) := by
    intro l
    induction l with
    | nil => rfl
    | cons x l ih => rw [List.flatMap_cons, List.map_cons, List.flatMap_cons, denL_append, denL_append, ih]; rfl
  rw [key l, key l', h]
structure Src where
  pb : Bs
  fb : Bs
  rows : List Pt
def Src.ab (S : Src) : List (List Evt) := S.rows.map Pt.l
def okSrc (S : Src) : Prop := 1 ≤ S.rows.length ∧ S.rows.length ≤ 16 ∧ ∀ p ∈ S.rows, p.l.length ≤ 4096
def sH (sb : Bs) (S : Src) (rows rows' : List Pt) : SH := [(sb, .lit [.sl 1 false S.pb 1 0 S.rows.length S.rows.length]), (S.pb, .vec false S.rows.length encPt 1 rows), (S.fb, famB atomsP rows')]
abbrev sM (sb : Bs) (S : Src) : SH := sH sb S S.rows S.rows
abbrev sO (sb : Bs) (S : Src) (k : Nat) (x : Pt) : SH := sH sb S (S.rows.map (setp 3)) (S.rows.eraseIdx k) ++ atomsP 3 x
theorem set_same' {α : Type _} {l : List α} {k : Nat} {x : α} (h : l[k]? = some x) : l.set k x = l := by
  apply List.ext_getElem?
  intro j
  rw [List.getElem?_set]
  split
  · rename_i e; subst e
    split
    · exact h.symm
    · rename_i hn; exact absurd (List.getElem?_eq_some_iff.1 h).1 hn
  · rfl
theorem sopen {sb : Bs} {S : Src} {k : Nat} {x : Pt} (hx : S.rows[k]? = some x) : Tells (sM sb S) (sO sb S k x) := by
  refine Tells.trans (Tells.openK (f := atomsP) (H := sM sb S) 2 k rfl hx (atomsP_re _ _ _)) ?_
  show Tells (sH sb S S.rows (S.rows.eraseIdx k) ++ atomsP 3 x) _
  exact Tells.pick [some 0, some 1, some 2, some 3] (by decide) ⟨Retell.refl _, Retell.map (denP (by simp only [List.map_map]; rfl)) (by simp) (fun _ _ => rfl), Retell.refl _, Retell.refl _, rfl⟩
theorem sclose {sb : Bs} {S : Src} {k : Nat} {x x' : Pt} {rows : List Pt} (hx : S.rows[k]? = some x) (hr : rows.map (setp 0) = (S.rows.set k x').map (setp 0)) :
    Tells (sH sb S rows (S.rows.eraseIdx k) ++ atomsP 3 x') (sM sb { S with rows := S.rows.set k x' }) := by
  have hk := (List.getElem?_eq_some_iff.1 hx).1
  have hlr : rows.length = S.rows.length := by have := congrArg List.length hr; simpa using this
  refine Tells.trans (Tells.closeK (f := atomsP) (H := sH sb S rows (S.rows.eraseIdx k)) 2 k (x := x') rfl hk (atomsP_re _ _ _) (atomsP_ok _)) ?_
  refine Tells.pick [some 0, some 1, some 2] (by decide) ⟨Retell.lit (by simp only [List.length_set]), ?_, Retell.refl _, rfl⟩
  simp only [List.length_set]
  exact Retell.map (denP hr.symm ▸ rfl) (by simp [hlr]) (fun _ _ => rfl)
theorem ssame {sb : Bs} {S : Src} {k : Nat} {x : Pt} {rows : List Pt} (hx : S.rows[k]? = some x) (hr : rows.map (setp 0) = S.rows.map (setp 0)) : Tells (sH sb S rows (S.rows.eraseIdx k) ++ atomsP 3 x) (sM sb S) := by
  have := sclose (sb := sb) (x' := x) (rows := rows) hx (by rw [set_same' hx]; exact hr)
  rwa [show ({ S with rows := S.rows.set k x } : Src) = S by rw [set_same' hx]] at this
def sumB (l : List UInt8) : Nat := (l.map UInt8.toNat).sum
theorem sumB_snoc (l : List UInt8) (c : UInt8) : sumB (l ++ [c]) = sumB l + c.toNat := by simp [sumB]
theorem sumB_le : ∀ l : List UInt8, sumB l ≤ 255 * l.length
  | [] => by simp [sumB]
  | c :: l => by
    have := sumB_le l
    have := c.toNat_lt
    simp only [sumB, List.map_cons, List.sum_cons, List.length_cons] at *
    omega
def partOf (key : List UInt8) (n : Nat) : Nat := sumB key % n
theorem part_ob (sb pb : Bs) (n : Nat) (rows : List Pt) (hn : 1 ≤ n ∧ n ≤ 16) (key : List UInt8) (hk : key.length ≤ 140737488351232) (K : SV → SH → Prop) (h : K (.int .i64 (partOf key n)) [(sb, .lit [.sl 1 false pb 1 0 n n]), (pb, .vec false n encPt 1 rows)]) :
    FnOb Tryd.prog 21 [.ptr 0 sb 0 0 0, .str key] [(sb, .lit [.sl 1 false pb 1 0 n n]), (pb, .vec false n encPt 1 rows)] K := by
  apply FnOb.tidy
  apply en21
  repeat' first | exact trivial | refine And.intro trivial ?_ | refine And.intro rfl ?_ | refine And.intro (one_flat (fun _ => rfl) _) ?_ | refine Fit.yes (by omega) ?_ | refine Fit.no ?_ | (refine And.intro (fun hc => ?_) (fun hc => ?_) <;> ((try simp only [Sy.nf, ne_eq, reduceCtorEq, eq_self] at hc); first | (exfalso; first | omega | exact absurd hc (by assumption) | exact absurd (by assumption) hc) | (with_reducible change True at hc; clear hc) | skip)) | refine And.intro (by first | omega | (simp only [Sy.lc, Sy.ll]; omega) | (simp only [Sy.lc] at *; omega)) ?_ | refine And.intro ?_ ?_ | exact rfl | (refine congrArg SV.bool (decide_eq_true ?_); first | rfl | omega | assumption) | refine Pick.mk _ rfl ?_ | refine fun (bN : Nat) => ?_ | refine fun (zA : Bool) (bA : Bs) (cA : Nat) hA => ?_
  refine loop_st mixed (S := sch21) (by kernel_rfl) 26 (σ := Nat) (fun k => [(0, .ptr 0 sb 0 0 0), (1, .str key), (5, .int .i64 (sumB (key.take k))), (8, .int .i64 key.length), (9, .int .i64 k)]) (fun _ => [(sb, .lit [.sl 1 false pb 1 0 n n]), (pb, .vec false n encPt 1 rows)]) (fun k => k ≤ key.length) (fun k => key.length - k) 0 rfl (by omega) ⟨rfl, rfl, rfl, rfl, rfl, trivial⟩ (Tells.refl _) ?_
  intro k J (hk1 : k ≤ key.length)
  have hsb := sumB_le (key.take k)
  have htl : (key.take k).length = k := by simp; omega
  by_cases hk2 : k < key.length
  · obtain ⟨c, hc⟩ : ∃ c, key[k]? = some c := ⟨_, List.getElem?_eq_getElem hk2⟩
    have hgd : key.getD (k : Int).toNat 0 = c := by rw [Int.toNat_natCast, List.getD_eq_getElem?_getD, hc]; rfl
    have ht : key.take (k + 1) = key.take k ++ [c] := by rw [List.take_add_one, hc]; rfl
    have hcl := c.toNat_lt
    have hgl : (key.getD (k : Int).toNat 0).toNat < 256 := by rw [hgd]; exact hcl
    repeat' first | exact trivial | refine And.intro trivial ?_ | refine And.intro rfl ?_ | refine And.intro (one_flat (fun _ => rfl) _) ?_ | refine Fit.yes (by omega) ?_ | refine Fit.no ?_ | (refine And.intro (fun hc => ?_) (fun hc => ?_) <;> ((try simp only [Sy.nf, ne_eq, reduceCtorEq, eq_self] at hc); first | (exfalso; first | omega | exact absurd hc (by assumption) | exact absurd (by assumption) hc) | (with_reducible change True at hc; clear hc) | skip)) | refine And.intro (by first | omega | (simp only [Sy.lc, Sy.ll]; omega) | (simp only [Sy.lc] at *; omega)) ?_ | refine And.intro ?_ ?_ | exact rfl | (refine congrArg SV.bool (decide_eq_true ?_); first | rfl | omega | assumption) | refine Pick.mk _ rfl ?_ | refine fun (bN : Nat) => ?_ | refine fun (zA : Bool) (bA : Bs) (cA : Nat) hA => ?_
    refine ⟨k + 1, (by first | omega | (dsimp only; omega) | (simp; omega)), (show k + 1 ≤ key.length from hk2), rfl, ⟨rfl, rfl, den_intE ?_, rfl, rfl, trivial⟩, Tells.refl _⟩
    rw [ht, sumB_snoc, hgd]; omega
  · obtain rfl : k = key.length := by omega
    dsimp only
    rw [List.take_length] at hsb ⊢
    repeat' first | exact trivial | refine And.intro trivial ?_ | refine And.intro rfl ?_ | refine And.intro (one_flat (fun _ => rfl) _) ?_ | refine Fit.yes (by omega) ?_ | refine Fit.no ?_ | (refine And.intro (fun hc => ?_) (fun hc => ?_) <;> ((try simp only [Sy.nf, ne_eq, reduceCtorEq, eq_self] at hc); first | (exfalso; first | omega | exact absurd hc (by assumption) | exact absurd (by assumption) hc) | (with_reducible change True at hc; clear hc) | skip)) | refine And.intro (by first | omega | (simp only [Sy.lc, Sy.ll]; omega) | (simp only [Sy.lc] at *; omega)) ?_ | refine And.intro ?_ ?_ | exact rfl | (refine congrArg SV.bool (decide_eq_true ?_); first | rfl | omega | assumption) | refine Pick.mk _ rfl ?_ | refine fun (bN : Nat) => ?_ | refine fun (zA : Bool) (bA : Bs) (cA : Nat) hA => ?_
    exact ⟨_, _, rfl, Tells.refl _, h⟩
theorem den0 : ∀ k : Nat, denL ((List.replicate k ()).flatMap fun _ : Unit => [SV.nils]) = denL ((List.replicate k (⟨[], 0, true, ⟨0, 0⟩, 0⟩ : Pt)).flatMap encPt)
  | 0 => rfl
  | k + 1 => by rw [List.replicate_succ, List.replicate_succ, List.flatMap_cons, List.flatMap_cons, denL_append, denL_append, den0 k]; rfl
def newP (parts : Int) : Option (List (List Evt)) := if 1 ≤ parts ∧ parts ≤ 16 then some (List.replicate parts.toNat []) else none
theorem new_ob (parts : Int) (K : SV → SH → Prop) (h1 : newP parts = none → K (.tup [.nilp, .int .i64 1]) [])
    (h2 : ∀ (sb : Bs) (S : Src), okSrc S → newP parts = some S.ab → (S.rows.length : Int) = parts → K (.tup [.ptr 0 sb 0 0 0, .int .i64 0]) (sM sb S)) : FnOb Tryd.prog 9 [.int .i64 parts] [] K := by
  apply FnOb.tidy
  apply en9
  by_cases hb : 1 ≤ parts ∧ parts ≤ 16
  · obtain ⟨N, rfl⟩ : ∃ N : Nat, parts = N := ⟨parts.toNat, by omega⟩
    have hn : newP N = some (List.replicate N []) := by unfold newP; rw [if_pos hb, Int.toNat_natCast]
    repeat' first | exact trivial | refine And.intro trivial ?_ | refine And.intro rfl ?_ | refine And.intro (one_flat (fun _ => rfl) _) ?_ | refine Fit.yes (by omega) ?_ | refine Fit.no ?_ | (refine And.intro (fun hc => ?_) (fun hc => ?_) <;> ((try simp only [Sy.nf, ne_eq, reduceCtorEq, eq_self] at hc); first | (exfalso; first | omega | exact absurd hc (by assumption) | exact absurd (by assumption) hc) | (with_reducible change True at hc; clear hc) | skip)) | refine And.intro (by first | omega | (simp only [Sy.lc, Sy.ll]; omega) | (simp only [Sy.lc] at *; omega)) ?_ | refine And.intro ?_ ?_ | exact rfl | (refine congrArg SV.bool (decide_eq_true ?_); first | rfl | omega | assumption) | refine Pick.mk _ rfl ?_ | refine fun (bN : Nat) => ?_ | refine fun (zA : Bool) (bA : Bs) (cA : Nat) hA => ?_
    · rw [natK_eq]
      show ((24 : Nat) : Int) * _ ≤ _
      omega
    conv => whnf
    refine ⟨Unit, fun _ => [SV.nils], (), rfl, ?_⟩
    refine fun (pb : Nat) => ?_
    repeat' first | exact trivial | refine And.intro trivial ?_ | refine And.intro rfl ?_ | refine And.intro (one_flat (fun _ => rfl) _) ?_ | refine Fit.yes (by omega) ?_ | refine Fit.no ?_ | (refine And.intro (fun hc => ?_) (fun hc => ?_) <;> ((try simp only [Sy.nf, ne_eq, reduceCtorEq, eq_self] at hc); first | (exfalso; first | omega | exact absurd hc (by assumption) | exact absurd (by assumption) hc) | (with_reducible change True at hc; clear hc) | skip)) | refine And.intro (by first | omega | (simp only [Sy.lc, Sy.ll]; omega) | (simp only [Sy.lc] at *; omega)) ?_ | refine And.intro ?_ ?_ | exact rfl | (refine congrArg SV.bool (decide_eq_true ?_); first | rfl | omega | assumption) | refine Pick.mk _ rfl ?_ | refine fun (bN : Nat) => ?_ | refine fun (zA : Bool) (bA : Bs) (cA : Nat) hA => ?_
    conv => whnf
    repeat' first | exact trivial | refine And.intro trivial ?_ | refine And.intro rfl ?_ | refine And.intro (one_flat (fun _ => rfl) _) ?_ | refine Fit.yes (by omega) ?_ | refine Fit.no ?_ | (refine And.intro (fun hc => ?_) (fun hc => ?_) <;> ((try simp only [Sy.nf, ne_eq, reduceCtorEq, eq_self] at hc); first | (exfalso; first | omega | exact absurd hc (by assumption) | exact absurd (by assumption) hc) | (with_reducible change True at hc; clear hc) | skip)) | refine And.intro (by first | omega | (simp only [Sy.lc, Sy.ll]; omega) | (simp only [Sy.lc] at *; omega)) ?_ | refine And.intro ?_ ?_ | exact rfl | (refine congrArg SV.bool (decide_eq_true ?_); first | rfl | omega | assumption) | refine Pick.mk _ rfl ?_ | refine fun (bN : Nat) => ?_ | refine fun (zA : Bool) (bA : Bs) (cA : Nat) hA => ?_
    rw [Int.toNat_natCast]
    refine ⟨.tup [.ptr 0 ⟨bN, 0⟩ 0 0 0, .int .i64 0], sM ⟨bN, 0⟩ ⟨⟨pb, 0⟩, ⟨0, 0⟩, List.replicate N ⟨[], 0, true, ⟨0, 0⟩, 0⟩⟩, rfl, ?_, h2 _ _ ⟨by simp; omega, by simp; omega, fun p hp => by rw [List.eq_of_mem_replicate hp]; simp⟩ (by rw [hn]; simp [Src.ab]) (by simp)⟩
    refine Tells.pick [some 1, some 0, none] (by decide) ⟨Retell.lit (by simp only [List.length_replicate]; rfl), ?_, ?_, rfl⟩
    · show Retell _ (_, .vec false (List.replicate N (⟨[], 0, true, ⟨0, 0⟩, 0⟩ : Pt)).length encPt 1 (List.replicate N ⟨[], 0, true, ⟨0, 0⟩, 0⟩))
      rw [List.length_replicate]
      exact Retell.map (den0 N) (by simp) (fun _ _ => rfl)
    · refine Ghost.famOf fun a ha => ?_
      obtain ⟨x, hx, hax⟩ := List.mem_flatMap.1 ha
      rw [List.eq_of_mem_replicate hx] at hax
      rw [List.mem_singleton.1 hax]
      exact ⟨Ghost.vec, rfl, rfl⟩
  · repeat' first | exact trivial | refine And.intro trivial ?_ | refine And.intro rfl ?_ | refine And.intro (one_flat (fun _ => rfl) _) ?_ | refine Fit.yes (by omega) ?_ | refine Fit.no ?_ | (refine And.intro (fun hc => ?_) (fun hc => ?_) <;> ((try simp only [Sy.nf, ne_eq, reduceCtorEq, eq_self] at hc); first | (exfalso; first | omega | exact absurd hc (by assumption) | exact absurd (by assumption) hc) | (with_reducible change True at hc; clear hc) | skip)) | refine And.intro (by first | omega | (simp only [Sy.lc, Sy.ll]; omega) | (simp only [Sy.lc] at *; omega)) ?_ | refine And.intro ?_ ?_ | exact rfl | (refine congrArg SV.bool (decide_eq_true ?_); first | rfl | omega | assumption) | refine Pick.mk _ rfl ?_ | refine fun (bN : Nat) => ?_ | refine fun (zA : Bool) (bA : Bs) (cA : Nat) hA => ?_
    all_goals exact ⟨_, _, rfl, Tells.refl _, h1 (if_neg hb)⟩
def endsL (A : List (List Evt)) (k : Nat) : List Int := (A.take k).map (fun l => (l.length : Int)) ++ List.replicate (A.length - k) 0
theorem endsL_len (A : List (List Evt)) (k : Nat) : (endsL A k).length = A.length := by unfold endsL; simp; omega
theorem endsL_all (A : List (List Evt)) : endsL A A.length = A.map fun l => (l.length : Int) := by unfold endsL; simp
theorem endsL_zero (A : List (List Evt)) : endsL A 0 = List.replicate A.length 0 := by unfold endsL; simp
theorem endsL_step {A : List (List Evt)} {k : Nat} {l : List Evt} (h : A[k]? = some l) : (endsL A k).set k (l.length : Int) = endsL A (k + 1) := by
  have hk := (List.getElem?_eq_some_iff.1 h).1
  unfold endsL
  have hl : ((A.take k).map fun l => (l.length : Int)).length = k := by simp; omega
  rw [List.set_append, hl, if_neg (by omega), Nat.sub_self, List.take_add_one, h, List.map_append, List.append_assoc]
  congr 1
  obtain ⟨m, hm⟩ : ∃ m, A.length - k = m + 1 := ⟨A.length - k - 1, by omega⟩
  rw [hm, show A.length - (k + 1) = m by omega, List.replicate_succ, List.set_cons_zero]; rfl
theorem ends_ob (sb : Bs) (S : Src) (hS : okSrc S) (K : SV → SH → Prop) (h : ∀ oz ob oc, K (.sl 3 oz ob 1 0 (S.ab.map List.length).length oc) (sM sb S ++ [(ob, .vec oz oc (encInt .i64) 1 (S.ab.map fun l => (l.length : Int)))])) : FnOb Tryd.prog 11 [.ptr 0 sb 0 0 0] (sM sb S) K := by
  obtain ⟨hS1, hS2, hS3⟩ := hS
  have hal : S.ab.length = S.rows.length := by simp [Src.ab]
  apply FnOb.tidy
  apply en11
  repeat' first | exact trivial | refine And.intro trivial ?_ | refine And.intro rfl ?_ | refine And.intro (one_flat (fun _ => rfl) _) ?_ | refine Fit.yes (by omega) ?_ | refine Fit.no ?_ | (refine And.intro (fun hc => ?_) (fun hc => ?_) <;> ((try simp only [Sy.nf, ne_eq, reduceCtorEq, eq_self] at hc); first | (exfalso; first | omega | exact absurd hc (by assumption) | exact absurd (by assumption) hc) | (with_reducible change True at hc; clear hc) | skip)) | refine And.intro (by first | omega | (simp only [Sy.lc, Sy.ll]; omega) | (simp only [Sy.lc] at *; omega)) ?_ | refine And.intro ?_ ?_ | exact rfl | (refine congrArg SV.bool (decide_eq_true ?_); first | rfl | omega | assumption) | refine Pick.mk _ rfl ?_ | refine fun (bN : Nat) => ?_ | refine fun (zA : Bool) (bA : Bs) (cA : Nat) hA => ?_
  · rw [natK_eq]
    show ((8 : Nat) : Int) * _ ≤ _
    omega
  conv => whnf
  repeat' first | exact trivial | refine And.intro trivial ?_ | refine And.intro rfl ?_ | refine And.intro (one_flat (fun _ => rfl) _) ?_ | refine Fit.yes (by omega) ?_ | refine Fit.no ?_ | (refine And.intro (fun hc => ?_) (fun hc => ?_) <;> ((try simp only [Sy.nf, ne_eq, reduceCtorEq, eq_self] at hc); first | (exfalso; first | omega | exact absurd hc (by assumption) | exact absurd (by assumption) hc) | (with_reducible change True at hc; clear hc) | skip)) | refine And.intro (by first | omega | (simp only [Sy.lc, Sy.ll]; omega) | (simp only [Sy.lc] at *; omega)) ?_ | refine And.intro ?_ ?_ | exact rfl | (refine congrArg SV.bool (decide_eq_true ?_); first | rfl | omega | assumption) | refine Pick.mk _ rfl ?_ | refine fun (bN : Nat) => ?_ | refine fun (zA : Bool) (bA : Bs) (cA : Nat) hA => ?_
  rw [Int.toNat_natCast, ← hal]
  refine loop_st mixed (S := sch11) (by kernel_rfl) 32 (σ := Nat) (fun k => [(0, .ptr 0 sb 0 0 0), (3, .sl 3 false ⟨bN, 0⟩ 1 0 S.ab.length S.ab.length), (15, .int .i64 S.ab.length), (16, .int .i64 k)])
    (fun k => sM sb S ++ [(⟨bN, 0⟩, .vec false S.ab.length (encInt .i64) 1 (endsL S.ab k))]) (fun k => k ≤ S.ab.length) (fun k => S.ab.length - k) 0 rfl (by omega) ⟨rfl, rfl, rfl, rfl, trivial⟩ ?_ ?_
  · rw [endsL_zero]
    exact Tells.refl _
  intro k J (hk : k ≤ S.ab.length)
  have hel := endsL_len S.ab k
  by_cases hk2 : k < S.ab.length
  · obtain ⟨x, hx⟩ : ∃ x, S.rows[k]? = some x := ⟨_, List.getElem?_eq_getElem (by omega)⟩
    have hxa : S.ab[k]? = some x.l := by unfold Src.ab; rw [List.getElem?_map, hx]; rfl
    have hx' : S.rows[0 + (k : Int).toNat]? = some x := by rw [show 0 + (k : Int).toNat = k by omega]; exact hx
    have hxl := hS3 x (List.mem_of_getElem? hx)
    repeat' first | exact trivial | refine And.intro trivial ?_ | refine And.intro rfl ?_ | refine And.intro (one_flat (fun _ => rfl) _) ?_ | refine Fit.yes (by omega) ?_ | refine Fit.no ?_ | (refine And.intro (fun hc => ?_) (fun hc => ?_) <;> ((try simp only [Sy.nf, ne_eq, reduceCtorEq, eq_self] at hc); first | (exfalso; first | omega | exact absurd hc (by assumption) | exact absurd (by assumption) hc) | (with_reducible change True at hc; clear hc) | skip)) | refine And.intro (by first | omega | (simp only [Sy.lc, Sy.ll]; omega) | (simp only [Sy.lc] at *; omega)) ?_ | refine And.intro ?_ ?_ | exact rfl | (refine congrArg SV.bool (decide_eq_true ?_); first | rfl | omega | assumption) | refine Pick.mk _ rfl ?_ | refine fun (bN : Nat) => ?_ | refine fun (zA : Bool) (bA : Bs) (cA : Nat) hA => ?_ | (intro x' hx''; obtain rfl := Option.some.inj (hx'.symm.trans hx''))
    intro y hy
    refine Pick.mk (x.l.length : Int) rfl ?_
    rw [show 0 + (k : Int).toNat = k by omega, endsL_step hxa]
    conv => whnf
    repeat' first | exact trivial | refine And.intro trivial ?_ | refine And.intro rfl ?_ | refine And.intro (one_flat (fun _ => rfl) _) ?_ | refine Fit.yes (by omega) ?_ | refine Fit.no ?_ | (refine And.intro (fun hc => ?_) (fun hc => ?_) <;> ((try simp only [Sy.nf, ne_eq, reduceCtorEq, eq_self] at hc); first | (exfalso; first | omega | exact absurd hc (by assumption) | exact absurd (by assumption) hc) | (with_reducible change True at hc; clear hc) | skip)) | refine And.intro (by first | omega | (simp only [Sy.lc, Sy.ll]; omega) | (simp only [Sy.lc] at *; omega)) ?_ | refine And.intro ?_ ?_ | exact rfl | (refine congrArg SV.bool (decide_eq_true ?_); first | rfl | omega | assumption) | refine Pick.mk _ rfl ?_ | refine fun (bN : Nat) => ?_ | refine fun (zA : Bool) (bA : Bs) (cA : Nat) hA => ?_
    exact ⟨k + 1, (by first | omega | (dsimp only; omega) | (simp; omega)), (show k + 1 ≤ S.ab.length from hk2), rfl, ⟨rfl, rfl, rfl, rfl, trivial⟩, by (refine Tells.pick [some 0, some 1, some 2, some 3] (by decide) ?_; repeat' first | exact rfl | exact Retell.refl _ | exact Retell.lit rfl | exact Retell.rows | exact Ghost.vec | exact Ghost.win | refine And.intro ?_ ?_)⟩
  · obtain rfl : k = S.ab.length := by omega
    have := h false ⟨bN, 0⟩ S.ab.length
    rw [List.length_map] at this
    dsimp only
    rw [endsL_all]
    repeat' first | exact trivial | refine And.intro trivial ?_ | refine And.intro rfl ?_ | refine And.intro (one_flat (fun _ => rfl) _) ?_ | refine Fit.yes (by omega) ?_ | refine Fit.no ?_ | (refine And.intro (fun hc => ?_) (fun hc => ?_) <;> ((try simp only [Sy.nf, ne_eq, reduceCtorEq, eq_self] at hc); first | (exfalso; first | omega | exact absurd hc (by assumption) | exact absurd (by assumption) hc) | (with_reducible change True at hc; clear hc) | skip)) | refine And.intro (by first | omega | (simp only [Sy.lc, Sy.ll]; omega) | (simp only [Sy.lc] at *; omega)) ?_ | refine And.intro ?_ ?_ | exact rfl | (refine congrArg SV.bool (decide_eq_true ?_); first | rfl | omega | assumption) | refine Pick.mk _ rfl ?_ | refine fun (bN : Nat) => ?_ | refine fun (zA : Bool) (bA : Bs) (cA : Nat) hA => ?_
    conv => whnf
    repeat' first | exact trivial | refine And.intro trivial ?_ | refine And.intro rfl ?_ | refine And.intro (one_flat (fun _ => rfl) _) ?_ | refine Fit.yes (by omega) ?_ | refine Fit.no ?_ | (refine And.intro (fun hc => ?_) (fun hc => ?_) <;> ((try simp only [Sy.nf, ne_eq, reduceCtorEq, eq_self] at hc); first | (exfalso; first | omega | exact absurd hc (by assumption) | exact absurd (by assumption) hc) | (with_reducible change True at hc; clear hc) | skip)) | refine And.intro (by first | omega | (simp only [Sy.lc, Sy.ll]; omega) | (simp only [Sy.lc] at *; omega)) ?_ | refine And.intro ?_ ?_ | exact rfl | (refine congrArg SV.bool (decide_eq_true ?_); first | rfl | omega | assumption) | refine Pick.mk _ rfl ?_ | refine fun (bN : Nat) => ?_ | refine fun (zA : Bool) (bA : Bs) (cA : Nat) hA => ?_
    exact ⟨_, _, rfl, Tells.refl _, this⟩
end Go.Proofs.YtgapmdkiijpmpaaDoor

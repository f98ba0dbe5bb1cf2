/- The buffer: an entry is put. Own work. -/
import Derived.Test.YthimgonpkhoodaaV3
namespace Go.Proofs.Ythimgonpkhoodaa
open Go Go.Sy Go.Bu
set_option maxRecDepth 100000
set_option linter.unusedVariables false
set_option linter.unusedSimpArgs false
set_option maxHeartbeats 4000000
theorem zr3 : zrOf Try.prog 3 = some (.int .i64 0) := by kernel_rfl
theorem keyK : KeyA Try.prog 89 ekK := keyA_kinds (ks := [.i .i64, .i .i64, .i .i64]) (fun k : Ky => [SV.int .i64 k.1, .int .i64 k.2.1, .int .i64 k.2.2]) (by kernel_rfl) (by kernel_rfl) (fun a => ⟨rfl, rfl, rfl, trivial⟩) (fun a b h => by
  simp only [denL, SV.den, List.cons.injEq, Value.int.injEq, true_and, and_true] at h
  obtain ⟨a1, a2, a3⟩ := a
  obtain ⟨b1, b2, b3⟩ := b
  obtain ⟨h1, h2, h3⟩ := h
  simp only at h1 h2 h3
  subst h1; subst h2; subst h3; rfl)
abbrev ptrs (L : List Rw) : List SV := L.map fun x => .ptr 5 x.b 0 0 0
theorem den_ptrs (L : List Rw) : denL (L.flatMap (encEp 5)) = denL ((ptrs L).flatMap encV) := by
  induction L with
  | nil => rfl
  | cons x l ih => rw [List.flatMap_cons, show ptrs (x :: l) = .ptr 5 x.b 0 0 0 :: ptrs l from rfl, List.flatMap_cons, denL_append, denL_append, ih]
/-- The rows of pointers told as cells. -/
def bV (bb : Bs) (S : BS) (R : List SV) (rows' : List Rw) : SH :=
  [(bb, .lit [.sl 1 S.ez S.eb 1 0 R.length S.ec, .mp 2 S.mb, .sl 3 S.fz S.fb 1 0 S.free.length S.fc]), (S.eb, .vec S.ez S.ec encV 1 R), (S.mb, mapB ekK evI S.M), (S.fb, .vec S.fz S.fc (encInt .i64) 1 S.free), (S.fm, famB atomsE rows')]
theorem bV_of {bb : Bs} {S : BS} {rows' : List Rw} : Tells (bH 5 bb S S.rows rows') (bV bb S (ptrs S.rows) rows') :=
  Tells.pick [some 0, some 1, some 2, some 3, some 4] (by decide) ⟨Retell.lit (by simp), Retell.map (den_ptrs _) (by simp) (fun _ _ => rfl), Retell.refl _, Retell.refl _, Retell.refl _, rfl⟩
theorem bH_of {bb : Bs} {S : BS} {R : List SV} {rows' : List Rw} (h : denL (R.flatMap encV) = denL ((ptrs S.rows).flatMap encV)) : Tells (bV bb S R rows') (bH 5 bb S S.rows rows') := by
  have hl : R.length = S.rows.length := by
    have := congrArg List.length h
    rw [denL_length, denL_length, flatMap_length encV 1 R (fun _ _ => rfl), flatMap_length encV 1 _ (fun _ _ => rfl)] at this
    simpa using this
  exact Tells.pick [some 0, some 1, some 2, some 3, some 4] (by decide) ⟨Retell.lit (by rw [hl]), Retell.map (h.trans (den_ptrs _).symm) hl.symm (fun _ _ => rfl), Retell.refl _, Retell.refl _, Retell.refl _, rfl⟩
theorem bV_own (bb : Bs) (S : BS) (R : List SV) (rows' : List Rw) : ∀ p ∈ bV bb S R rows', ownE p := by
  intro p hp
  simp only [bV, List.mem_cons, List.not_mem_nil, or_false] at hp
  rcases hp with rfl | rfl | rfl | rfl | rfl
  · exact ownE_atom rfl rfl
  · exact ownE_atom rfl rfl
  · exact ownE_atom rfl rfl
  · exact ownE_atom rfl rfl
  · refine ownE_fam fun a ha => ?_
    obtain ⟨x, _, hx⟩ := List.mem_flatMap.1 ha
    exact atomsE_ok x a hx
def setR (L : List Rw) (f : Nat) (x : Rw) : List Rw := if f < L.length then L.set f x else L ++ [x]
theorem putEnd {bb : Bs} {S' : BS} {F : List Rw} {f : Nat} {new : Rw} (hF : S'.rows = setR F f new) : Tells (bH 5 bb S' S'.rows F ++ atomsE 5 new) (bM bb S') := by
  unfold setR at hF
  by_cases hf : f < F.length
  · rw [if_pos hf] at hF
    obtain ⟨old, ho⟩ : ∃ old, F[f]? = some old := ⟨_, List.getElem?_eq_getElem hf⟩
    refine Tells.trans (Tells.openK (f := atomsE) (H := bH 5 bb S' S'.rows F ++ atomsE 5 new) 4 f rfl ho (atomsE_re _ _ _)) ?_
    refine Tells.trans (H1 := bH 5 bb S' S'.rows (F.eraseIdx f) ++ atomsE 5 new) (by (refine Tells.pick [some 0, some 1, some 2, some 3, some 4, some 5] (by decide) ?_; repeat' first | exact rfl | exact Retell.refl _ | exact Retell.lit rfl | exact Retell.rows | exact Ghost.vec | exact Ghost.win | refine And.intro ?_ ?_)) ?_
    have := Tells.closeK (f := atomsE) (H := bH 5 bb S' S'.rows (F.eraseIdx f)) 4 f (x := new) rfl hf (atomsE_re _ _ _) (atomsE_ok _)
    rw [← hF] at this
    exact this
  · rw [if_neg hf] at hF
    have := Tells.addK (f := atomsE) (H := bH 5 bb S' S'.rows F) (L := F) (x := new) 4 rfl (atomsE_re _ _ _) (atomsE_ok _)
    rw [← hF] at this
    exact this
theorem putFin {bb : Bs} {S' : BS} {R : List SV} {F : List Rw} {f : Nat} {new : Rw} (hF : S'.rows = setR F f new) (hden : denL (R.flatMap encV) = denL ((ptrs S'.rows).flatMap encV)) : Tells (bV bb S' R F ++ atomsE 5 new) (bM bb S') :=
  Tells.trans ((bH_of hden).frame (bH_own 5 bb S' S'.rows F) (atomsE 5 new)) (putEnd hF)
theorem den_put {L : List Rw} {f h : Nat} {b : Bs} {e : Ent} (hf : f ≤ L.length) : denL (((if f < L.length then ptrs L else ptrs L ++ [SV.nilp]).set f (.ptr h b 0 0 0)).flatMap encV) = denL ((ptrs (setR L f ⟨b, e⟩)).flatMap encV) := by
  rw [flat_V, flat_V]
  unfold setR
  have key : ∀ (l : List SV) (x : SV) (i : Nat), denL (l.set i x) = (denL l).set i x.den := fun l x i => by rw [denL_eq, denL_eq, List.map_set]
  split
  · rw [key, show ptrs (L.set f ⟨b, e⟩) = (ptrs L).set f (.ptr 5 b 0 0 0) from by simp [List.map_set], key]; rfl
  · have : f = (ptrs L).length := by simp; omega
    rw [this, List.set_append_right _ _ (Nat.le_refl _), Nat.sub_self, List.set_cons_zero, denL_append, show ptrs (L ++ [⟨b, e⟩]) = ptrs L ++ [.ptr 5 b 0 0 0] from by simp, denL_append]; rfl
theorem den_free (S : BS) (x y : SV) (hn : 0 < S.free.length) : denL [x, y, .sl 3 (nilB S.fz S.free.length S.fc) S.fb 1 (if S.fc = Int.toNat 1 then 0 else 0 + Int.toNat 1) (S.free.length - Int.toNat 1) (S.fc - Int.toNat 1)] = denL [x, y, .sl 3 (nilB S.fz S.free.length S.fc) ⟨S.fb.n, S.fb.o + (if S.fc = 1 then 0 else 1) * 1⟩ 1 0 (S.free.drop 1).length (S.fc - 1)] := by
  have e : (SV.sl 3 (nilB S.fz S.free.length S.fc) S.fb 1 (if S.fc = Int.toNat 1 then 0 else 0 + Int.toNat 1) (S.free.length - Int.toNat 1) (S.fc - Int.toNat 1)).den = (SV.sl 3 (nilB S.fz S.free.length S.fc) ⟨S.fb.n, S.fb.o + (if S.fc = 1 then 0 else 1) * 1⟩ 1 0 (S.free.drop 1).length (S.fc - 1)).den := by
    simp only [SV.den, show Int.toNat 1 = 1 from rfl, List.length_drop, nilB_pos S.fz S.fc hn, nilB_false]
    split <;> simp
  simp only [denL, e]
theorem setR_get {F : List Rw} {f : Nat} {x : Rw} (hf : f ≤ F.length) (j : Nat) : (setR F f x)[j]? = if j = f then some x else F[j]? := by
  unfold setR
  split
  · rw [List.getElem?_set]
    by_cases hj : j = f
    · rw [if_pos hj, if_pos hj.symm, if_pos (by omega)]
    · rw [if_neg hj, if_neg (fun e => hj e.symm)]
  · rw [List.getElem?_append]
    by_cases hj : j = f
    · rw [if_pos hj, if_neg (by omega), show j - F.length = 0 by omega]; rfl
    · rw [if_neg hj]
      split
      · rfl
      · rw [List.getElem?_eq_none (by simp; omega), List.getElem?_eq_none (by omega)]
theorem ptrs_set {L : List Rw} {k : Nat} {x x' : Rw} (hx : L[k]? = some x) (hb : x'.b = x.b) : ptrs (L.set k x') = ptrs L := by
  show (L.set k x').map _ = _
  rw [List.map_set, hb]
  exact set_same' (by rw [List.getElem?_map, hx]; rfl)
theorem rows_put {S : BS} {L : List Ent} {k f : Nat} {x : Rw} {b : Bs} {new : Ent} (hab : S.ab = L) (hx : S.rows[k]? = some x) (hf : f ≤ S.rows.length) (j : Nat) :
    ((setR (S.rows.set k { x with e := { x.e with kids := x.e.kids + 1 } }) f ⟨b, new⟩)[j]?).map Rw.e = if j = f then some new else (L[j]?).map fun e => if (k : Int) = (j : Int) then { e with kids := e.kids + 1 } else e := by
  rw [setR_get (by simpa using hf)]
  by_cases hj : j = f
  · rw [if_pos hj, if_pos hj]; rfl
  · rw [if_neg hj, if_neg hj, List.getElem?_set, ← hab]
    unfold BS.ab
    rw [List.getElem?_map]
    by_cases hk : k = j
    · subst hk
      rw [if_pos rfl, if_pos (List.getElem?_eq_some_iff.1 hx).1, hx]; simp
    · rw [if_neg hk]
      cases S.rows[j]? with
      | none => rfl
      | some q => simp only [Option.map_some]; rw [if_neg (by omega)]
theorem okS_put {S S' : BS} {L : List Ent} {N : Nat} {s p r : Int} (hS : okS S L none N) (hs : 0 ≤ s ∧ s < 8 ∧ 0 ≤ p ∧ p ≤ 1073741824) (hlen : lenR L none < 4096) (hr : r = -1 ∨ ∃ (q : Nat) (e : Ent), r = q ∧ L[q]? = some e ∧ e.live = true ∧ e.place < p) (hno : findB L (s, p, r) = none)
    (hrows : ∀ j : Nat, (S'.rows[j]?).map Rw.e = if j = freeF L then some ⟨s, p, r, 1, 0⟩ else (L[j]?).map fun e => if r = (j : Int) then { e with kids := e.kids + 1 } else e) (hM : S'.M = putM S.M (s, p, r) (freeF L : Int)) (hfree : S'.free = S.free.tail) :
    okS S' (bumpK (setE L (freeF L) ⟨s, p, r, 1, 0⟩) r 1) none (N + 1) := by
  obtain ⟨a, b, c, d, e, f⟩ := hS.wf.put hs hlen hr (findB_none hno)
  refine ⟨?_, ?_, ?_, a⟩
  · apply List.ext_getElem?
    intro j
    unfold BS.ab
    rw [List.getElem?_map, hrows, d]
  · rw [hfree, c, hS.free, List.map_tail]
  · rw [hM]
    exact hS.map.put (new := ⟨s, p, r, 1, 0⟩) b e f (fun j => by rw [d]; split; rfl; cases L[j]? with | none => rfl | some q => simp only [Option.map_some]; split <;> rfl) (by
      rw [find_eq hS.wf hS.map]
      show (findB L (s, p, r)).map (fun i : Nat => (i : Int)) = none
      rw [hno]; rfl)
theorem put_ob (bb : Bs) (S : BS) {L : List Ent} {N : Nat} (hS : okS S L none N) (hN : N + 1 ≤ 1099511627776) (s p r : Int) {v e : Int} {L' : List Ent} (hR : putA L s p r = ((v, e), L')) (K : SV → SH → Prop)
    (h : ∀ S', okS S' L' none (N + 1) → K (.tup [.int .i64 v, .int .i64 e]) (bM bb S')) : FnOb Try.prog 15 [.ptr 0 bb 0 0 0, .int .i64 s, .int .i64 p, .int .i64 r] (bM bb S) K := by
  obtain ⟨hl, hb⟩ := bounds hS (by omega)
  have hll : S.rows.length = L.length := by rw [← hS.ab]; simp [BS.ab]
  have hsame : okS S L none (N + 1) := ⟨hS.ab, hS.free, hS.map, hS.wf.more (by omega)⟩
  apply FnOb.tidy
  apply en15
  unfold putA at hR
  by_cases hrange : s < 0 ∨ 8 ≤ s ∨ p < 0 ∨ 1073741824 < p
  · rw [if_pos hrange] at hR
    simp only [Prod.mk.injEq] at hR
    obtain ⟨⟨rfl, rfl⟩, rfl⟩ := hR
    have := h S hsame
    by_cases h1 : s < 0
    · (repeat' first | exact trivial | refine And.intro trivial ?_ | refine And.intro rfl ?_ | refine And.intro (one_flat (fun _ => rfl) _) ?_ | refine Fit.yes (by omega) ?_ | refine Fit.no ?_ | (refine And.intro (fun hc => ?_) (fun hc => ?_) <;> ((try simp only [Sy.nf, ne_eq, reduceCtorEq, eq_self] at hc); first | (exfalso; first | omega | exact absurd hc (by assumption) | exact absurd (by assumption) hc) | (with_reducible change True at hc; clear hc) | skip)) | refine And.intro (by first | omega | (simp only [Sy.lc, Sy.ll]; omega) | (simp only [Sy.lc] at *; omega)) ?_ | refine And.intro ?_ ?_ | exact rfl | (refine congrArg SV.bool (decide_eq_true ?_); first | rfl | omega | assumption) | refine Pick.mk _ rfl ?_ | refine fun (bN : Nat) => ?_ | refine fun (zA : Bool) (bA : Bs) (cA : Nat) hA => ?_); all_goals (try (conv => whnf)); (repeat' first | exact trivial | refine And.intro trivial ?_ | refine And.intro rfl ?_ | refine And.intro (one_flat (fun _ => rfl) _) ?_ | refine Fit.yes (by omega) ?_ | refine Fit.no ?_ | (refine And.intro (fun hc => ?_) (fun hc => ?_) <;> ((try simp only [Sy.nf, ne_eq, reduceCtorEq, eq_self] at hc); first | (exfalso; first | omega | exact absurd hc (by assumption) | exact absurd (by assumption) hc) | (with_reducible change True at hc; clear hc) | skip)) | refine And.intro (by first | omega | (simp only [Sy.lc, Sy.ll]; omega) | (simp only [Sy.lc] at *; omega)) ?_ | refine And.intro ?_ ?_ | exact rfl | (refine congrArg SV.bool (decide_eq_true ?_); first | rfl | omega | assumption) | refine Pick.mk _ rfl ?_ | refine fun (bN : Nat) => ?_ | refine fun (zA : Bool) (bA : Bs) (cA : Nat) hA => ?_)
      exact ⟨_, _, rfl, Tells.refl _, this⟩
    by_cases h2 : 8 ≤ s
    · (repeat' first | exact trivial | refine And.intro trivial ?_ | refine And.intro rfl ?_ | refine And.intro (one_flat (fun _ => rfl) _) ?_ | refine Fit.yes (by omega) ?_ | refine Fit.no ?_ | (refine And.intro (fun hc => ?_) (fun hc => ?_) <;> ((try simp only [Sy.nf, ne_eq, reduceCtorEq, eq_self] at hc); first | (exfalso; first | omega | exact absurd hc (by assumption) | exact absurd (by assumption) hc) | (with_reducible change True at hc; clear hc) | skip)) | refine And.intro (by first | omega | (simp only [Sy.lc, Sy.ll]; omega) | (simp only [Sy.lc] at *; omega)) ?_ | refine And.intro ?_ ?_ | exact rfl | (refine congrArg SV.bool (decide_eq_true ?_); first | rfl | omega | assumption) | refine Pick.mk _ rfl ?_ | refine fun (bN : Nat) => ?_ | refine fun (zA : Bool) (bA : Bs) (cA : Nat) hA => ?_); all_goals (try (conv => whnf)); (repeat' first | exact trivial | refine And.intro trivial ?_ | refine And.intro rfl ?_ | refine And.intro (one_flat (fun _ => rfl) _) ?_ | refine Fit.yes (by omega) ?_ | refine Fit.no ?_ | (refine And.intro (fun hc => ?_) (fun hc => ?_) <;> ((try simp only [Sy.nf, ne_eq, reduceCtorEq, eq_self] at hc); first | (exfalso; first | omega | exact absurd hc (by assumption) | exact absurd (by assumption) hc) | (with_reducible change True at hc; clear hc) | skip)) | refine And.intro (by first | omega | (simp only [Sy.lc, Sy.ll]; omega) | (simp only [Sy.lc] at *; omega)) ?_ | refine And.intro ?_ ?_ | exact rfl | (refine congrArg SV.bool (decide_eq_true ?_); first | rfl | omega | assumption) | refine Pick.mk _ rfl ?_ | refine fun (bN : Nat) => ?_ | refine fun (zA : Bool) (bA : Bs) (cA : Nat) hA => ?_)
      exact ⟨_, _, rfl, Tells.refl _, this⟩
    by_cases h3 : p < 0
    · (repeat' first | exact trivial | refine And.intro trivial ?_ | refine And.intro rfl ?_ | refine And.intro (one_flat (fun _ => rfl) _) ?_ | refine Fit.yes (by omega) ?_ | refine Fit.no ?_ | (refine And.intro (fun hc => ?_) (fun hc => ?_) <;> ((try simp only [Sy.nf, ne_eq, reduceCtorEq, eq_self] at hc); first | (exfalso; first | omega | exact absurd hc (by assumption) | exact absurd (by assumption) hc) | (with_reducible change True at hc; clear hc) | skip)) | refine And.intro (by first | omega | (simp only [Sy.lc, Sy.ll]; omega) | (simp only [Sy.lc] at *; omega)) ?_ | refine And.intro ?_ ?_ | exact rfl | (refine congrArg SV.bool (decide_eq_true ?_); first | rfl | omega | assumption) | refine Pick.mk _ rfl ?_ | refine fun (bN : Nat) => ?_ | refine fun (zA : Bool) (bA : Bs) (cA : Nat) hA => ?_); all_goals (try (conv => whnf)); (repeat' first | exact trivial | refine And.intro trivial ?_ | refine And.intro rfl ?_ | refine And.intro (one_flat (fun _ => rfl) _) ?_ | refine Fit.yes (by omega) ?_ | refine Fit.no ?_ | (refine And.intro (fun hc => ?_) (fun hc => ?_) <;> ((try simp only [Sy.nf, ne_eq, reduceCtorEq, eq_self] at hc); first | (exfalso; first | omega | exact absurd hc (by assumption) | exact absurd (by assumption) hc) | (with_reducible change True at hc; clear hc) | skip)) | refine And.intro (by first | omega | (simp only [Sy.lc, Sy.ll]; omega) | (simp only [Sy.lc] at *; omega)) ?_ | refine And.intro ?_ ?_ | exact rfl | (refine congrArg SV.bool (decide_eq_true ?_); first | rfl | omega | assumption) | refine Pick.mk _ rfl ?_ | refine fun (bN : Nat) => ?_ | refine fun (zA : Bool) (bA : Bs) (cA : Nat) hA => ?_)
      exact ⟨_, _, rfl, Tells.refl _, this⟩
    · (repeat' first | exact trivial | refine And.intro trivial ?_ | refine And.intro rfl ?_ | refine And.intro (one_flat (fun _ => rfl) _) ?_ | refine Fit.yes (by omega) ?_ | refine Fit.no ?_ | (refine And.intro (fun hc => ?_) (fun hc => ?_) <;> ((try simp only [Sy.nf, ne_eq, reduceCtorEq, eq_self] at hc); first | (exfalso; first | omega | exact absurd hc (by assumption) | exact absurd (by assumption) hc) | (with_reducible change True at hc; clear hc) | skip)) | refine And.intro (by first | omega | (simp only [Sy.lc, Sy.ll]; omega) | (simp only [Sy.lc] at *; omega)) ?_ | refine And.intro ?_ ?_ | exact rfl | (refine congrArg SV.bool (decide_eq_true ?_); first | rfl | omega | assumption) | refine Pick.mk _ rfl ?_ | refine fun (bN : Nat) => ?_ | refine fun (zA : Bool) (bA : Bs) (cA : Nat) hA => ?_); all_goals (try (conv => whnf)); (repeat' first | exact trivial | refine And.intro trivial ?_ | refine And.intro rfl ?_ | refine And.intro (one_flat (fun _ => rfl) _) ?_ | refine Fit.yes (by omega) ?_ | refine Fit.no ?_ | (refine And.intro (fun hc => ?_) (fun hc => ?_) <;> ((try simp only [Sy.nf, ne_eq, reduceCtorEq, eq_self] at hc); first | (exfalso; first | omega | exact absurd hc (by assumption) | exact absurd (by assumption) hc) | (with_reducible change True at hc; clear hc) | skip)) | refine And.intro (by first | omega | (simp only [Sy.lc, Sy.ll]; omega) | (simp only [Sy.lc] at *; omega)) ?_ | refine And.intro ?_ ?_ | exact rfl | (refine congrArg SV.bool (decide_eq_true ?_); first | rfl | omega | assumption) | refine Pick.mk _ rfl ?_ | refine fun (bN : Nat) => ?_ | refine fun (zA : Bool) (bA : Bs) (cA : Nat) hA => ?_)
      exact ⟨_, _, rfl, Tells.refl _, this⟩
  rw [if_neg hrange] at hR
  have hs : 0 ≤ s ∧ s < 8 ∧ 0 ≤ p ∧ p ≤ 1073741824 := by omega
  clear hrange
  (repeat' first | exact trivial | refine And.intro trivial ?_ | refine And.intro rfl ?_ | refine And.intro (one_flat (fun _ => rfl) _) ?_ | refine Fit.yes (by omega) ?_ | refine Fit.no ?_ | (refine And.intro (fun hc => ?_) (fun hc => ?_) <;> ((try simp only [Sy.nf, ne_eq, reduceCtorEq, eq_self] at hc); first | (exfalso; first | omega | exact absurd hc (by assumption) | exact absurd (by assumption) hc) | (with_reducible change True at hc; clear hc) | skip)) | refine And.intro (by first | omega | (simp only [Sy.lc, Sy.ll]; omega) | (simp only [Sy.lc] at *; omega)) ?_ | refine And.intro ?_ ?_ | exact rfl | (refine congrArg SV.bool (decide_eq_true ?_); first | rfl | omega | assumption) | refine Pick.mk _ rfl ?_ | refine fun (bN : Nat) => ?_ | refine fun (zA : Bool) (bA : Bs) (cA : Nat) hA => ?_); all_goals (try (conv => whnf)); (repeat' first | exact trivial | refine And.intro trivial ?_ | refine And.intro rfl ?_ | refine And.intro (one_flat (fun _ => rfl) _) ?_ | refine Fit.yes (by omega) ?_ | refine Fit.no ?_ | (refine And.intro (fun hc => ?_) (fun hc => ?_) <;> ((try simp only [Sy.nf, ne_eq, reduceCtorEq, eq_self] at hc); first | (exfalso; first | omega | exact absurd hc (by assumption) | exact absurd (by assumption) hc) | (with_reducible change True at hc; clear hc) | skip)) | refine And.intro (by first | omega | (simp only [Sy.lc, Sy.ll]; omega) | (simp only [Sy.lc] at *; omega)) ?_ | refine And.intro ?_ ?_ | exact rfl | (refine congrArg SV.bool (decide_eq_true ?_); first | rfl | omega | assumption) | refine Pick.mk _ rfl ?_ | refine fun (bN : Nat) => ?_ | refine fun (zA : Bool) (bA : Bs) (cA : Nat) hA => ?_)
  refine FnOb.call [0, 1, 2, 3, 4] (at_ob bb S hl hb r _ (fun hno => ?_) (fun k x hk hx hxl => ?_)) (by decide) rfl rfl
  · rw [hS.ab] at hno
    by_cases hr1 : r = -1
    case neg =>
      rw [if_pos ⟨hr1, hno⟩] at hR
      simp only [Prod.mk.injEq] at hR
      obtain ⟨⟨rfl, rfl⟩, rfl⟩ := hR
      have := h S hsame
      (repeat' first | exact trivial | refine And.intro trivial ?_ | refine And.intro rfl ?_ | refine And.intro (one_flat (fun _ => rfl) _) ?_ | refine Fit.yes (by omega) ?_ | refine Fit.no ?_ | (refine And.intro (fun hc => ?_) (fun hc => ?_) <;> ((try simp only [Sy.nf, ne_eq, reduceCtorEq, eq_self] at hc); first | (exfalso; first | omega | exact absurd hc (by assumption) | exact absurd (by assumption) hc) | (with_reducible change True at hc; clear hc) | skip)) | refine And.intro (by first | omega | (simp only [Sy.lc, Sy.ll]; omega) | (simp only [Sy.lc] at *; omega)) ?_ | refine And.intro ?_ ?_ | exact rfl | (refine congrArg SV.bool (decide_eq_true ?_); first | rfl | omega | assumption) | refine Pick.mk _ rfl ?_ | refine fun (bN : Nat) => ?_ | refine fun (zA : Bool) (bA : Bs) (cA : Nat) hA => ?_); all_goals (try (conv => whnf)); (repeat' first | exact trivial | refine And.intro trivial ?_ | refine And.intro rfl ?_ | refine And.intro (one_flat (fun _ => rfl) _) ?_ | refine Fit.yes (by omega) ?_ | refine Fit.no ?_ | (refine And.intro (fun hc => ?_) (fun hc => ?_) <;> ((try simp only [Sy.nf, ne_eq, reduceCtorEq, eq_self] at hc); first | (exfalso; first | omega | exact absurd hc (by assumption) | exact absurd (by assumption) hc) | (with_reducible change True at hc; clear hc) | skip)) | refine And.intro (by first | omega | (simp only [Sy.lc, Sy.ll]; omega) | (simp only [Sy.lc] at *; omega)) ?_ | refine And.intro ?_ ?_ | exact rfl | (refine congrArg SV.bool (decide_eq_true ?_); first | rfl | omega | assumption) | refine Pick.mk _ rfl ?_ | refine fun (bN : Nat) => ?_ | refine fun (zA : Bool) (bA : Bs) (cA : Nat) hA => ?_)
      exact ⟨_, _, rfl, Tells.refl _, this⟩
    rw [if_neg (fun h => h.1 hr1), if_neg (fun h => h.1 hr1)] at hR
    subst hr1
    cases hf : findB L (s, p, -1) with
    | some i =>
      rw [hf] at hR
      simp only [Prod.mk.injEq] at hR
      obtain ⟨⟨rfl, rfl⟩, rfl⟩ := hR
      have hg := find_eq hS.wf hS.map (s, p, -1)
      rw [hf] at hg
      have hg : getM S.M (s, p, -1) = some (i : Int) := hg
      obtain ⟨ei, hi1, hi2, hi3⟩ := findB_some hf
      obtain ⟨y, hy⟩ : ∃ y, S.rows[i]? = some y := ⟨_, List.getElem?_eq_getElem (by rw [hll]; exact (List.getElem?_eq_some_iff.1 hi1).1)⟩
      have hye : y.e = ei := by
        rw [← hS.ab] at hi1
        unfold BS.ab at hi1
        rw [List.getElem?_map, hy] at hi1
        exact Option.some.inj hi1
      subst hye
      have hy' : S.rows[0 + (i : Int).toNat]? = some y := by rw [show 0 + (i : Int).toNat = i by omega]; exact hy
      have hil : i < S.rows.length := (List.getElem?_eq_some_iff.1 hy).1
      have hby := hb y (List.mem_of_getElem? hy)
      have hhy := hS.wf.held i y.e hi1
      obtain ⟨q1, q2, q3, q4⟩ := id hby
      have hlv : 0 < y.e.held + y.e.kids := by simpa [Ent.live] using hi2
      have := h _ (okS_bump (d := 1) (N' := N + 1) hS hy ⟨by omega, by omega⟩ (by omega) (by simp) (by simp) (live_reg hi1 hi2) (.inl (by omega)))
      (repeat' first | exact trivial | refine And.intro trivial ?_ | refine And.intro rfl ?_ | refine And.intro (one_flat (fun _ => rfl) _) ?_ | refine Fit.yes (by omega) ?_ | refine Fit.no ?_ | (refine And.intro (fun hc => ?_) (fun hc => ?_) <;> ((try simp only [Sy.nf, ne_eq, reduceCtorEq, eq_self] at hc); first | (exfalso; first | omega | exact absurd hc (by assumption) | exact absurd (by assumption) hc) | (with_reducible change True at hc; clear hc) | skip)) | refine And.intro (by first | omega | (simp only [Sy.lc, Sy.ll]; omega) | (simp only [Sy.lc] at *; omega)) ?_ | refine And.intro ?_ ?_ | exact rfl | (refine congrArg SV.bool (decide_eq_true ?_); first | rfl | omega | assumption) | refine Pick.mk _ rfl ?_ | refine fun (bN : Nat) => ?_ | refine fun (zA : Bool) (bA : Bs) (cA : Nat) hA => ?_); all_goals (try (conv => whnf)); (repeat' first | exact trivial | refine And.intro trivial ?_ | refine And.intro rfl ?_ | refine And.intro (one_flat (fun _ => rfl) _) ?_ | refine Fit.yes (by omega) ?_ | refine Fit.no ?_ | (refine And.intro (fun hc => ?_) (fun hc => ?_) <;> ((try simp only [Sy.nf, ne_eq, reduceCtorEq, eq_self] at hc); first | (exfalso; first | omega | exact absurd hc (by assumption) | exact absurd (by assumption) hc) | (with_reducible change True at hc; clear hc) | skip)) | refine And.intro (by first | omega | (simp only [Sy.lc, Sy.ll]; omega) | (simp only [Sy.lc] at *; omega)) ?_ | refine And.intro ?_ ?_ | exact rfl | (refine congrArg SV.bool (decide_eq_true ?_); first | rfl | omega | assumption) | refine Pick.mk _ rfl ?_ | refine fun (bN : Nat) => ?_ | refine fun (zA : Bool) (bA : Bs) (cA : Nat) hA => ?_)
      refine OpOb.start (H' := bO bb S i y) (Tells.trans (H1 := bM bb S) (by (refine Tells.pick [some 0, some 1, some 2, some 3, some 4] (by decide) ?_; repeat' first | exact rfl | exact Retell.refl _ | exact Retell.lit rfl | exact Retell.rows | exact Ghost.vec | exact Ghost.win | refine And.intro ?_ ?_)) (bopen hy)) ?_
      refine lookup_obA (k := (s, p, -1)) rfl Try.underlying82 zr3 keyK rfl rfl rfl (fun v hv => ?_) (fun hv => ?_)
      · rw [hg] at hv
        obtain rfl := Option.some.inj hv
        repeat' first | exact trivial | refine And.intro trivial ?_ | refine And.intro rfl ?_ | refine And.intro (one_flat (fun _ => rfl) _) ?_ | refine Fit.yes (by omega) ?_ | refine Fit.no ?_ | (refine And.intro (fun hc => ?_) (fun hc => ?_) <;> ((try simp only [Sy.nf, ne_eq, reduceCtorEq, eq_self] at hc); first | (exfalso; first | omega | exact absurd hc (by assumption) | exact absurd (by assumption) hc) | (with_reducible change True at hc; clear hc) | skip)) | refine And.intro (by first | omega | (simp only [Sy.lc, Sy.ll]; omega) | (simp only [Sy.lc] at *; omega)) ?_ | refine And.intro ?_ ?_ | exact rfl | (refine congrArg SV.bool (decide_eq_true ?_); first | rfl | omega | assumption) | refine Pick.mk _ rfl ?_ | refine fun (bN : Nat) => ?_ | refine fun (zA : Bool) (bA : Bs) (cA : Nat) hA => ?_ | (intro x' hx''; obtain rfl := Option.some.inj (hy'.symm.trans hx''))
        conv => whnf
        repeat' first | exact trivial | refine And.intro trivial ?_ | refine And.intro rfl ?_ | refine And.intro (one_flat (fun _ => rfl) _) ?_ | refine Fit.yes (by omega) ?_ | refine Fit.no ?_ | (refine And.intro (fun hc => ?_) (fun hc => ?_) <;> ((try simp only [Sy.nf, ne_eq, reduceCtorEq, eq_self] at hc); first | (exfalso; first | omega | exact absurd hc (by assumption) | exact absurd (by assumption) hc) | (with_reducible change True at hc; clear hc) | skip)) | refine And.intro (by first | omega | (simp only [Sy.lc, Sy.ll]; omega) | (simp only [Sy.lc] at *; omega)) ?_ | refine And.intro ?_ ?_ | exact rfl | (refine congrArg SV.bool (decide_eq_true ?_); first | rfl | omega | assumption) | refine Pick.mk _ rfl ?_ | refine fun (bN : Nat) => ?_ | refine fun (zA : Bool) (bA : Bs) (cA : Nat) hA => ?_ | (intro x' hx''; obtain rfl := Option.some.inj (hy'.symm.trans hx''))
        exact ⟨_, _, rfl, bclose (x' := { y with e := { y.e with held := y.e.held + 1 } }) hy rfl, this⟩
      · rw [hg] at hv; cases hv
    | none =>
      rw [hf] at hR
      dsimp only at hR
      have hg := find_eq hS.wf hS.map (s, p, -1)
      rw [hf] at hg
      have hg : getM S.M (s, p, -1) = none := hg
      (repeat' first | exact trivial | refine And.intro trivial ?_ | refine And.intro rfl ?_ | refine And.intro (one_flat (fun _ => rfl) _) ?_ | refine Fit.yes (by omega) ?_ | refine Fit.no ?_ | (refine And.intro (fun hc => ?_) (fun hc => ?_) <;> ((try simp only [Sy.nf, ne_eq, reduceCtorEq, eq_self] at hc); first | (exfalso; first | omega | exact absurd hc (by assumption) | exact absurd (by assumption) hc) | (with_reducible change True at hc; clear hc) | skip)) | refine And.intro (by first | omega | (simp only [Sy.lc, Sy.ll]; omega) | (simp only [Sy.lc] at *; omega)) ?_ | refine And.intro ?_ ?_ | exact rfl | (refine congrArg SV.bool (decide_eq_true ?_); first | rfl | omega | assumption) | refine Pick.mk _ rfl ?_ | refine fun (bN : Nat) => ?_ | refine fun (zA : Bool) (bA : Bs) (cA : Nat) hA => ?_); all_goals (try (conv => whnf)); (repeat' first | exact trivial | refine And.intro trivial ?_ | refine And.intro rfl ?_ | refine And.intro (one_flat (fun _ => rfl) _) ?_ | refine Fit.yes (by omega) ?_ | refine Fit.no ?_ | (refine And.intro (fun hc => ?_) (fun hc => ?_) <;> ((try simp only [Sy.nf, ne_eq, reduceCtorEq, eq_self] at hc); first | (exfalso; first | omega | exact absurd hc (by assumption) | exact absurd (by assumption) hc) | (with_reducible change True at hc; clear hc) | skip)) | refine And.intro (by first | omega | (simp only [Sy.lc, Sy.ll]; omega) | (simp only [Sy.lc] at *; omega)) ?_ | refine And.intro ?_ ?_ | exact rfl | (refine congrArg SV.bool (decide_eq_true ?_); first | rfl | omega | assumption) | refine Pick.mk _ rfl ?_ | refine fun (bN : Nat) => ?_ | refine fun (zA : Bool) (bA : Bs) (cA : Nat) hA => ?_)
      generalize bN = kb at *
      refine lookup_obA (k := (s, p, -1)) rfl Try.underlying82 zr3 keyK rfl rfl rfl (fun v hv => by rw [hg] at hv; cases hv) (fun hv => ?_)
      (repeat' first | exact trivial | refine And.intro trivial ?_ | refine And.intro rfl ?_ | refine And.intro (one_flat (fun _ => rfl) _) ?_ | refine Fit.yes (by omega) ?_ | refine Fit.no ?_ | (refine And.intro (fun hc => ?_) (fun hc => ?_) <;> ((try simp only [Sy.nf, ne_eq, reduceCtorEq, eq_self] at hc); first | (exfalso; first | omega | exact absurd hc (by assumption) | exact absurd (by assumption) hc) | (with_reducible change True at hc; clear hc) | skip)) | refine And.intro (by first | omega | (simp only [Sy.lc, Sy.ll]; omega) | (simp only [Sy.lc] at *; omega)) ?_ | refine And.intro ?_ ?_ | exact rfl | (refine congrArg SV.bool (decide_eq_true ?_); first | rfl | omega | assumption) | refine Pick.mk _ rfl ?_ | refine fun (bN : Nat) => ?_ | refine fun (zA : Bool) (bA : Bs) (cA : Nat) hA => ?_); all_goals (try (conv => whnf)); (repeat' first | exact trivial | refine And.intro trivial ?_ | refine And.intro rfl ?_ | refine And.intro (one_flat (fun _ => rfl) _) ?_ | refine Fit.yes (by omega) ?_ | refine Fit.no ?_ | (refine And.intro (fun hc => ?_) (fun hc => ?_) <;> ((try simp only [Sy.nf, ne_eq, reduceCtorEq, eq_self] at hc); first | (exfalso; first | omega | exact absurd hc (by assumption) | exact absurd (by assumption) hc) | (with_reducible change True at hc; clear hc) | skip)) | refine And.intro (by first | omega | (simp only [Sy.lc, Sy.ll]; omega) | (simp only [Sy.lc] at *; omega)) ?_ | refine And.intro ?_ ?_ | exact rfl | (refine congrArg SV.bool (decide_eq_true ?_); first | rfl | omega | assumption) | refine Pick.mk _ rfl ?_ | refine fun (bN : Nat) => ?_ | refine fun (zA : Bool) (bA : Bs) (cA : Nat) hA => ?_)
      refine OpOb.start (bV_of.frame (bV_own bb S (ptrs S.rows) S.rows) [(⟨kb, 0⟩, .lit [.int .i64 s, .int .i64 p, .int .i64 (-1)])]) ?_
      refine mapLen_ob rfl rfl Try.underlying82 rfl rfl ?_
      rw [hS.map.len]
      by_cases h40 : 4096 ≤ lenR L none
      · rw [if_pos h40] at hR
        simp only [Prod.mk.injEq] at hR
        obtain ⟨⟨rfl, rfl⟩, rfl⟩ := hR
        have := h S hsame
        (repeat' first | exact trivial | refine And.intro trivial ?_ | refine And.intro rfl ?_ | refine And.intro (one_flat (fun _ => rfl) _) ?_ | refine Fit.yes (by omega) ?_ | refine Fit.no ?_ | (refine And.intro (fun hc => ?_) (fun hc => ?_) <;> ((try simp only [Sy.nf, ne_eq, reduceCtorEq, eq_self] at hc); first | (exfalso; first | omega | exact absurd hc (by assumption) | exact absurd (by assumption) hc) | (with_reducible change True at hc; clear hc) | skip)) | refine And.intro (by first | omega | (simp only [Sy.lc, Sy.ll]; omega) | (simp only [Sy.lc] at *; omega)) ?_ | refine And.intro ?_ ?_ | exact rfl | (refine congrArg SV.bool (decide_eq_true ?_); first | rfl | omega | assumption) | refine Pick.mk _ rfl ?_ | refine fun (bN : Nat) => ?_ | refine fun (zA : Bool) (bA : Bs) (cA : Nat) hA => ?_); all_goals (try (conv => whnf)); (repeat' first | exact trivial | refine And.intro trivial ?_ | refine And.intro rfl ?_ | refine And.intro (one_flat (fun _ => rfl) _) ?_ | refine Fit.yes (by omega) ?_ | refine Fit.no ?_ | (refine And.intro (fun hc => ?_) (fun hc => ?_) <;> ((try simp only [Sy.nf, ne_eq, reduceCtorEq, eq_self] at hc); first | (exfalso; first | omega | exact absurd hc (by assumption) | exact absurd (by assumption) hc) | (with_reducible change True at hc; clear hc) | skip)) | refine And.intro (by first | omega | (simp only [Sy.lc, Sy.ll]; omega) | (simp only [Sy.lc] at *; omega)) ?_ | refine And.intro ?_ ?_ | exact rfl | (refine congrArg SV.bool (decide_eq_true ?_); first | rfl | omega | assumption) | refine Pick.mk _ rfl ?_ | refine fun (bN : Nat) => ?_ | refine fun (zA : Bool) (bA : Bs) (cA : Nat) hA => ?_)
        exact ⟨_, _, rfl, Tells.trans (H1 := bV bb S (ptrs S.rows) S.rows) (by (refine Tells.pick [some 0, some 1, some 2, some 3, some 4] (by decide) ?_; repeat' first | exact rfl | exact Retell.refl _ | exact Retell.lit rfl | exact Retell.rows | exact Ghost.vec | exact Ghost.win | refine And.intro ?_ ?_)) (bH_of rfl), this⟩
      rw [if_neg h40] at hR
      simp only [Prod.mk.injEq] at hR
      obtain ⟨⟨rfl, rfl⟩, rfl⟩ := hR
      obtain ⟨f, hff⟩ : ∃ f, f = freeF L := ⟨_, rfl⟩
      cases hfr : freeR L none with
      | nil =>
        have hfree : S.free = [] := by rw [hS.free, hfr]; rfl
        have hfl : f = S.rows.length := by rw [hff, hll]; unfold freeF; rw [hfr]; rfl
        have hfl0 : S.free.length = 0 := by rw [hfree]; rfl
        (repeat' first | exact trivial | refine And.intro trivial ?_ | refine And.intro rfl ?_ | refine And.intro (one_flat (fun _ => rfl) _) ?_ | refine Fit.yes (by omega) ?_ | refine Fit.no ?_ | (refine And.intro (fun hc => ?_) (fun hc => ?_) <;> ((try simp only [Sy.nf, ne_eq, reduceCtorEq, eq_self] at hc); first | (exfalso; first | omega | exact absurd hc (by assumption) | exact absurd (by assumption) hc) | (with_reducible change True at hc; clear hc) | skip)) | refine And.intro (by first | omega | (simp only [Sy.lc, Sy.ll]; omega) | (simp only [Sy.lc] at *; omega)) ?_ | refine And.intro ?_ ?_ | exact rfl | (refine congrArg SV.bool (decide_eq_true ?_); first | rfl | omega | assumption) | refine Pick.mk _ rfl ?_ | refine fun (bN : Nat) => ?_ | refine fun (zA : Bool) (bA : Bs) (cA : Nat) hA => ?_); all_goals (try (conv => whnf)); (repeat' first | exact trivial | refine And.intro trivial ?_ | refine And.intro rfl ?_ | refine And.intro (one_flat (fun _ => rfl) _) ?_ | refine Fit.yes (by omega) ?_ | refine Fit.no ?_ | (refine And.intro (fun hc => ?_) (fun hc => ?_) <;> ((try simp only [Sy.nf, ne_eq, reduceCtorEq, eq_self] at hc); first | (exfalso; first | omega | exact absurd hc (by assumption) | exact absurd (by assumption) hc) | (with_reducible change True at hc; clear hc) | skip)) | refine And.intro (by first | omega | (simp only [Sy.lc, Sy.ll]; omega) | (simp only [Sy.lc] at *; omega)) ?_ | refine And.intro ?_ ?_ | exact rfl | (refine congrArg SV.bool (decide_eq_true ?_); first | rfl | omega | assumption) | refine Pick.mk _ rfl ?_ | refine fun (bN : Nat) => ?_ | refine fun (zA : Bool) (bA : Bs) (cA : Nat) hA => ?_)
        generalize bN = nb at *
        generalize zA = z8 at *
        generalize bA = b8 at *
        generalize cA = c8 at *
        intro x' hx'
        refine Pick.mk (.ptr 7 ⟨nb, 0⟩ 0 0 0) rfl ?_
        have hpl : 0 + ((ptrs S.rows).length : Int).toNat = S.rows.length := by simp
        rw [hpl]
        have hset : ((ptrs S.rows ++ [SV.nilp]).set S.rows.length (.ptr 7 ⟨nb, 0⟩ 0 0 0))[0 + ((ptrs S.rows).length : Int).toNat]? = some (.ptr 7 ⟨nb, 0⟩ 0 0 0) := by
          rw [hpl, List.getElem?_set_self (by simp)]
        repeat' first | exact trivial | refine And.intro trivial ?_ | refine And.intro rfl ?_ | refine And.intro (one_flat (fun _ => rfl) _) ?_ | refine Fit.yes (by omega) ?_ | refine Fit.no ?_ | (refine And.intro (fun hc => ?_) (fun hc => ?_) <;> ((try simp only [Sy.nf, ne_eq, reduceCtorEq, eq_self] at hc); first | (exfalso; first | omega | exact absurd hc (by assumption) | exact absurd (by assumption) hc) | (with_reducible change True at hc; clear hc) | skip)) | refine And.intro (by first | omega | (simp only [Sy.lc, Sy.ll]; omega) | (simp only [Sy.lc] at *; omega)) ?_ | refine And.intro ?_ ?_ | exact rfl | (refine congrArg SV.bool (decide_eq_true ?_); first | rfl | omega | assumption) | refine Pick.mk _ rfl ?_ | refine fun (bN : Nat) => ?_ | refine fun (zA : Bool) (bA : Bs) (cA : Nat) hA => ?_ | (intro x' hx''; obtain rfl := Option.some.inj (hset.symm.trans hx''))
        conv => whnf
        repeat' first | exact trivial | refine And.intro trivial ?_ | refine And.intro rfl ?_ | refine And.intro (one_flat (fun _ => rfl) _) ?_ | refine Fit.yes (by omega) ?_ | refine Fit.no ?_ | (refine And.intro (fun hc => ?_) (fun hc => ?_) <;> ((try simp only [Sy.nf, ne_eq, reduceCtorEq, eq_self] at hc); first | (exfalso; first | omega | exact absurd hc (by assumption) | exact absurd (by assumption) hc) | (with_reducible change True at hc; clear hc) | skip)) | refine And.intro (by first | omega | (simp only [Sy.lc, Sy.ll]; omega) | (simp only [Sy.lc] at *; omega)) ?_ | refine And.intro ?_ ?_ | exact rfl | (refine congrArg SV.bool (decide_eq_true ?_); first | rfl | omega | assumption) | refine Pick.mk _ rfl ?_ | refine fun (bN : Nat) => ?_ | refine fun (zA : Bool) (bA : Bs) (cA : Nat) hA => ?_ | (intro x' hx''; obtain rfl := Option.some.inj (hset.symm.trans hx''))
        refine mapUpdate_obA (k := (s, p, -1)) ((ptrs S.rows).length : Int) rfl Try.underlying82 keyK rfl rfl rfl rfl ?_
        (repeat' first | exact trivial | refine And.intro trivial ?_ | refine And.intro rfl ?_ | refine And.intro (one_flat (fun _ => rfl) _) ?_ | refine Fit.yes (by omega) ?_ | refine Fit.no ?_ | (refine And.intro (fun hc => ?_) (fun hc => ?_) <;> ((try simp only [Sy.nf, ne_eq, reduceCtorEq, eq_self] at hc); first | (exfalso; first | omega | exact absurd hc (by assumption) | exact absurd (by assumption) hc) | (with_reducible change True at hc; clear hc) | skip)) | refine And.intro (by first | omega | (simp only [Sy.lc, Sy.ll]; omega) | (simp only [Sy.lc] at *; omega)) ?_ | refine And.intro ?_ ?_ | exact rfl | (refine congrArg SV.bool (decide_eq_true ?_); first | rfl | omega | assumption) | refine Pick.mk _ rfl ?_ | refine fun (bN : Nat) => ?_ | refine fun (zA : Bool) (bA : Bs) (cA : Nat) hA => ?_); all_goals (try (conv => whnf)); (repeat' first | exact trivial | refine And.intro trivial ?_ | refine And.intro rfl ?_ | refine And.intro (one_flat (fun _ => rfl) _) ?_ | refine Fit.yes (by omega) ?_ | refine Fit.no ?_ | (refine And.intro (fun hc => ?_) (fun hc => ?_) <;> ((try simp only [Sy.nf, ne_eq, reduceCtorEq, eq_self] at hc); first | (exfalso; first | omega | exact absurd hc (by assumption) | exact absurd (by assumption) hc) | (with_reducible change True at hc; clear hc) | skip)) | refine And.intro (by first | omega | (simp only [Sy.lc, Sy.ll]; omega) | (simp only [Sy.lc] at *; omega)) ?_ | refine And.intro ?_ ?_ | exact rfl | (refine congrArg SV.bool (decide_eq_true ?_); first | rfl | omega | assumption) | refine Pick.mk _ rfl ?_ | refine fun (bN : Nat) => ?_ | refine fun (zA : Bool) (bA : Bs) (cA : Nat) hA => ?_)
        have hlp : (ptrs S.rows).length = f := by rw [hfl]; simp
        have hden := den_put (L := S.rows) (f := f) (h := 7) (b := ⟨nb, 0⟩) (e := ⟨s, p, -1, 1, 0⟩) (by omega)
        rw [if_neg (by omega), hfl] at hden
        have hset2 : setR S.rows f ⟨⟨nb, 0⟩, ⟨s, p, -1, 1, 0⟩⟩ = S.rows ++ [⟨⟨nb, 0⟩, ⟨s, p, -1, 1, 0⟩⟩] := by unfold setR; rw [if_neg (by omega)]
        have := h ⟨z8, b8, c8, setR S.rows f ⟨⟨nb, 0⟩, ⟨s, p, -1, 1, 0⟩⟩, S.mb, putM S.M (s, p, -1) (f : Int), S.fz, S.fb, S.fc, S.free, S.fm⟩ (okS_put hS hs (by omega) (.inl rfl) hf (fun j => by
          rw [← hff]
          show (Option.map Rw.e (setR S.rows f _)[j]?) = _
          rw [hset2, List.getElem?_append]
          by_cases hj : j = f
          · rw [if_pos hj, if_neg (by omega), hj, hfl]; simp
          · rw [if_neg hj]
            have he : (L[j]?).map (fun e : Ent => if (-1 : Int) = (j : Int) then { e with kids := e.kids + 1 } else e) = L[j]? := by
              cases L[j]? with
              | none => rfl
              | some q => simp only [Option.map_some]; rw [if_neg (by omega)]
            rw [he, ← hS.ab]
            unfold BS.ab
            rw [List.getElem?_map]
            split
            · rfl
            · rw [List.getElem?_eq_none (by simp; omega), List.getElem?_eq_none (by omega)]) (by rw [← hff]) (by rw [hfree]; rfl))
        rw [← hff] at this
        refine ⟨.tup [.int .i64 f, .int .i64 0], _, congrArg (fun n : Nat => (SV.tup [SV.int .i64 n, SV.int .i64 0]).den) hlp.symm, ?_, this⟩
        refine Tells.trans (H1 := bV bb ⟨z8, b8, c8, setR S.rows f ⟨⟨nb, 0⟩, ⟨s, p, -1, 1, 0⟩⟩, S.mb, putM S.M (s, p, -1) (f : Int), S.fz, S.fb, S.fc, S.free, S.fm⟩ ((ptrs S.rows ++ [SV.nilp]).set S.rows.length (.ptr 7 ⟨nb, 0⟩ 0 0 0)) S.rows ++ atomsE 5 ⟨⟨nb, 0⟩, ⟨s, p, -1, 1, 0⟩⟩) ?_ (putFin (f := f) rfl (by rw [hfl]; exact hden))
        rw [← hlp]
        exact Tells.pick [some 0, some 1, some 2, some 3, some 4, some 7] (by decide) ⟨Retell.lit (by rw [List.length_set]), Retell.refl _, Retell.refl _, Retell.refl _, Retell.refl _, Retell.refl _, rfl⟩
      | cons f0 fl =>
        have hfree : S.free = (f0 : Int) :: fl.map fun j : Nat => (j : Int) := by rw [hS.free, hfr]; rfl
        have hfl : f = f0 := by rw [hff]; unfold freeF; rw [hfr]; rfl
        subst hfl
        have hfL : f < L.length := (free_mem.1 (show f ∈ freeR L none by rw [hfr]; simp)).1
        have hfl0 : S.free.length = (fl.map fun j : Nat => (j : Int)).length + 1 := by rw [hfree]; rfl
        have hf0 : S.free[0 + Int.toNat 0]? = some (f : Int) := by rw [hfree]; rfl
        have hpl : 0 + (f : Int).toNat = f := by omega
        have hlpt : (ptrs S.rows).length = S.rows.length := by simp
        repeat' first | exact trivial | refine And.intro trivial ?_ | refine And.intro rfl ?_ | refine And.intro (one_flat (fun _ => rfl) _) ?_ | refine Fit.yes (by omega) ?_ | refine Fit.no ?_ | (refine And.intro (fun hc => ?_) (fun hc => ?_) <;> ((try simp only [Sy.nf, ne_eq, reduceCtorEq, eq_self] at hc); first | (exfalso; first | omega | exact absurd hc (by assumption) | exact absurd (by assumption) hc) | (with_reducible change True at hc; clear hc) | skip)) | refine And.intro (by first | omega | (simp only [Sy.lc, Sy.ll]; omega) | (simp only [Sy.lc] at *; omega)) ?_ | refine And.intro ?_ ?_ | exact rfl | (refine congrArg SV.bool (decide_eq_true ?_); first | rfl | omega | assumption) | refine Pick.mk _ rfl ?_ | refine fun (bN : Nat) => ?_ | refine fun (zA : Bool) (bA : Bs) (cA : Nat) hA => ?_ | (intro x' hx''; obtain rfl := Option.some.inj (hf0.symm.trans hx''))
        conv => whnf
        repeat' first | exact trivial | refine And.intro trivial ?_ | refine And.intro rfl ?_ | refine And.intro (one_flat (fun _ => rfl) _) ?_ | refine Fit.yes (by omega) ?_ | refine Fit.no ?_ | (refine And.intro (fun hc => ?_) (fun hc => ?_) <;> ((try simp only [Sy.nf, ne_eq, reduceCtorEq, eq_self] at hc); first | (exfalso; first | omega | exact absurd hc (by assumption) | exact absurd (by assumption) hc) | (with_reducible change True at hc; clear hc) | skip)) | refine And.intro (by first | omega | (simp only [Sy.lc, Sy.ll]; omega) | (simp only [Sy.lc] at *; omega)) ?_ | refine And.intro ?_ ?_ | exact rfl | (refine congrArg SV.bool (decide_eq_true ?_); first | rfl | omega | assumption) | refine Pick.mk _ rfl ?_ | refine fun (bN : Nat) => ?_ | refine fun (zA : Bool) (bA : Bs) (cA : Nat) hA => ?_ | (intro x' hx''; obtain rfl := Option.some.inj (hf0.symm.trans hx''))
        generalize bN = nb at *
        intro x' hx'
        refine Pick.mk (.ptr 6 ⟨nb, 0⟩ 0 0 0) rfl ?_
        rw [hpl]
        have hset : ((ptrs S.rows).set f (.ptr 6 ⟨nb, 0⟩ 0 0 0))[0 + (f : Int).toNat]? = some (.ptr 6 ⟨nb, 0⟩ 0 0 0) := by
          rw [hpl, List.getElem?_set_self (by omega)]
        repeat' first | exact trivial | refine And.intro trivial ?_ | refine And.intro rfl ?_ | refine And.intro (one_flat (fun _ => rfl) _) ?_ | refine Fit.yes (by omega) ?_ | refine Fit.no ?_ | (refine And.intro (fun hc => ?_) (fun hc => ?_) <;> ((try simp only [Sy.nf, ne_eq, reduceCtorEq, eq_self] at hc); first | (exfalso; first | omega | exact absurd hc (by assumption) | exact absurd (by assumption) hc) | (with_reducible change True at hc; clear hc) | skip)) | refine And.intro (by first | omega | (simp only [Sy.lc, Sy.ll]; omega) | (simp only [Sy.lc] at *; omega)) ?_ | refine And.intro ?_ ?_ | exact rfl | (refine congrArg SV.bool (decide_eq_true ?_); first | rfl | omega | assumption) | refine Pick.mk _ rfl ?_ | refine fun (bN : Nat) => ?_ | refine fun (zA : Bool) (bA : Bs) (cA : Nat) hA => ?_ | (intro x' hx''; obtain rfl := Option.some.inj (hset.symm.trans hx''))
        conv => whnf
        repeat' first | exact trivial | refine And.intro trivial ?_ | refine And.intro rfl ?_ | refine And.intro (one_flat (fun _ => rfl) _) ?_ | refine Fit.yes (by omega) ?_ | refine Fit.no ?_ | (refine And.intro (fun hc => ?_) (fun hc => ?_) <;> ((try simp only [Sy.nf, ne_eq, reduceCtorEq, eq_self] at hc); first | (exfalso; first | omega | exact absurd hc (by assumption) | exact absurd (by assumption) hc) | (with_reducible change True at hc; clear hc) | skip)) | refine And.intro (by first | omega | (simp only [Sy.lc, Sy.ll]; omega) | (simp only [Sy.lc] at *; omega)) ?_ | refine And.intro ?_ ?_ | exact rfl | (refine congrArg SV.bool (decide_eq_true ?_); first | rfl | omega | assumption) | refine Pick.mk _ rfl ?_ | refine fun (bN : Nat) => ?_ | refine fun (zA : Bool) (bA : Bs) (cA : Nat) hA => ?_ | (intro x' hx''; obtain rfl := Option.some.inj (hset.symm.trans hx''))
        refine mapUpdate_obA (k := (s, p, -1)) (f : Int) rfl Try.underlying82 keyK rfl rfl rfl rfl ?_
        (repeat' first | exact trivial | refine And.intro trivial ?_ | refine And.intro rfl ?_ | refine And.intro (one_flat (fun _ => rfl) _) ?_ | refine Fit.yes (by omega) ?_ | refine Fit.no ?_ | (refine And.intro (fun hc => ?_) (fun hc => ?_) <;> ((try simp only [Sy.nf, ne_eq, reduceCtorEq, eq_self] at hc); first | (exfalso; first | omega | exact absurd hc (by assumption) | exact absurd (by assumption) hc) | (with_reducible change True at hc; clear hc) | skip)) | refine And.intro (by first | omega | (simp only [Sy.lc, Sy.ll]; omega) | (simp only [Sy.lc] at *; omega)) ?_ | refine And.intro ?_ ?_ | exact rfl | (refine congrArg SV.bool (decide_eq_true ?_); first | rfl | omega | assumption) | refine Pick.mk _ rfl ?_ | refine fun (bN : Nat) => ?_ | refine fun (zA : Bool) (bA : Bs) (cA : Nat) hA => ?_); all_goals (try (conv => whnf)); (repeat' first | exact trivial | refine And.intro trivial ?_ | refine And.intro rfl ?_ | refine And.intro (one_flat (fun _ => rfl) _) ?_ | refine Fit.yes (by omega) ?_ | refine Fit.no ?_ | (refine And.intro (fun hc => ?_) (fun hc => ?_) <;> ((try simp only [Sy.nf, ne_eq, reduceCtorEq, eq_self] at hc); first | (exfalso; first | omega | exact absurd hc (by assumption) | exact absurd (by assumption) hc) | (with_reducible change True at hc; clear hc) | skip)) | refine And.intro (by first | omega | (simp only [Sy.lc, Sy.ll]; omega) | (simp only [Sy.lc] at *; omega)) ?_ | refine And.intro ?_ ?_ | exact rfl | (refine congrArg SV.bool (decide_eq_true ?_); first | rfl | omega | assumption) | refine Pick.mk _ rfl ?_ | refine fun (bN : Nat) => ?_ | refine fun (zA : Bool) (bA : Bs) (cA : Nat) hA => ?_)
        have hden := den_put (L := S.rows) (f := f) (h := 6) (b := ⟨nb, 0⟩) (e := ⟨s, p, -1, 1, 0⟩) (by omega)
        rw [if_pos (by omega)] at hden
        have hset2 : setR S.rows f ⟨⟨nb, 0⟩, ⟨s, p, -1, 1, 0⟩⟩ = S.rows.set f ⟨⟨nb, 0⟩, ⟨s, p, -1, 1, 0⟩⟩ := by unfold setR; rw [if_pos (by omega)]
        have := h ⟨S.ez, S.eb, S.ec, setR S.rows f ⟨⟨nb, 0⟩, ⟨s, p, -1, 1, 0⟩⟩, S.mb, putM S.M (s, p, -1) (f : Int), nilB S.fz S.free.length S.fc, ⟨S.fb.n, S.fb.o + (if S.fc = 1 then 0 else 1) * 1⟩, S.fc - 1, S.free.drop 1, S.fm⟩ (okS_put hS hs (by omega) (.inl rfl) hf (fun j => by
          rw [← hff]
          show (Option.map Rw.e (setR S.rows f _)[j]?) = _
          rw [hset2, List.getElem?_set]
          by_cases hj : j = f
          · rw [if_pos hj, if_pos hj.symm, if_pos (by omega)]; rfl
          · rw [if_neg hj, if_neg (fun e => hj e.symm)]
            have he : (L[j]?).map (fun e : Ent => if (-1 : Int) = (j : Int) then { e with kids := e.kids + 1 } else e) = L[j]? := by
              cases L[j]? with
              | none => rfl
              | some q => simp only [Option.map_some]; rw [if_neg (by omega)]
            rw [he, ← hS.ab]
            unfold BS.ab
            rw [List.getElem?_map]) (by rw [← hff]) (by rw [List.drop_one]))
        rw [← hff] at this
        refine ⟨.tup [.int .i64 f, .int .i64 0], _, rfl, ?_, this⟩
        refine Tells.trans (H1 := bV bb ⟨S.ez, S.eb, S.ec, setR S.rows f ⟨⟨nb, 0⟩, ⟨s, p, -1, 1, 0⟩⟩, S.mb, putM S.M (s, p, -1) (f : Int), nilB S.fz S.free.length S.fc, ⟨S.fb.n, S.fb.o + (if S.fc = 1 then 0 else 1) * 1⟩, S.fc - 1, S.free.drop 1, S.fm⟩ ((ptrs S.rows).set f (.ptr 6 ⟨nb, 0⟩ 0 0 0)) S.rows ++ atomsE 5 ⟨⟨nb, 0⟩, ⟨s, p, -1, 1, 0⟩⟩) ?_ (putFin (f := f) rfl hden)
        exact Tells.pick [some 0, some 1, some 2, some 3, some 4, some 6] (by decide) ⟨Retell.lit (by rw [List.length_set]; exact den_free S _ _ (by omega)), Retell.refl _, Retell.refl _, Retell.drop 1 (by omega), Retell.refl _, Retell.refl _, rfl⟩
  · subst hk
    have he : L[k]? = some x.e := by rw [← hS.ab]; unfold BS.ab; rw [List.getElem?_map, hx]; rfl
    have hbx := hb x (List.mem_of_getElem? hx)
    obtain ⟨w1, w2, w3, w4⟩ := id hbx
    have hk0 : (k : Int) ≠ -1 := by omega
    rw [if_neg (by rw [hasB_of he hxl]; simp), getE_of he] at hR
    by_cases hcnd : s < x.e.stage ∨ p ≤ x.e.place
    · rw [if_pos ⟨hk0, hcnd⟩] at hR
      simp only [Prod.mk.injEq] at hR
      obtain ⟨⟨rfl, rfl⟩, rfl⟩ := hR
      have := h S hsame
      by_cases h1 : s < x.e.stage
      · (repeat' first | exact trivial | refine And.intro trivial ?_ | refine And.intro rfl ?_ | refine And.intro (one_flat (fun _ => rfl) _) ?_ | refine Fit.yes (by omega) ?_ | refine Fit.no ?_ | (refine And.intro (fun hc => ?_) (fun hc => ?_) <;> ((try simp only [Sy.nf, ne_eq, reduceCtorEq, eq_self] at hc); first | (exfalso; first | omega | exact absurd hc (by assumption) | exact absurd (by assumption) hc) | (with_reducible change True at hc; clear hc) | skip)) | refine And.intro (by first | omega | (simp only [Sy.lc, Sy.ll]; omega) | (simp only [Sy.lc] at *; omega)) ?_ | refine And.intro ?_ ?_ | exact rfl | (refine congrArg SV.bool (decide_eq_true ?_); first | rfl | omega | assumption) | refine Pick.mk _ rfl ?_ | refine fun (bN : Nat) => ?_ | refine fun (zA : Bool) (bA : Bs) (cA : Nat) hA => ?_); all_goals (try (conv => whnf)); (repeat' first | exact trivial | refine And.intro trivial ?_ | refine And.intro rfl ?_ | refine And.intro (one_flat (fun _ => rfl) _) ?_ | refine Fit.yes (by omega) ?_ | refine Fit.no ?_ | (refine And.intro (fun hc => ?_) (fun hc => ?_) <;> ((try simp only [Sy.nf, ne_eq, reduceCtorEq, eq_self] at hc); first | (exfalso; first | omega | exact absurd hc (by assumption) | exact absurd (by assumption) hc) | (with_reducible change True at hc; clear hc) | skip)) | refine And.intro (by first | omega | (simp only [Sy.lc, Sy.ll]; omega) | (simp only [Sy.lc] at *; omega)) ?_ | refine And.intro ?_ ?_ | exact rfl | (refine congrArg SV.bool (decide_eq_true ?_); first | rfl | omega | assumption) | refine Pick.mk _ rfl ?_ | refine fun (bN : Nat) => ?_ | refine fun (zA : Bool) (bA : Bs) (cA : Nat) hA => ?_)
        exact ⟨_, _, rfl, bsame hx, this⟩
      · have h2 : p ≤ x.e.place := by omega
        (repeat' first | exact trivial | refine And.intro trivial ?_ | refine And.intro rfl ?_ | refine And.intro (one_flat (fun _ => rfl) _) ?_ | refine Fit.yes (by omega) ?_ | refine Fit.no ?_ | (refine And.intro (fun hc => ?_) (fun hc => ?_) <;> ((try simp only [Sy.nf, ne_eq, reduceCtorEq, eq_self] at hc); first | (exfalso; first | omega | exact absurd hc (by assumption) | exact absurd (by assumption) hc) | (with_reducible change True at hc; clear hc) | skip)) | refine And.intro (by first | omega | (simp only [Sy.lc, Sy.ll]; omega) | (simp only [Sy.lc] at *; omega)) ?_ | refine And.intro ?_ ?_ | exact rfl | (refine congrArg SV.bool (decide_eq_true ?_); first | rfl | omega | assumption) | refine Pick.mk _ rfl ?_ | refine fun (bN : Nat) => ?_ | refine fun (zA : Bool) (bA : Bs) (cA : Nat) hA => ?_); all_goals (try (conv => whnf)); (repeat' first | exact trivial | refine And.intro trivial ?_ | refine And.intro rfl ?_ | refine And.intro (one_flat (fun _ => rfl) _) ?_ | refine Fit.yes (by omega) ?_ | refine Fit.no ?_ | (refine And.intro (fun hc => ?_) (fun hc => ?_) <;> ((try simp only [Sy.nf, ne_eq, reduceCtorEq, eq_self] at hc); first | (exfalso; first | omega | exact absurd hc (by assumption) | exact absurd (by assumption) hc) | (with_reducible change True at hc; clear hc) | skip)) | refine And.intro (by first | omega | (simp only [Sy.lc, Sy.ll]; omega) | (simp only [Sy.lc] at *; omega)) ?_ | refine And.intro ?_ ?_ | exact rfl | (refine congrArg SV.bool (decide_eq_true ?_); first | rfl | omega | assumption) | refine Pick.mk _ rfl ?_ | refine fun (bN : Nat) => ?_ | refine fun (zA : Bool) (bA : Bs) (cA : Nat) hA => ?_)
        exact ⟨_, _, rfl, bsame hx, this⟩
    rw [if_neg (fun h => hcnd h.2)] at hR
    have hcs : ¬ s < x.e.stage := fun h => hcnd (.inl h)
    have hcp : ¬ p ≤ x.e.place := fun h => hcnd (.inr h)
    cases hf : findB L (s, p, (k : Int)) with
    | some i =>
      rw [hf] at hR
      simp only [Prod.mk.injEq] at hR
      obtain ⟨⟨rfl, rfl⟩, rfl⟩ := hR
      have hg := find_eq hS.wf hS.map (s, p, (k : Int))
      rw [hf] at hg
      have hg : getM S.M (s, p, (k : Int)) = some (i : Int) := hg
      obtain ⟨ei, hi1, hi2, hi3⟩ := findB_some hf
      obtain ⟨y, hy⟩ : ∃ y, S.rows[i]? = some y := ⟨_, List.getElem?_eq_getElem (by rw [hll]; exact (List.getElem?_eq_some_iff.1 hi1).1)⟩
      have hye : y.e = ei := by
        rw [← hS.ab] at hi1
        unfold BS.ab at hi1
        rw [List.getElem?_map, hy] at hi1
        exact Option.some.inj hi1
      subst hye
      have hy' : S.rows[0 + (i : Int).toNat]? = some y := by rw [show 0 + (i : Int).toNat = i by omega]; exact hy
      have hil : i < S.rows.length := (List.getElem?_eq_some_iff.1 hy).1
      have hby := hb y (List.mem_of_getElem? hy)
      have hhy := hS.wf.held i y.e hi1
      obtain ⟨q1, q2, q3, q4⟩ := id hby
      have hlv : 0 < y.e.held + y.e.kids := by simpa [Ent.live] using hi2
      have := h _ (okS_bump (d := 1) (N' := N + 1) hS hy ⟨by omega, by omega⟩ (by omega) (by simp) (by simp) (live_reg hi1 hi2) (.inl (by omega)))
      (repeat' first | exact trivial | refine And.intro trivial ?_ | refine And.intro rfl ?_ | refine And.intro (one_flat (fun _ => rfl) _) ?_ | refine Fit.yes (by omega) ?_ | refine Fit.no ?_ | (refine And.intro (fun hc => ?_) (fun hc => ?_) <;> ((try simp only [Sy.nf, ne_eq, reduceCtorEq, eq_self] at hc); first | (exfalso; first | omega | exact absurd hc (by assumption) | exact absurd (by assumption) hc) | (with_reducible change True at hc; clear hc) | skip)) | refine And.intro (by first | omega | (simp only [Sy.lc, Sy.ll]; omega) | (simp only [Sy.lc] at *; omega)) ?_ | refine And.intro ?_ ?_ | exact rfl | (refine congrArg SV.bool (decide_eq_true ?_); first | rfl | omega | assumption) | refine Pick.mk _ rfl ?_ | refine fun (bN : Nat) => ?_ | refine fun (zA : Bool) (bA : Bs) (cA : Nat) hA => ?_); all_goals (try (conv => whnf)); (repeat' first | exact trivial | refine And.intro trivial ?_ | refine And.intro rfl ?_ | refine And.intro (one_flat (fun _ => rfl) _) ?_ | refine Fit.yes (by omega) ?_ | refine Fit.no ?_ | (refine And.intro (fun hc => ?_) (fun hc => ?_) <;> ((try simp only [Sy.nf, ne_eq, reduceCtorEq, eq_self] at hc); first | (exfalso; first | omega | exact absurd hc (by assumption) | exact absurd (by assumption) hc) | (with_reducible change True at hc; clear hc) | skip)) | refine And.intro (by first | omega | (simp only [Sy.lc, Sy.ll]; omega) | (simp only [Sy.lc] at *; omega)) ?_ | refine And.intro ?_ ?_ | exact rfl | (refine congrArg SV.bool (decide_eq_true ?_); first | rfl | omega | assumption) | refine Pick.mk _ rfl ?_ | refine fun (bN : Nat) => ?_ | refine fun (zA : Bool) (bA : Bs) (cA : Nat) hA => ?_)
      refine OpOb.start (H' := bO bb S i y) (Tells.trans (H1 := bO bb S k x) (by (refine Tells.pick [some 0, some 1, some 2, some 3, some 4, some 5] (by decide) ?_; repeat' first | exact rfl | exact Retell.refl _ | exact Retell.lit rfl | exact Retell.rows | exact Ghost.vec | exact Ghost.win | refine And.intro ?_ ?_)) ((bsame hx).trans (bopen hy))) ?_
      refine lookup_obA (k := (s, p, (k : Int))) rfl Try.underlying82 zr3 keyK rfl rfl rfl (fun v hv => ?_) (fun hv => ?_)
      · rw [hg] at hv
        obtain rfl := Option.some.inj hv
        repeat' first | exact trivial | refine And.intro trivial ?_ | refine And.intro rfl ?_ | refine And.intro (one_flat (fun _ => rfl) _) ?_ | refine Fit.yes (by omega) ?_ | refine Fit.no ?_ | (refine And.intro (fun hc => ?_) (fun hc => ?_) <;> ((try simp only [Sy.nf, ne_eq, reduceCtorEq, eq_self] at hc); first | (exfalso; first | omega | exact absurd hc (by assumption) | exact absurd (by assumption) hc) | (with_reducible change True at hc; clear hc) | skip)) | refine And.intro (by first | omega | (simp only [Sy.lc, Sy.ll]; omega) | (simp only [Sy.lc] at *; omega)) ?_ | refine And.intro ?_ ?_ | exact rfl | (refine congrArg SV.bool (decide_eq_true ?_); first | rfl | omega | assumption) | refine Pick.mk _ rfl ?_ | refine fun (bN : Nat) => ?_ | refine fun (zA : Bool) (bA : Bs) (cA : Nat) hA => ?_ | (intro x' hx''; obtain rfl := Option.some.inj (hy'.symm.trans hx''))
        conv => whnf
        repeat' first | exact trivial | refine And.intro trivial ?_ | refine And.intro rfl ?_ | refine And.intro (one_flat (fun _ => rfl) _) ?_ | refine Fit.yes (by omega) ?_ | refine Fit.no ?_ | (refine And.intro (fun hc => ?_) (fun hc => ?_) <;> ((try simp only [Sy.nf, ne_eq, reduceCtorEq, eq_self] at hc); first | (exfalso; first | omega | exact absurd hc (by assumption) | exact absurd (by assumption) hc) | (with_reducible change True at hc; clear hc) | skip)) | refine And.intro (by first | omega | (simp only [Sy.lc, Sy.ll]; omega) | (simp only [Sy.lc] at *; omega)) ?_ | refine And.intro ?_ ?_ | exact rfl | (refine congrArg SV.bool (decide_eq_true ?_); first | rfl | omega | assumption) | refine Pick.mk _ rfl ?_ | refine fun (bN : Nat) => ?_ | refine fun (zA : Bool) (bA : Bs) (cA : Nat) hA => ?_ | (intro x' hx''; obtain rfl := Option.some.inj (hy'.symm.trans hx''))
        exact ⟨_, _, rfl, bclose (x' := { y with e := { y.e with held := y.e.held + 1 } }) hy rfl, this⟩
      · rw [hg] at hv; cases hv
    | none =>
      rw [hf] at hR
      dsimp only at hR
      have hg := find_eq hS.wf hS.map (s, p, (k : Int))
      rw [hf] at hg
      have hg : getM S.M (s, p, (k : Int)) = none := hg
      have hkl := (List.getElem?_eq_some_iff.1 hx).1
      have hrr : (k : Int) = -1 ∨ ∃ (q : Nat) (e : Ent), (k : Int) = q ∧ L[q]? = some e ∧ e.live = true ∧ e.place < p := .inr ⟨k, x.e, rfl, he, hxl, by omega⟩
      (repeat' first | exact trivial | refine And.intro trivial ?_ | refine And.intro rfl ?_ | refine And.intro (one_flat (fun _ => rfl) _) ?_ | refine Fit.yes (by omega) ?_ | refine Fit.no ?_ | (refine And.intro (fun hc => ?_) (fun hc => ?_) <;> ((try simp only [Sy.nf, ne_eq, reduceCtorEq, eq_self] at hc); first | (exfalso; first | omega | exact absurd hc (by assumption) | exact absurd (by assumption) hc) | (with_reducible change True at hc; clear hc) | skip)) | refine And.intro (by first | omega | (simp only [Sy.lc, Sy.ll]; omega) | (simp only [Sy.lc] at *; omega)) ?_ | refine And.intro ?_ ?_ | exact rfl | (refine congrArg SV.bool (decide_eq_true ?_); first | rfl | omega | assumption) | refine Pick.mk _ rfl ?_ | refine fun (bN : Nat) => ?_ | refine fun (zA : Bool) (bA : Bs) (cA : Nat) hA => ?_); all_goals (try (conv => whnf)); (repeat' first | exact trivial | refine And.intro trivial ?_ | refine And.intro rfl ?_ | refine And.intro (one_flat (fun _ => rfl) _) ?_ | refine Fit.yes (by omega) ?_ | refine Fit.no ?_ | (refine And.intro (fun hc => ?_) (fun hc => ?_) <;> ((try simp only [Sy.nf, ne_eq, reduceCtorEq, eq_self] at hc); first | (exfalso; first | omega | exact absurd hc (by assumption) | exact absurd (by assumption) hc) | (with_reducible change True at hc; clear hc) | skip)) | refine And.intro (by first | omega | (simp only [Sy.lc, Sy.ll]; omega) | (simp only [Sy.lc] at *; omega)) ?_ | refine And.intro ?_ ?_ | exact rfl | (refine congrArg SV.bool (decide_eq_true ?_); first | rfl | omega | assumption) | refine Pick.mk _ rfl ?_ | refine fun (bN : Nat) => ?_ | refine fun (zA : Bool) (bA : Bs) (cA : Nat) hA => ?_)
      generalize bN = kb at *
      refine lookup_obA (k := (s, p, (k : Int))) rfl Try.underlying82 zr3 keyK rfl rfl rfl (fun v hv => by rw [hg] at hv; cases hv) (fun hv => ?_)
      (repeat' first | exact trivial | refine And.intro trivial ?_ | refine And.intro rfl ?_ | refine And.intro (one_flat (fun _ => rfl) _) ?_ | refine Fit.yes (by omega) ?_ | refine Fit.no ?_ | (refine And.intro (fun hc => ?_) (fun hc => ?_) <;> ((try simp only [Sy.nf, ne_eq, reduceCtorEq, eq_self] at hc); first | (exfalso; first | omega | exact absurd hc (by assumption) | exact absurd (by assumption) hc) | (with_reducible change True at hc; clear hc) | skip)) | refine And.intro (by first | omega | (simp only [Sy.lc, Sy.ll]; omega) | (simp only [Sy.lc] at *; omega)) ?_ | refine And.intro ?_ ?_ | exact rfl | (refine congrArg SV.bool (decide_eq_true ?_); first | rfl | omega | assumption) | refine Pick.mk _ rfl ?_ | refine fun (bN : Nat) => ?_ | refine fun (zA : Bool) (bA : Bs) (cA : Nat) hA => ?_); all_goals (try (conv => whnf)); (repeat' first | exact trivial | refine And.intro trivial ?_ | refine And.intro rfl ?_ | refine And.intro (one_flat (fun _ => rfl) _) ?_ | refine Fit.yes (by omega) ?_ | refine Fit.no ?_ | (refine And.intro (fun hc => ?_) (fun hc => ?_) <;> ((try simp only [Sy.nf, ne_eq, reduceCtorEq, eq_self] at hc); first | (exfalso; first | omega | exact absurd hc (by assumption) | exact absurd (by assumption) hc) | (with_reducible change True at hc; clear hc) | skip)) | refine And.intro (by first | omega | (simp only [Sy.lc, Sy.ll]; omega) | (simp only [Sy.lc] at *; omega)) ?_ | refine And.intro ?_ ?_ | exact rfl | (refine congrArg SV.bool (decide_eq_true ?_); first | rfl | omega | assumption) | refine Pick.mk _ rfl ?_ | refine fun (bN : Nat) => ?_ | refine fun (zA : Bool) (bA : Bs) (cA : Nat) hA => ?_)
      refine OpOb.start (bV_of.frame (bV_own bb S (ptrs S.rows) (S.rows.eraseIdx k)) [(x.b, .lit (cellsE x.e)), (⟨kb, 0⟩, .lit [.int .i64 s, .int .i64 p, .int .i64 k])]) ?_
      refine mapLen_ob rfl rfl Try.underlying82 rfl rfl ?_
      rw [hS.map.len]
      by_cases h40 : 4096 ≤ lenR L none
      · rw [if_pos h40] at hR
        simp only [Prod.mk.injEq] at hR
        obtain ⟨⟨rfl, rfl⟩, rfl⟩ := hR
        have := h S hsame
        (repeat' first | exact trivial | refine And.intro trivial ?_ | refine And.intro rfl ?_ | refine And.intro (one_flat (fun _ => rfl) _) ?_ | refine Fit.yes (by omega) ?_ | refine Fit.no ?_ | (refine And.intro (fun hc => ?_) (fun hc => ?_) <;> ((try simp only [Sy.nf, ne_eq, reduceCtorEq, eq_self] at hc); first | (exfalso; first | omega | exact absurd hc (by assumption) | exact absurd (by assumption) hc) | (with_reducible change True at hc; clear hc) | skip)) | refine And.intro (by first | omega | (simp only [Sy.lc, Sy.ll]; omega) | (simp only [Sy.lc] at *; omega)) ?_ | refine And.intro ?_ ?_ | exact rfl | (refine congrArg SV.bool (decide_eq_true ?_); first | rfl | omega | assumption) | refine Pick.mk _ rfl ?_ | refine fun (bN : Nat) => ?_ | refine fun (zA : Bool) (bA : Bs) (cA : Nat) hA => ?_); all_goals (try (conv => whnf)); (repeat' first | exact trivial | refine And.intro trivial ?_ | refine And.intro rfl ?_ | refine And.intro (one_flat (fun _ => rfl) _) ?_ | refine Fit.yes (by omega) ?_ | refine Fit.no ?_ | (refine And.intro (fun hc => ?_) (fun hc => ?_) <;> ((try simp only [Sy.nf, ne_eq, reduceCtorEq, eq_self] at hc); first | (exfalso; first | omega | exact absurd hc (by assumption) | exact absurd (by assumption) hc) | (with_reducible change True at hc; clear hc) | skip)) | refine And.intro (by first | omega | (simp only [Sy.lc, Sy.ll]; omega) | (simp only [Sy.lc] at *; omega)) ?_ | refine And.intro ?_ ?_ | exact rfl | (refine congrArg SV.bool (decide_eq_true ?_); first | rfl | omega | assumption) | refine Pick.mk _ rfl ?_ | refine fun (bN : Nat) => ?_ | refine fun (zA : Bool) (bA : Bs) (cA : Nat) hA => ?_)
        exact ⟨_, _, rfl, Tells.trans (H1 := bV bb S (ptrs S.rows) (S.rows.eraseIdx k) ++ atomsE 5 x) (by (refine Tells.pick [some 0, some 1, some 2, some 3, some 4, some 5] (by decide) ?_; repeat' first | exact rfl | exact Retell.refl _ | exact Retell.lit rfl | exact Retell.rows | exact Ghost.vec | exact Ghost.win | refine And.intro ?_ ?_)) (((bH_of rfl).frame (bH_own _ _ _ _ _) _).trans (bsame hx)), this⟩
      rw [if_neg h40] at hR
      simp only [Prod.mk.injEq] at hR
      obtain ⟨⟨rfl, rfl⟩, rfl⟩ := hR
      obtain ⟨f, hff⟩ : ∃ f, f = freeF L := ⟨_, rfl⟩
      cases hfr : freeR L none with
      | nil =>
        have hfree : S.free = [] := by rw [hS.free, hfr]; rfl
        have hfl : f = S.rows.length := by rw [hff, hll]; unfold freeF; rw [hfr]; rfl
        have hfl0 : S.free.length = 0 := by rw [hfree]; rfl
        (repeat' first | exact trivial | refine And.intro trivial ?_ | refine And.intro rfl ?_ | refine And.intro (one_flat (fun _ => rfl) _) ?_ | refine Fit.yes (by omega) ?_ | refine Fit.no ?_ | (refine And.intro (fun hc => ?_) (fun hc => ?_) <;> ((try simp only [Sy.nf, ne_eq, reduceCtorEq, eq_self] at hc); first | (exfalso; first | omega | exact absurd hc (by assumption) | exact absurd (by assumption) hc) | (with_reducible change True at hc; clear hc) | skip)) | refine And.intro (by first | omega | (simp only [Sy.lc, Sy.ll]; omega) | (simp only [Sy.lc] at *; omega)) ?_ | refine And.intro ?_ ?_ | exact rfl | (refine congrArg SV.bool (decide_eq_true ?_); first | rfl | omega | assumption) | refine Pick.mk _ rfl ?_ | refine fun (bN : Nat) => ?_ | refine fun (zA : Bool) (bA : Bs) (cA : Nat) hA => ?_); all_goals (try (conv => whnf)); (repeat' first | exact trivial | refine And.intro trivial ?_ | refine And.intro rfl ?_ | refine And.intro (one_flat (fun _ => rfl) _) ?_ | refine Fit.yes (by omega) ?_ | refine Fit.no ?_ | (refine And.intro (fun hc => ?_) (fun hc => ?_) <;> ((try simp only [Sy.nf, ne_eq, reduceCtorEq, eq_self] at hc); first | (exfalso; first | omega | exact absurd hc (by assumption) | exact absurd (by assumption) hc) | (with_reducible change True at hc; clear hc) | skip)) | refine And.intro (by first | omega | (simp only [Sy.lc, Sy.ll]; omega) | (simp only [Sy.lc] at *; omega)) ?_ | refine And.intro ?_ ?_ | exact rfl | (refine congrArg SV.bool (decide_eq_true ?_); first | rfl | omega | assumption) | refine Pick.mk _ rfl ?_ | refine fun (bN : Nat) => ?_ | refine fun (zA : Bool) (bA : Bs) (cA : Nat) hA => ?_)
        generalize bN = nb at *
        generalize zA = z8 at *
        generalize bA = b8 at *
        generalize cA = c8 at *
        intro x' hx'
        refine Pick.mk (.ptr 8 ⟨nb, 0⟩ 0 0 0) rfl ?_
        have hpl : 0 + ((ptrs S.rows).length : Int).toNat = S.rows.length := by simp
        rw [hpl]
        have hset : ((ptrs S.rows ++ [SV.nilp]).set S.rows.length (.ptr 8 ⟨nb, 0⟩ 0 0 0))[0 + ((ptrs S.rows).length : Int).toNat]? = some (.ptr 8 ⟨nb, 0⟩ 0 0 0) := by
          rw [hpl, List.getElem?_set_self (by simp)]
        repeat' first | exact trivial | refine And.intro trivial ?_ | refine And.intro rfl ?_ | refine And.intro (one_flat (fun _ => rfl) _) ?_ | refine Fit.yes (by omega) ?_ | refine Fit.no ?_ | (refine And.intro (fun hc => ?_) (fun hc => ?_) <;> ((try simp only [Sy.nf, ne_eq, reduceCtorEq, eq_self] at hc); first | (exfalso; first | omega | exact absurd hc (by assumption) | exact absurd (by assumption) hc) | (with_reducible change True at hc; clear hc) | skip)) | refine And.intro (by first | omega | (simp only [Sy.lc, Sy.ll]; omega) | (simp only [Sy.lc] at *; omega)) ?_ | refine And.intro ?_ ?_ | exact rfl | (refine congrArg SV.bool (decide_eq_true ?_); first | rfl | omega | assumption) | refine Pick.mk _ rfl ?_ | refine fun (bN : Nat) => ?_ | refine fun (zA : Bool) (bA : Bs) (cA : Nat) hA => ?_ | (intro x' hx''; obtain rfl := Option.some.inj (hset.symm.trans hx''))
        conv => whnf
        repeat' first | exact trivial | refine And.intro trivial ?_ | refine And.intro rfl ?_ | refine And.intro (one_flat (fun _ => rfl) _) ?_ | refine Fit.yes (by omega) ?_ | refine Fit.no ?_ | (refine And.intro (fun hc => ?_) (fun hc => ?_) <;> ((try simp only [Sy.nf, ne_eq, reduceCtorEq, eq_self] at hc); first | (exfalso; first | omega | exact absurd hc (by assumption) | exact absurd (by assumption) hc) | (with_reducible change True at hc; clear hc) | skip)) | refine And.intro (by first | omega | (simp only [Sy.lc, Sy.ll]; omega) | (simp only [Sy.lc] at *; omega)) ?_ | refine And.intro ?_ ?_ | exact rfl | (refine congrArg SV.bool (decide_eq_true ?_); first | rfl | omega | assumption) | refine Pick.mk _ rfl ?_ | refine fun (bN : Nat) => ?_ | refine fun (zA : Bool) (bA : Bs) (cA : Nat) hA => ?_ | (intro x' hx''; obtain rfl := Option.some.inj (hset.symm.trans hx''))
        refine mapUpdate_obA (k := (s, p, (k : Int))) ((ptrs S.rows).length : Int) rfl Try.underlying82 keyK rfl rfl rfl rfl ?_
        (repeat' first | exact trivial | refine And.intro trivial ?_ | refine And.intro rfl ?_ | refine And.intro (one_flat (fun _ => rfl) _) ?_ | refine Fit.yes (by omega) ?_ | refine Fit.no ?_ | (refine And.intro (fun hc => ?_) (fun hc => ?_) <;> ((try simp only [Sy.nf, ne_eq, reduceCtorEq, eq_self] at hc); first | (exfalso; first | omega | exact absurd hc (by assumption) | exact absurd (by assumption) hc) | (with_reducible change True at hc; clear hc) | skip)) | refine And.intro (by first | omega | (simp only [Sy.lc, Sy.ll]; omega) | (simp only [Sy.lc] at *; omega)) ?_ | refine And.intro ?_ ?_ | exact rfl | (refine congrArg SV.bool (decide_eq_true ?_); first | rfl | omega | assumption) | refine Pick.mk _ rfl ?_ | refine fun (bN : Nat) => ?_ | refine fun (zA : Bool) (bA : Bs) (cA : Nat) hA => ?_); all_goals (try (conv => whnf)); (repeat' first | exact trivial | refine And.intro trivial ?_ | refine And.intro rfl ?_ | refine And.intro (one_flat (fun _ => rfl) _) ?_ | refine Fit.yes (by omega) ?_ | refine Fit.no ?_ | (refine And.intro (fun hc => ?_) (fun hc => ?_) <;> ((try simp only [Sy.nf, ne_eq, reduceCtorEq, eq_self] at hc); first | (exfalso; first | omega | exact absurd hc (by assumption) | exact absurd (by assumption) hc) | (with_reducible change True at hc; clear hc) | skip)) | refine And.intro (by first | omega | (simp only [Sy.lc, Sy.ll]; omega) | (simp only [Sy.lc] at *; omega)) ?_ | refine And.intro ?_ ?_ | exact rfl | (refine congrArg SV.bool (decide_eq_true ?_); first | rfl | omega | assumption) | refine Pick.mk _ rfl ?_ | refine fun (bN : Nat) => ?_ | refine fun (zA : Bool) (bA : Bs) (cA : Nat) hA => ?_)
        have hlp : (ptrs S.rows).length = f := by rw [hfl]; simp
        have hden := den_put (L := S.rows.set k { x with e := { x.e with kids := x.e.kids + 1 } }) (f := f) (h := 8) (b := ⟨nb, 0⟩) (e := ⟨s, p, k, 1, 0⟩) (by simp; omega)
        rw [if_neg (by simp; omega), ptrs_set (x' := { x with e := { x.e with kids := x.e.kids + 1 } }) hx rfl, hfl] at hden
        have := h ⟨z8, b8, c8, setR (S.rows.set k { x with e := { x.e with kids := x.e.kids + 1 } }) f ⟨⟨nb, 0⟩, ⟨s, p, k, 1, 0⟩⟩, S.mb, putM S.M (s, p, (k : Int)) (f : Int), S.fz, S.fb, S.fc, S.free, S.fm⟩ (okS_put hS hs (by omega) hrr hf (fun j => by
          rw [← hff]
          exact rows_put hS.ab hx (by omega) j) (by rw [← hff]) (by rw [hfree]; rfl))
        rw [← hff] at this
        refine ⟨.tup [.int .i64 f, .int .i64 0], _, congrArg (fun n : Nat => (SV.tup [SV.int .i64 n, SV.int .i64 0]).den) hlp.symm, ?_, this⟩
        refine Tells.trans (H1 := bV bb ⟨z8, b8, c8, setR (S.rows.set k { x with e := { x.e with kids := x.e.kids + 1 } }) f ⟨⟨nb, 0⟩, ⟨s, p, k, 1, 0⟩⟩, S.mb, putM S.M (s, p, (k : Int)) (f : Int), S.fz, S.fb, S.fc, S.free, S.fm⟩ ((ptrs S.rows ++ [SV.nilp]).set S.rows.length (.ptr 8 ⟨nb, 0⟩ 0 0 0)) (S.rows.eraseIdx k) ++ atomsE 5 ⟨⟨nb, 0⟩, ⟨s, p, k, 1, 0⟩⟩ ++ atomsE 6 { x with e := { x.e with kids := x.e.kids + 1 } }) ?_ (Tells.trans (Tells.closeK (f := atomsE) 4 k rfl hkl (atomsE_re _ _ _) (atomsE_ok _)) (putFin (f := f) rfl (by rw [hfl]; exact hden)))
        rw [← hlp]
        exact Tells.pick [some 0, some 1, some 2, some 3, some 4, some 8, some 5] (by decide) ⟨Retell.lit (by rw [List.length_set]), Retell.refl _, Retell.refl _, Retell.refl _, Retell.refl _, Retell.refl _, Retell.refl _, rfl⟩
      | cons f0 fl =>
        have hfree : S.free = (f0 : Int) :: fl.map fun j : Nat => (j : Int) := by rw [hS.free, hfr]; rfl
        have hfl : f = f0 := by rw [hff]; unfold freeF; rw [hfr]; rfl
        subst hfl
        have hfL : f < L.length := (free_mem.1 (show f ∈ freeR L none by rw [hfr]; simp)).1
        have hfl0 : S.free.length = (fl.map fun j : Nat => (j : Int)).length + 1 := by rw [hfree]; rfl
        have hf0 : S.free[0 + Int.toNat 0]? = some (f : Int) := by rw [hfree]; rfl
        have hpl : 0 + (f : Int).toNat = f := by omega
        have hlpt : (ptrs S.rows).length = S.rows.length := by simp
        repeat' first | exact trivial | refine And.intro trivial ?_ | refine And.intro rfl ?_ | refine And.intro (one_flat (fun _ => rfl) _) ?_ | refine Fit.yes (by omega) ?_ | refine Fit.no ?_ | (refine And.intro (fun hc => ?_) (fun hc => ?_) <;> ((try simp only [Sy.nf, ne_eq, reduceCtorEq, eq_self] at hc); first | (exfalso; first | omega | exact absurd hc (by assumption) | exact absurd (by assumption) hc) | (with_reducible change True at hc; clear hc) | skip)) | refine And.intro (by first | omega | (simp only [Sy.lc, Sy.ll]; omega) | (simp only [Sy.lc] at *; omega)) ?_ | refine And.intro ?_ ?_ | exact rfl | (refine congrArg SV.bool (decide_eq_true ?_); first | rfl | omega | assumption) | refine Pick.mk _ rfl ?_ | refine fun (bN : Nat) => ?_ | refine fun (zA : Bool) (bA : Bs) (cA : Nat) hA => ?_ | (intro x' hx''; obtain rfl := Option.some.inj (hf0.symm.trans hx''))
        conv => whnf
        repeat' first | exact trivial | refine And.intro trivial ?_ | refine And.intro rfl ?_ | refine And.intro (one_flat (fun _ => rfl) _) ?_ | refine Fit.yes (by omega) ?_ | refine Fit.no ?_ | (refine And.intro (fun hc => ?_) (fun hc => ?_) <;> ((try simp only [Sy.nf, ne_eq, reduceCtorEq, eq_self] at hc); first | (exfalso; first | omega | exact absurd hc (by assumption) | exact absurd (by assumption) hc) | (with_reducible change True at hc; clear hc) | skip)) | refine And.intro (by first | omega | (simp only [Sy.lc, Sy.ll]; omega) | (simp only [Sy.lc] at *; omega)) ?_ | refine And.intro ?_ ?_ | exact rfl | (refine congrArg SV.bool (decide_eq_true ?_); first | rfl | omega | assumption) | refine Pick.mk _ rfl ?_ | refine fun (bN : Nat) => ?_ | refine fun (zA : Bool) (bA : Bs) (cA : Nat) hA => ?_ | (intro x' hx''; obtain rfl := Option.some.inj (hf0.symm.trans hx''))
        generalize bN = nb at *
        intro x' hx'
        refine Pick.mk (.ptr 7 ⟨nb, 0⟩ 0 0 0) rfl ?_
        rw [hpl]
        have hset : ((ptrs S.rows).set f (.ptr 7 ⟨nb, 0⟩ 0 0 0))[0 + (f : Int).toNat]? = some (.ptr 7 ⟨nb, 0⟩ 0 0 0) := by
          rw [hpl, List.getElem?_set_self (by omega)]
        repeat' first | exact trivial | refine And.intro trivial ?_ | refine And.intro rfl ?_ | refine And.intro (one_flat (fun _ => rfl) _) ?_ | refine Fit.yes (by omega) ?_ | refine Fit.no ?_ | (refine And.intro (fun hc => ?_) (fun hc => ?_) <;> ((try simp only [Sy.nf, ne_eq, reduceCtorEq, eq_self] at hc); first | (exfalso; first | omega | exact absurd hc (by assumption) | exact absurd (by assumption) hc) | (with_reducible change True at hc; clear hc) | skip)) | refine And.intro (by first | omega | (simp only [Sy.lc, Sy.ll]; omega) | (simp only [Sy.lc] at *; omega)) ?_ | refine And.intro ?_ ?_ | exact rfl | (refine congrArg SV.bool (decide_eq_true ?_); first | rfl | omega | assumption) | refine Pick.mk _ rfl ?_ | refine fun (bN : Nat) => ?_ | refine fun (zA : Bool) (bA : Bs) (cA : Nat) hA => ?_ | (intro x' hx''; obtain rfl := Option.some.inj (hset.symm.trans hx''))
        conv => whnf
        repeat' first | exact trivial | refine And.intro trivial ?_ | refine And.intro rfl ?_ | refine And.intro (one_flat (fun _ => rfl) _) ?_ | refine Fit.yes (by omega) ?_ | refine Fit.no ?_ | (refine And.intro (fun hc => ?_) (fun hc => ?_) <;> ((try simp only [Sy.nf, ne_eq, reduceCtorEq, eq_self] at hc); first | (exfalso; first | omega | exact absurd hc (by assumption) | exact absurd (by assumption) hc) | (with_reducible change True at hc; clear hc) | skip)) | refine And.intro (by first | omega | (simp only [Sy.lc, Sy.ll]; omega) | (simp only [Sy.lc] at *; omega)) ?_ | refine And.intro ?_ ?_ | exact rfl | (refine congrArg SV.bool (decide_eq_true ?_); first | rfl | omega | assumption) | refine Pick.mk _ rfl ?_ | refine fun (bN : Nat) => ?_ | refine fun (zA : Bool) (bA : Bs) (cA : Nat) hA => ?_ | (intro x' hx''; obtain rfl := Option.some.inj (hset.symm.trans hx''))
        refine mapUpdate_obA (k := (s, p, (k : Int))) (f : Int) rfl Try.underlying82 keyK rfl rfl rfl rfl ?_
        (repeat' first | exact trivial | refine And.intro trivial ?_ | refine And.intro rfl ?_ | refine And.intro (one_flat (fun _ => rfl) _) ?_ | refine Fit.yes (by omega) ?_ | refine Fit.no ?_ | (refine And.intro (fun hc => ?_) (fun hc => ?_) <;> ((try simp only [Sy.nf, ne_eq, reduceCtorEq, eq_self] at hc); first | (exfalso; first | omega | exact absurd hc (by assumption) | exact absurd (by assumption) hc) | (with_reducible change True at hc; clear hc) | skip)) | refine And.intro (by first | omega | (simp only [Sy.lc, Sy.ll]; omega) | (simp only [Sy.lc] at *; omega)) ?_ | refine And.intro ?_ ?_ | exact rfl | (refine congrArg SV.bool (decide_eq_true ?_); first | rfl | omega | assumption) | refine Pick.mk _ rfl ?_ | refine fun (bN : Nat) => ?_ | refine fun (zA : Bool) (bA : Bs) (cA : Nat) hA => ?_); all_goals (try (conv => whnf)); (repeat' first | exact trivial | refine And.intro trivial ?_ | refine And.intro rfl ?_ | refine And.intro (one_flat (fun _ => rfl) _) ?_ | refine Fit.yes (by omega) ?_ | refine Fit.no ?_ | (refine And.intro (fun hc => ?_) (fun hc => ?_) <;> ((try simp only [Sy.nf, ne_eq, reduceCtorEq, eq_self] at hc); first | (exfalso; first | omega | exact absurd hc (by assumption) | exact absurd (by assumption) hc) | (with_reducible change True at hc; clear hc) | skip)) | refine And.intro (by first | omega | (simp only [Sy.lc, Sy.ll]; omega) | (simp only [Sy.lc] at *; omega)) ?_ | refine And.intro ?_ ?_ | exact rfl | (refine congrArg SV.bool (decide_eq_true ?_); first | rfl | omega | assumption) | refine Pick.mk _ rfl ?_ | refine fun (bN : Nat) => ?_ | refine fun (zA : Bool) (bA : Bs) (cA : Nat) hA => ?_)
        have hden := den_put (L := S.rows.set k { x with e := { x.e with kids := x.e.kids + 1 } }) (f := f) (h := 7) (b := ⟨nb, 0⟩) (e := ⟨s, p, k, 1, 0⟩) (by simp; omega)
        rw [if_pos (by simp; omega), ptrs_set (x' := { x with e := { x.e with kids := x.e.kids + 1 } }) hx rfl] at hden
        have := h ⟨S.ez, S.eb, S.ec, setR (S.rows.set k { x with e := { x.e with kids := x.e.kids + 1 } }) f ⟨⟨nb, 0⟩, ⟨s, p, k, 1, 0⟩⟩, S.mb, putM S.M (s, p, (k : Int)) (f : Int), nilB S.fz S.free.length S.fc, ⟨S.fb.n, S.fb.o + (if S.fc = 1 then 0 else 1) * 1⟩, S.fc - 1, S.free.drop 1, S.fm⟩ (okS_put hS hs (by omega) hrr hf (fun j => by
          rw [← hff]
          exact rows_put hS.ab hx (by omega) j) (by rw [← hff]) (by rw [List.drop_one]))
        rw [← hff] at this
        refine ⟨.tup [.int .i64 f, .int .i64 0], _, rfl, ?_, this⟩
        refine Tells.trans (H1 := bV bb ⟨S.ez, S.eb, S.ec, setR (S.rows.set k { x with e := { x.e with kids := x.e.kids + 1 } }) f ⟨⟨nb, 0⟩, ⟨s, p, k, 1, 0⟩⟩, S.mb, putM S.M (s, p, (k : Int)) (f : Int), nilB S.fz S.free.length S.fc, ⟨S.fb.n, S.fb.o + (if S.fc = 1 then 0 else 1) * 1⟩, S.fc - 1, S.free.drop 1, S.fm⟩ ((ptrs S.rows).set f (.ptr 7 ⟨nb, 0⟩ 0 0 0)) (S.rows.eraseIdx k) ++ atomsE 5 ⟨⟨nb, 0⟩, ⟨s, p, k, 1, 0⟩⟩ ++ atomsE 6 { x with e := { x.e with kids := x.e.kids + 1 } }) ?_ (Tells.trans (Tells.closeK (f := atomsE) 4 k rfl hkl (atomsE_re _ _ _) (atomsE_ok _)) (putFin (f := f) rfl hden))
        exact Tells.pick [some 0, some 1, some 2, some 3, some 4, some 7, some 5] (by decide) ⟨Retell.lit (by rw [List.length_set]; exact den_free S _ _ (by omega)), Retell.refl _, Retell.refl _, Retell.drop 1 (by omega), Retell.refl _, Retell.refl _, Retell.refl _, rfl⟩
end Go.Proofs.Ythimgonpkhoodaa

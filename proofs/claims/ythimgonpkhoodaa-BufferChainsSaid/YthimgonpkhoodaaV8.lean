/- The buffer: an entry is dropped. Own work. -/
import Derived.Test.YthimgonpkhoodaaV4
import Derived.Test.YthimgonpkhoodaaV7
import Derived.Test.YthimgonpkhoodaaBf5
namespace Go.Proofs.Ythimgonpkhoodaa
open Go Go.Sy Go.Bu
set_option maxRecDepth 100000
set_option linter.unusedVariables false
set_option linter.unusedSimpArgs false
set_option maxHeartbeats 4000000
theorem okS_reap {S S' : BS} {L : List Ent} {N c : Nat} {x : Rw} (hS : okS S L (some c) N) (hx : S.rows[c]? = some x) (hd : x.e.live = false) (hab : S'.ab = bumpK L x.e.parent (-1)) (hM : S'.M = delM S.M x.e.key)
    (hf : S'.free = S.free.take ((List.range c).countP fun j => !regAt L (some c) j) ++ (c : Int) :: S.free.drop ((List.range c).countP fun j => !regAt L (some c) j)) : okS S' (bumpK L x.e.parent (-1)) (curOf x.e.parent) N := by
  have he : L[c]? = some x.e := by rw [← hS.ab]; unfold BS.ab; rw [List.getElem?_map, hx]; rfl
  obtain ⟨a, b, d, r, g⟩ := hS.wf.reap he hd
  refine ⟨hab, ?_, ?_, a⟩
  · rw [hf, d, hS.free, List.map_append, List.map_take, List.map_cons, List.map_drop]
  · rw [hM]
    exact hS.map.del hS.wf he b r (fun j => by rw [g]; cases L[j]? with | none => rfl | some q => simp only [Option.map_some]; split <;> rfl)
theorem okS_settle {S : BS} {L : List Ent} {N c : Nat} {e : Ent} (hS : okS S L (some c) N) (he : L[c]? = some e) (hl : e.live = true) : okS S L none N := by
  obtain ⟨a, b, d, r⟩ := hS.wf.settle he hl
  exact ⟨hS.ab, by rw [d]; exact hS.free, hS.map.same r b (fun _ => rfl), a⟩
/-- What is free, and where one more goes. -/
theorem free_spot {S : BS} {L : List Ent} {N c : Nat} (hS : okS S L (some c) N) (hc : c < L.length) : ((List.range c).countP fun j => !regAt L (some c) j) ≤ S.free.length ∧ S.free.length ≤ 4096 ∧
    ∀ (j : Nat) y, S.free[j]? = some y → (j < ((List.range c).countP fun j => !regAt L (some c) j) ↔ y < (c : Int)) := by
  have hrc : (!regAt L (some c) c) = false := by unfold regAt; simp
  rw [hS.free, List.length_map]
  refine ⟨countP_range_le _ hc, ?_, fun j y hy => ?_⟩
  · unfold freeR
    exact Nat.le_trans (List.length_filter_le _ _) (by rw [List.length_range]; exact hS.wf.size)
  · rw [List.getElem?_map] at hy
    cases hq : (freeR L (some c))[j]? with
    | none => rw [hq] at hy; cases hy
    | some q =>
      rw [hq] at hy
      obtain rfl := Option.some.inj hy
      rw [free_below (fun j => !regAt L (some c) j) L.length c hc hrc j q hq]
      show q < c ↔ (q : Int) < c
      omega
theorem ab_kids {S : BS} {L : List Ent} {p : Nat} {q : Rw} {d : Int} (hab : S.ab = L) (hq : S.rows[p]? = some q) : ({ S with rows := S.rows.set p { q with e := { q.e with kids := q.e.kids + d } } } : BS).ab = bumpK L p d := by
  rw [← hab]
  unfold BS.ab bumpK
  rw [if_neg (by omega), Int.toNat_natCast]
  apply List.ext_getElem?
  intro j
  rw [List.map_set, List.getElem?_set, List.getElem?_modify, List.getElem?_map, List.length_map]
  by_cases hj : p = j
  · subst hj
    rw [if_pos rfl, if_pos (List.getElem?_eq_some_iff.1 hq).1, hq]; simp
  · rw [if_neg hj]
    cases S.rows[j]? with
    | none => rfl
    | some y => simp [hj]
def dropOk (S : BS) (L : List Ent) (N : Nat) (fuel : Nat) (gone : Nat) (id : Int) (G : Nat) (Le : List Ent) : Option (Nat × Rw) → Prop
  | none => okS S L none N ∧ gone = G ∧ L = Le
  | some (k, x) => id = k ∧ S.rows[k]? = some x ∧ okS S L (some k) N ∧ gone + (reapF fuel L k).1 = G ∧ (reapF fuel L k).2 = Le ∧ (x.e.place + 2).toNat ≤ fuel
def dropN (fuel : Nat) : Option (Nat × Rw) → Nat
  | none => 0
  | some _ => fuel
theorem drop_ob (bb : Bs) (S : BS) {L : List Ent} {N : Nat} (hS : okS S L none N) (hN : N ≤ 1099511627776) (id : Int) {v e : Int} {L' : List Ent} (hR : dropA L id = ((v, e), L')) (K : SV → SH → Prop)
    (h : ∀ S', okS S' L' none N → K (.tup [.int .i64 v, .int .i64 e]) (bM bb S')) : FnOb Try.prog 32 [.ptr 0 bb 0 0 0, .int .i64 id] (bM bb S) K := by
  obtain ⟨hl, hb⟩ := bounds hS hN
  apply FnOb.tidy
  apply en32
  unfold dropA at hR
  refine FnOb.call [0, 1, 2, 3, 4] (at_ob bb S hl hb id _ (fun hno => ?_) (fun k x hk hx hxl => ?_)) (by decide) rfl rfl
  · rw [hS.ab] at hno
    rw [if_pos hno] at hR
    simp only [Prod.mk.injEq] at hR
    obtain ⟨⟨rfl, rfl⟩, rfl⟩ := hR
    have := h S hS
    (repeat' first | exact trivial | refine And.intro trivial ?_ | refine And.intro rfl ?_ | refine And.intro (one_flat (fun _ => rfl) _) ?_ | refine Fit.yes (by omega) ?_ | refine Fit.no ?_ | (refine And.intro (fun hc => ?_) (fun hc => ?_) <;> ((try simp only [Sy.nf, ne_eq, reduceCtorEq, eq_self] at hc); first | (exfalso; first | omega | exact absurd hc (by assumption) | exact absurd (by assumption) hc) | (with_reducible change True at hc; clear hc) | skip)) | refine And.intro (by first | omega | (simp only [Sy.lc, Sy.ll]; omega) | (simp only [Sy.lc] at *; omega)) ?_ | refine And.intro ?_ ?_ | exact rfl | (refine congrArg SV.bool (decide_eq_true ?_); first | rfl | omega | assumption) | refine Pick.mk _ rfl ?_ | refine fun (bN : Nat) => ?_ | refine fun (zA : Bool) (bA : Bs) (cA : Nat) hA => ?_); all_goals (try (conv => whnf)); (repeat' first | exact trivial | refine And.intro trivial ?_ | refine And.intro rfl ?_ | refine And.intro (one_flat (fun _ => rfl) _) ?_ | refine Fit.yes (by omega) ?_ | refine Fit.no ?_ | (refine And.intro (fun hc => ?_) (fun hc => ?_) <;> ((try simp only [Sy.nf, ne_eq, reduceCtorEq, eq_self] at hc); first | (exfalso; first | omega | exact absurd hc (by assumption) | exact absurd (by assumption) hc) | (with_reducible change True at hc; clear hc) | skip)) | refine And.intro (by first | omega | (simp only [Sy.lc, Sy.ll]; omega) | (simp only [Sy.lc] at *; omega)) ?_ | refine And.intro ?_ ?_ | exact rfl | (refine congrArg SV.bool (decide_eq_true ?_); first | rfl | omega | assumption) | refine Pick.mk _ rfl ?_ | refine fun (bN : Nat) => ?_ | refine fun (zA : Bool) (bA : Bs) (cA : Nat) hA => ?_)
    exact ⟨_, _, rfl, Tells.refl _, this⟩
  subst hk
  have he : L[k]? = some x.e := by rw [← hS.ab]; unfold BS.ab; rw [List.getElem?_map, hx]; rfl
  obtain ⟨w1, w2, w3, w4⟩ := hb x (List.mem_of_getElem? hx)
  rw [if_neg (by rw [hasB_of he hxl]; simp), getE_of he, Int.toNat_natCast] at hR
  by_cases h0 : x.e.held = 0
  · rw [if_pos h0] at hR
    simp only [Prod.mk.injEq] at hR
    obtain ⟨⟨rfl, rfl⟩, rfl⟩ := hR
    have := h S hS
    (repeat' first | exact trivial | refine And.intro trivial ?_ | refine And.intro rfl ?_ | refine And.intro (one_flat (fun _ => rfl) _) ?_ | refine Fit.yes (by omega) ?_ | refine Fit.no ?_ | (refine And.intro (fun hc => ?_) (fun hc => ?_) <;> ((try simp only [Sy.nf, ne_eq, reduceCtorEq, eq_self] at hc); first | (exfalso; first | omega | exact absurd hc (by assumption) | exact absurd (by assumption) hc) | (with_reducible change True at hc; clear hc) | skip)) | refine And.intro (by first | omega | (simp only [Sy.lc, Sy.ll]; omega) | (simp only [Sy.lc] at *; omega)) ?_ | refine And.intro ?_ ?_ | exact rfl | (refine congrArg SV.bool (decide_eq_true ?_); first | rfl | omega | assumption) | refine Pick.mk _ rfl ?_ | refine fun (bN : Nat) => ?_ | refine fun (zA : Bool) (bA : Bs) (cA : Nat) hA => ?_); all_goals (try (conv => whnf)); (repeat' first | exact trivial | refine And.intro trivial ?_ | refine And.intro rfl ?_ | refine And.intro (one_flat (fun _ => rfl) _) ?_ | refine Fit.yes (by omega) ?_ | refine Fit.no ?_ | (refine And.intro (fun hc => ?_) (fun hc => ?_) <;> ((try simp only [Sy.nf, ne_eq, reduceCtorEq, eq_self] at hc); first | (exfalso; first | omega | exact absurd hc (by assumption) | exact absurd (by assumption) hc) | (with_reducible change True at hc; clear hc) | skip)) | refine And.intro (by first | omega | (simp only [Sy.lc, Sy.ll]; omega) | (simp only [Sy.lc] at *; omega)) ?_ | refine And.intro ?_ ?_ | exact rfl | (refine congrArg SV.bool (decide_eq_true ?_); first | rfl | omega | assumption) | refine Pick.mk _ rfl ?_ | refine fun (bN : Nat) => ?_ | refine fun (zA : Bool) (bA : Bs) (cA : Nat) hA => ?_)
    exact ⟨_, _, rfl, bsame hx, this⟩
  rw [if_neg h0] at hR
  simp only [Prod.mk.injEq] at hR
  obtain ⟨⟨rfl, rfl⟩, rfl⟩ := hR
  have hrg := hS.wf.rng k x.e he (live_reg he hxl)
  have hhe := hS.wf.held k x.e he
  have hG := reapF_le (x.e.place + 2).toNat (bumpH L k (-1)) k
  have hS1 := okS_bump (d := -1) (N' := N) (cur' := some k) hS hx ⟨by omega, by omega⟩ (Nat.le_refl _) (fun j hj => (Option.some.inj hj).symm) (by simp) (live_reg he hxl) (.inr rfl)
  have hx1 : ({ S with rows := S.rows.set k { x with e := { x.e with held := x.e.held + -1 } } } : BS).rows[k]? = some { x with e := { x.e with held := x.e.held + -1 } } := by
    show (S.rows.set k _)[k]? = _
    rw [List.getElem?_set_self (List.getElem?_eq_some_iff.1 hx).1]
  (repeat' first | exact trivial | refine And.intro trivial ?_ | refine And.intro rfl ?_ | refine And.intro (one_flat (fun _ => rfl) _) ?_ | refine Fit.yes (by omega) ?_ | refine Fit.no ?_ | (refine And.intro (fun hc => ?_) (fun hc => ?_) <;> ((try simp only [Sy.nf, ne_eq, reduceCtorEq, eq_self] at hc); first | (exfalso; first | omega | exact absurd hc (by assumption) | exact absurd (by assumption) hc) | (with_reducible change True at hc; clear hc) | skip)) | refine And.intro (by first | omega | (simp only [Sy.lc, Sy.ll]; omega) | (simp only [Sy.lc] at *; omega)) ?_ | refine And.intro ?_ ?_ | exact rfl | (refine congrArg SV.bool (decide_eq_true ?_); first | rfl | omega | assumption) | refine Pick.mk _ rfl ?_ | refine fun (bN : Nat) => ?_ | refine fun (zA : Bool) (bA : Bs) (cA : Nat) hA => ?_); all_goals (try (conv => whnf)); (repeat' first | exact trivial | refine And.intro trivial ?_ | refine And.intro rfl ?_ | refine And.intro (one_flat (fun _ => rfl) _) ?_ | refine Fit.yes (by omega) ?_ | refine Fit.no ?_ | (refine And.intro (fun hc => ?_) (fun hc => ?_) <;> ((try simp only [Sy.nf, ne_eq, reduceCtorEq, eq_self] at hc); first | (exfalso; first | omega | exact absurd hc (by assumption) | exact absurd (by assumption) hc) | (with_reducible change True at hc; clear hc) | skip)) | refine And.intro (by first | omega | (simp only [Sy.lc, Sy.ll]; omega) | (simp only [Sy.lc] at *; omega)) ?_ | refine And.intro ?_ ?_ | exact rfl | (refine congrArg SV.bool (decide_eq_true ?_); first | rfl | omega | assumption) | refine Pick.mk _ rfl ?_ | refine fun (bN : Nat) => ?_ | refine fun (zA : Bool) (bA : Bs) (cA : Nat) hA => ?_)
  refine loop_st mixed (S := sch32) (by kernel_rfl) 88 (σ := Nat × Nat × BS × List Ent × Int × Option (Nat × Rw)) (fun (gone, fuel, T, M, id, o) => [(0, .ptr 0 bb 0 0 0), (1, .int .i64 id), (4, .int .i64 gone), (6, xSV o)])
    (fun (gone, fuel, T, M, id, o) => bX bb T o) (fun (gone, fuel, T, M, id, o) => dropOk T M N fuel gone id (reapF (x.e.place + 2).toNat (bumpH L k (-1)) k).1 (reapF (x.e.place + 2).toNat (bumpH L k (-1)) k).2 o) (fun (gone, fuel, T, M, id, o) => dropN fuel o)
    (0, (x.e.place + 2).toNat, { S with rows := S.rows.set k { x with e := { x.e with held := x.e.held + -1 } } }, bumpH L k (-1), (k : Int), some (k, { x with e := { x.e with held := x.e.held + -1 } })) rfl ⟨rfl, hx1, hS1, by omega, rfl, Nat.le_refl _⟩ ⟨rfl, rfl, rfl, rfl, trivial⟩ ?_ ?_
  · exact (bclose (x' := { x with e := { x.e with held := x.e.held + -1 } }) hx rfl).trans (bopen hx1)
  intro ⟨gone, fuel, T, M, id, o⟩ J hok
  cases o with
  | none =>
    obtain ⟨hT, hg, hL⟩ := hok
    subst hg; subst hL
    have := h T hT
    dsimp only [bX, xSV]
    (repeat' first | exact trivial | refine And.intro trivial ?_ | refine And.intro rfl ?_ | refine And.intro (one_flat (fun _ => rfl) _) ?_ | refine Fit.yes (by omega) ?_ | refine Fit.no ?_ | (refine And.intro (fun hc => ?_) (fun hc => ?_) <;> ((try simp only [Sy.nf, ne_eq, reduceCtorEq, eq_self] at hc); first | (exfalso; first | omega | exact absurd hc (by assumption) | exact absurd (by assumption) hc) | (with_reducible change True at hc; clear hc) | skip)) | refine And.intro (by first | omega | (simp only [Sy.lc, Sy.ll]; omega) | (simp only [Sy.lc] at *; omega)) ?_ | refine And.intro ?_ ?_ | exact rfl | (refine congrArg SV.bool (decide_eq_true ?_); first | rfl | omega | assumption) | refine Pick.mk _ rfl ?_ | refine fun (bN : Nat) => ?_ | refine fun (zA : Bool) (bA : Bs) (cA : Nat) hA => ?_); all_goals (try (conv => whnf)); (repeat' first | exact trivial | refine And.intro trivial ?_ | refine And.intro rfl ?_ | refine And.intro (one_flat (fun _ => rfl) _) ?_ | refine Fit.yes (by omega) ?_ | refine Fit.no ?_ | (refine And.intro (fun hc => ?_) (fun hc => ?_) <;> ((try simp only [Sy.nf, ne_eq, reduceCtorEq, eq_self] at hc); first | (exfalso; first | omega | exact absurd hc (by assumption) | exact absurd (by assumption) hc) | (with_reducible change True at hc; clear hc) | skip)) | refine And.intro (by first | omega | (simp only [Sy.lc, Sy.ll]; omega) | (simp only [Sy.lc] at *; omega)) ?_ | refine And.intro ?_ ?_ | exact rfl | (refine congrArg SV.bool (decide_eq_true ?_); first | rfl | omega | assumption) | refine Pick.mk _ rfl ?_ | refine fun (bN : Nat) => ?_ | refine fun (zA : Bool) (bA : Bs) (cA : Nat) hA => ?_)
    exact ⟨_, _, rfl, by (refine Tells.pick [some 0, some 1, some 2, some 3, some 4] (by decide) ?_; repeat' first | exact rfl | exact Retell.refl _ | exact Retell.lit rfl | exact Retell.rows | exact Ghost.vec | exact Ghost.win | refine And.intro ?_ ?_), this⟩
  | some q =>
    obtain ⟨c, y⟩ := q
    obtain ⟨hid, hy, hT, hg, hL, hfu⟩ := hok
    subst hid
    have hye : M[c]? = some y.e := by rw [← hT.ab]; unfold BS.ab; rw [List.getElem?_map, hy]; rfl
    obtain ⟨hTl, hTb⟩ := bounds hT hN
    have hyr := hT.wf.rng c y.e hye (by unfold regAt; simp)
    obtain ⟨n, rfl⟩ : ∃ n, fuel = n + 1 := ⟨fuel - 1, by omega⟩
    dsimp only [bX, xSV]
    (repeat' first | exact trivial | refine And.intro trivial ?_ | refine And.intro rfl ?_ | refine And.intro (one_flat (fun _ => rfl) _) ?_ | refine Fit.yes (by omega) ?_ | refine Fit.no ?_ | (refine And.intro (fun hc => ?_) (fun hc => ?_) <;> ((try simp only [Sy.nf, ne_eq, reduceCtorEq, eq_self] at hc); first | (exfalso; first | omega | exact absurd hc (by assumption) | exact absurd (by assumption) hc) | (with_reducible change True at hc; clear hc) | skip)) | refine And.intro (by first | omega | (simp only [Sy.lc, Sy.ll]; omega) | (simp only [Sy.lc] at *; omega)) ?_ | refine And.intro ?_ ?_ | exact rfl | (refine congrArg SV.bool (decide_eq_true ?_); first | rfl | omega | assumption) | refine Pick.mk _ rfl ?_ | refine fun (bN : Nat) => ?_ | refine fun (zA : Bool) (bA : Bs) (cA : Nat) hA => ?_); all_goals (try (conv => whnf)); (repeat' first | exact trivial | refine And.intro trivial ?_ | refine And.intro rfl ?_ | refine And.intro (one_flat (fun _ => rfl) _) ?_ | refine Fit.yes (by omega) ?_ | refine Fit.no ?_ | (refine And.intro (fun hc => ?_) (fun hc => ?_) <;> ((try simp only [Sy.nf, ne_eq, reduceCtorEq, eq_self] at hc); first | (exfalso; first | omega | exact absurd hc (by assumption) | exact absurd (by assumption) hc) | (with_reducible change True at hc; clear hc) | skip)) | refine And.intro (by first | omega | (simp only [Sy.lc, Sy.ll]; omega) | (simp only [Sy.lc] at *; omega)) ?_ | refine And.intro ?_ ?_ | exact rfl | (refine congrArg SV.bool (decide_eq_true ?_); first | rfl | omega | assumption) | refine Pick.mk _ rfl ?_ | refine fun (bN : Nat) => ?_ | refine fun (zA : Bool) (bA : Bs) (cA : Nat) hA => ?_)
    refine FnOb.call [5] (there_ob y.b y.e (hTb y (List.mem_of_getElem? hy)) _ ?_) (by decide) rfl rfl
    cases hyl : y.e.live with
    | true =>
      rw [reapF_stop hye hyl] at hg hL
      dsimp only at hg hL
      subst hL
      rw [← hg, Nat.add_zero] at h
      have := h T (okS_settle hT hye hyl)
      (repeat' first | exact trivial | refine And.intro trivial ?_ | refine And.intro rfl ?_ | refine And.intro (one_flat (fun _ => rfl) _) ?_ | refine Fit.yes (by omega) ?_ | refine Fit.no ?_ | (refine And.intro (fun hc => ?_) (fun hc => ?_) <;> ((try simp only [Sy.nf, ne_eq, reduceCtorEq, eq_self] at hc); first | (exfalso; first | omega | exact absurd hc (by assumption) | exact absurd (by assumption) hc) | (with_reducible change True at hc; clear hc) | skip)) | refine And.intro (by first | omega | (simp only [Sy.lc, Sy.ll]; omega) | (simp only [Sy.lc] at *; omega)) ?_ | refine And.intro ?_ ?_ | exact rfl | (refine congrArg SV.bool (decide_eq_true ?_); first | rfl | omega | assumption) | refine Pick.mk _ rfl ?_ | refine fun (bN : Nat) => ?_ | refine fun (zA : Bool) (bA : Bs) (cA : Nat) hA => ?_); all_goals (try (conv => whnf)); (repeat' first | exact trivial | refine And.intro trivial ?_ | refine And.intro rfl ?_ | refine And.intro (one_flat (fun _ => rfl) _) ?_ | refine Fit.yes (by omega) ?_ | refine Fit.no ?_ | (refine And.intro (fun hc => ?_) (fun hc => ?_) <;> ((try simp only [Sy.nf, ne_eq, reduceCtorEq, eq_self] at hc); first | (exfalso; first | omega | exact absurd hc (by assumption) | exact absurd (by assumption) hc) | (with_reducible change True at hc; clear hc) | skip)) | refine And.intro (by first | omega | (simp only [Sy.lc, Sy.ll]; omega) | (simp only [Sy.lc] at *; omega)) ?_ | refine And.intro ?_ ?_ | exact rfl | (refine congrArg SV.bool (decide_eq_true ?_); first | rfl | omega | assumption) | refine Pick.mk _ rfl ?_ | refine fun (bN : Nat) => ?_ | refine fun (zA : Bool) (bA : Bs) (cA : Nat) hA => ?_)
      exact ⟨_, _, rfl, bsame hy, this⟩
    | false =>
      rw [reapF_go hye hyl] at hg hL
      dsimp only at hg hL
      have hcl := (List.getElem?_eq_some_iff.1 hye).1
      obtain ⟨hp1, hfl, hsp⟩ := free_spot hT hcl
      obtain ⟨p, hp⟩ : ∃ p, p = (List.range c).countP fun j => !regAt M (some c) j := ⟨_, rfl⟩
      rw [← hp] at hp1 hsp
      (repeat' first | exact trivial | refine And.intro trivial ?_ | refine And.intro rfl ?_ | refine And.intro (one_flat (fun _ => rfl) _) ?_ | refine Fit.yes (by omega) ?_ | refine Fit.no ?_ | (refine And.intro (fun hc => ?_) (fun hc => ?_) <;> ((try simp only [Sy.nf, ne_eq, reduceCtorEq, eq_self] at hc); first | (exfalso; first | omega | exact absurd hc (by assumption) | exact absurd (by assumption) hc) | (with_reducible change True at hc; clear hc) | skip)) | refine And.intro (by first | omega | (simp only [Sy.lc, Sy.ll]; omega) | (simp only [Sy.lc] at *; omega)) ?_ | refine And.intro ?_ ?_ | exact rfl | (refine congrArg SV.bool (decide_eq_true ?_); first | rfl | omega | assumption) | refine Pick.mk _ rfl ?_ | refine fun (bN : Nat) => ?_ | refine fun (zA : Bool) (bA : Bs) (cA : Nat) hA => ?_); all_goals (try (conv => whnf)); (repeat' first | exact trivial | refine And.intro trivial ?_ | refine And.intro rfl ?_ | refine And.intro (one_flat (fun _ => rfl) _) ?_ | refine Fit.yes (by omega) ?_ | refine Fit.no ?_ | (refine And.intro (fun hc => ?_) (fun hc => ?_) <;> ((try simp only [Sy.nf, ne_eq, reduceCtorEq, eq_self] at hc); first | (exfalso; first | omega | exact absurd hc (by assumption) | exact absurd (by assumption) hc) | (with_reducible change True at hc; clear hc) | skip)) | refine And.intro (by first | omega | (simp only [Sy.lc, Sy.ll]; omega) | (simp only [Sy.lc] at *; omega)) ?_ | refine And.intro ?_ ?_ | exact rfl | (refine congrArg SV.bool (decide_eq_true ?_); first | rfl | omega | assumption) | refine Pick.mk _ rfl ?_ | refine fun (bN : Nat) => ?_ | refine fun (zA : Bool) (bA : Bs) (cA : Nat) hA => ?_)
      refine delete_obA (k := y.e.key) rfl rfl Try.underlying82 keyK rfl rfl rfl ?_
      (repeat' first | exact trivial | refine And.intro trivial ?_ | refine And.intro rfl ?_ | refine And.intro (one_flat (fun _ => rfl) _) ?_ | refine Fit.yes (by omega) ?_ | refine Fit.no ?_ | (refine And.intro (fun hc => ?_) (fun hc => ?_) <;> ((try simp only [Sy.nf, ne_eq, reduceCtorEq, eq_self] at hc); first | (exfalso; first | omega | exact absurd hc (by assumption) | exact absurd (by assumption) hc) | (with_reducible change True at hc; clear hc) | skip)) | refine And.intro (by first | omega | (simp only [Sy.lc, Sy.ll]; omega) | (simp only [Sy.lc] at *; omega)) ?_ | refine And.intro ?_ ?_ | exact rfl | (refine congrArg SV.bool (decide_eq_true ?_); first | rfl | omega | assumption) | refine Pick.mk _ rfl ?_ | refine fun (bN : Nat) => ?_ | refine fun (zA : Bool) (bA : Bs) (cA : Nat) hA => ?_); all_goals (try (conv => whnf)); (repeat' first | exact trivial | refine And.intro trivial ?_ | refine And.intro rfl ?_ | refine And.intro (one_flat (fun _ => rfl) _) ?_ | refine Fit.yes (by omega) ?_ | refine Fit.no ?_ | (refine And.intro (fun hc => ?_) (fun hc => ?_) <;> ((try simp only [Sy.nf, ne_eq, reduceCtorEq, eq_self] at hc); first | (exfalso; first | omega | exact absurd hc (by assumption) | exact absurd (by assumption) hc) | (with_reducible change True at hc; clear hc) | skip)) | refine And.intro (by first | omega | (simp only [Sy.lc, Sy.ll]; omega) | (simp only [Sy.lc] at *; omega)) ?_ | refine And.intro ?_ ?_ | exact rfl | (refine congrArg SV.bool (decide_eq_true ?_); first | rfl | omega | assumption) | refine Pick.mk _ rfl ?_ | refine fun (bN : Nat) => ?_ | refine fun (zA : Bool) (bA : Bs) (cA : Nat) hA => ?_)
      refine FnOb.start (H' := bH 5 bb { T with M := delM T.M y.e.key } T.rows (T.rows.eraseIdx c) ++ atomsE 5 y) (Tells.refl _) ?_
      refine FnOb.callL [3] (search_ob T.fz T.fb T.fc T.free (by omega) c p hp1 hsp _ fun fnd => ?_) (by decide) ⟨.inr (Lends.vec T.free [] (by simp)), rfl⟩ rfl
      (repeat' first | exact trivial | refine And.intro trivial ?_ | refine And.intro rfl ?_ | refine And.intro (one_flat (fun _ => rfl) _) ?_ | refine Fit.yes (by omega) ?_ | refine Fit.no ?_ | (refine And.intro (fun hc => ?_) (fun hc => ?_) <;> ((try simp only [Sy.nf, ne_eq, reduceCtorEq, eq_self] at hc); first | (exfalso; first | omega | exact absurd hc (by assumption) | exact absurd (by assumption) hc) | (with_reducible change True at hc; clear hc) | skip)) | refine And.intro (by first | omega | (simp only [Sy.lc, Sy.ll]; omega) | (simp only [Sy.lc] at *; omega)) ?_ | refine And.intro ?_ ?_ | exact rfl | (refine congrArg SV.bool (decide_eq_true ?_); first | rfl | omega | assumption) | refine Pick.mk _ rfl ?_ | refine fun (bN : Nat) => ?_ | refine fun (zA : Bool) (bA : Bs) (cA : Nat) hA => ?_); all_goals (try (conv => whnf)); (repeat' first | exact trivial | refine And.intro trivial ?_ | refine And.intro rfl ?_ | refine And.intro (one_flat (fun _ => rfl) _) ?_ | refine Fit.yes (by omega) ?_ | refine Fit.no ?_ | (refine And.intro (fun hc => ?_) (fun hc => ?_) <;> ((try simp only [Sy.nf, ne_eq, reduceCtorEq, eq_self] at hc); first | (exfalso; first | omega | exact absurd hc (by assumption) | exact absurd (by assumption) hc) | (with_reducible change True at hc; clear hc) | skip)) | refine And.intro (by first | omega | (simp only [Sy.lc, Sy.ll]; omega) | (simp only [Sy.lc] at *; omega)) ?_ | refine And.intro ?_ ?_ | exact rfl | (refine congrArg SV.bool (decide_eq_true ?_); first | rfl | omega | assumption) | refine Pick.mk _ rfl ?_ | refine fun (bN : Nat) => ?_ | refine fun (zA : Bool) (bA : Bs) (cA : Nat) hA => ?_)
      generalize bN = ib at *
      refine FnOb.start (H' := bH 5 bb { T with M := delM T.M y.e.key } T.rows (T.rows.eraseIdx c) ++ atomsE 5 y ++ [(⟨ib, 0⟩, .lit [.int .i64 c])]) (Tells.refl _) ?_
      refine FnOb.call [3, 6] (insert_ob T.fz T.fb ⟨ib, 0⟩ T.fc T.free hfl p hp1 c _ fun z' b' c' => ?_) (by decide) rfl rfl
      (repeat' first | exact trivial | refine And.intro trivial ?_ | refine And.intro rfl ?_ | refine And.intro (one_flat (fun _ => rfl) _) ?_ | refine Fit.yes (by omega) ?_ | refine Fit.no ?_ | (refine And.intro (fun hc => ?_) (fun hc => ?_) <;> ((try simp only [Sy.nf, ne_eq, reduceCtorEq, eq_self] at hc); first | (exfalso; first | omega | exact absurd hc (by assumption) | exact absurd (by assumption) hc) | (with_reducible change True at hc; clear hc) | skip)) | refine And.intro (by first | omega | (simp only [Sy.lc, Sy.ll]; omega) | (simp only [Sy.lc] at *; omega)) ?_ | refine And.intro ?_ ?_ | exact rfl | (refine congrArg SV.bool (decide_eq_true ?_); first | rfl | omega | assumption) | refine Pick.mk _ rfl ?_ | refine fun (bN : Nat) => ?_ | refine fun (zA : Bool) (bA : Bs) (cA : Nat) hA => ?_); all_goals (try (conv => whnf)); (repeat' first | exact trivial | refine And.intro trivial ?_ | refine And.intro rfl ?_ | refine And.intro (one_flat (fun _ => rfl) _) ?_ | refine Fit.yes (by omega) ?_ | refine Fit.no ?_ | (refine And.intro (fun hc => ?_) (fun hc => ?_) <;> ((try simp only [Sy.nf, ne_eq, reduceCtorEq, eq_self] at hc); first | (exfalso; first | omega | exact absurd hc (by assumption) | exact absurd (by assumption) hc) | (with_reducible change True at hc; clear hc) | skip)) | refine And.intro (by first | omega | (simp only [Sy.lc, Sy.ll]; omega) | (simp only [Sy.lc] at *; omega)) ?_ | refine And.intro ?_ ?_ | exact rfl | (refine congrArg SV.bool (decide_eq_true ?_); first | rfl | omega | assumption) | refine Pick.mk _ rfl ?_ | refine fun (bN : Nat) => ?_ | refine fun (zA : Bool) (bA : Bs) (cA : Nat) hA => ?_)
      have hfn : (T.free.take p ++ (c : Int) :: T.free.drop p).length = T.free.length + 1 := by simp only [List.length_append, List.length_cons, List.length_take, List.length_drop]; omega
      refine FnOb.start (H' := bM bb { T with M := delM T.M y.e.key, fz := z', fb := b', fc := c', free := T.free.take p ++ (c : Int) :: T.free.drop p } ++ [(⟨ib, 0⟩, .lit [.int .i64 c])]) (Tells.trans (H1 := bO bb { T with M := delM T.M y.e.key, fz := z', fb := b', fc := c', free := T.free.take p ++ (c : Int) :: T.free.drop p } c y ++ [(⟨ib, 0⟩, .lit [.int .i64 c])])
        ?_ (bsameG (S := { T with M := delM T.M y.e.key, fz := z', fb := b', fc := c', free := T.free.take p ++ (c : Int) :: T.free.drop p }) hy _)) ?_
      · exact Tells.pick [some 0, some 1, some 2, some 3, some 4, some 5, some 6] (by decide) ⟨Retell.lit (by simp only [hfn]; rfl), Retell.refl _, Retell.refl _, Retell.refl _, Retell.refl _, Retell.refl _, Retell.refl _, rfl⟩
      refine FnOb.call [0, 1, 2, 3, 4] (at_ob bb { T with M := delM T.M y.e.key, fz := z', fb := b', fc := c', free := T.free.take p ++ (c : Int) :: T.free.drop p } hTl hTb y.e.parent _ (fun hno => ?_) (fun pp q hpq hq hql => ?_)) (by decide) rfl rfl
      · have hpar : y.e.parent = -1 := by
          rcases hT.wf.par c y.e hye (by unfold regAt; simp) with hq | ⟨a, b, h1, h2, _⟩
          · exact hq
          · have h3 := (hT.wf.parReg hye (by unfold regAt; simp) h1 h2).1
            have h4 : hasB M y.e.parent = false := by rw [← hT.ab]; exact hno
            rw [h1, hasB_of h2 h3] at h4; cases h4
        have hreap := okS_reap (S' := { T with M := delM T.M y.e.key, fz := z', fb := b', fc := c', free := T.free.take p ++ (c : Int) :: T.free.drop p }) hT hy hyl (by show T.ab = _; rw [hT.ab, hpar]; rfl) rfl (by rw [← hp])
        rw [hpar] at hreap hg hL
        rw [reapF_end] at hg hL
        (repeat' first | exact trivial | refine And.intro trivial ?_ | refine And.intro rfl ?_ | refine And.intro (one_flat (fun _ => rfl) _) ?_ | refine Fit.yes (by omega) ?_ | refine Fit.no ?_ | (refine And.intro (fun hc => ?_) (fun hc => ?_) <;> ((try simp only [Sy.nf, ne_eq, reduceCtorEq, eq_self] at hc); first | (exfalso; first | omega | exact absurd hc (by assumption) | exact absurd (by assumption) hc) | (with_reducible change True at hc; clear hc) | skip)) | refine And.intro (by first | omega | (simp only [Sy.lc, Sy.ll]; omega) | (simp only [Sy.lc] at *; omega)) ?_ | refine And.intro ?_ ?_ | exact rfl | (refine congrArg SV.bool (decide_eq_true ?_); first | rfl | omega | assumption) | refine Pick.mk _ rfl ?_ | refine fun (bN : Nat) => ?_ | refine fun (zA : Bool) (bA : Bs) (cA : Nat) hA => ?_); all_goals (try (conv => whnf)); (repeat' first | exact trivial | refine And.intro trivial ?_ | refine And.intro rfl ?_ | refine And.intro (one_flat (fun _ => rfl) _) ?_ | refine Fit.yes (by omega) ?_ | refine Fit.no ?_ | (refine And.intro (fun hc => ?_) (fun hc => ?_) <;> ((try simp only [Sy.nf, ne_eq, reduceCtorEq, eq_self] at hc); first | (exfalso; first | omega | exact absurd hc (by assumption) | exact absurd (by assumption) hc) | (with_reducible change True at hc; clear hc) | skip)) | refine And.intro (by first | omega | (simp only [Sy.lc, Sy.ll]; omega) | (simp only [Sy.lc] at *; omega)) ?_ | refine And.intro ?_ ?_ | exact rfl | (refine congrArg SV.bool (decide_eq_true ?_); first | rfl | omega | assumption) | refine Pick.mk _ rfl ?_ | refine fun (bN : Nat) => ?_ | refine fun (zA : Bool) (bA : Bs) (cA : Nat) hA => ?_)
        exact ⟨(gone + 1, n, _, bumpK M (-1) (-1), -1, none), (by show 0 < n + 1; omega), ⟨hreap, (by omega), hL⟩, rfl, ⟨rfl, den_intE (by rw [hpar]), rfl, rfl, trivial⟩, Tells.pick [some 0, some 1, some 2, some 3, some 4, none] (by decide) ⟨Retell.refl _, Retell.refl _, Retell.refl _, Retell.refl _, Retell.refl _, Ghost.vec, rfl⟩⟩
      · have hqe : M[pp]? = some q.e := by rw [← hT.ab]; unfold BS.ab; rw [List.getElem?_map]; exact congrArg (Option.map Rw.e) hq
        have hplt : q.e.place < y.e.place := by
          rcases hT.wf.par c y.e hye (by unfold regAt; simp) with h1 | ⟨a, b, h1, h2, h3⟩
          · omega
          · have : a = pp := by omega
            subst this
            rw [hqe] at h2
            obtain rfl := Option.some.inj h2
            exact h3
        obtain ⟨v1, v2, v3, v4⟩ := hTb q (List.mem_of_getElem? hq)
        have hk1 : 1 ≤ q.e.kids := (hT.wf.parReg hye (by unfold regAt; simp) hpq hqe).2
        have hreap := okS_reap (S' := { T with rows := T.rows.set pp { q with e := { q.e with kids := q.e.kids + -1 } }, M := delM T.M y.e.key, fz := z', fb := b', fc := c', free := T.free.take p ++ (c : Int) :: T.free.drop p }) hT hy hyl (by rw [hpq]; exact ab_kids (S := T) hT.ab hq) rfl (by rw [← hp])
        rw [hpq] at hreap hg hL
        have hcur : curOf (pp : Int) = some pp := by unfold curOf; rw [if_neg (by omega), Int.toNat_natCast]
        rw [hcur] at hreap
        have hq' : (T.rows.set pp { q with e := { q.e with kids := q.e.kids + -1 } })[pp]? = some { q with e := { q.e with kids := q.e.kids + -1 } } := by rw [List.getElem?_set_self (List.getElem?_eq_some_iff.1 hq).1]
        (repeat' first | exact trivial | refine And.intro trivial ?_ | refine And.intro rfl ?_ | refine And.intro (one_flat (fun _ => rfl) _) ?_ | refine Fit.yes (by omega) ?_ | refine Fit.no ?_ | (refine And.intro (fun hc => ?_) (fun hc => ?_) <;> ((try simp only [Sy.nf, ne_eq, reduceCtorEq, eq_self] at hc); first | (exfalso; first | omega | exact absurd hc (by assumption) | exact absurd (by assumption) hc) | (with_reducible change True at hc; clear hc) | skip)) | refine And.intro (by first | omega | (simp only [Sy.lc, Sy.ll]; omega) | (simp only [Sy.lc] at *; omega)) ?_ | refine And.intro ?_ ?_ | exact rfl | (refine congrArg SV.bool (decide_eq_true ?_); first | rfl | omega | assumption) | refine Pick.mk _ rfl ?_ | refine fun (bN : Nat) => ?_ | refine fun (zA : Bool) (bA : Bs) (cA : Nat) hA => ?_); all_goals (try (conv => whnf)); (repeat' first | exact trivial | refine And.intro trivial ?_ | refine And.intro rfl ?_ | refine And.intro (one_flat (fun _ => rfl) _) ?_ | refine Fit.yes (by omega) ?_ | refine Fit.no ?_ | (refine And.intro (fun hc => ?_) (fun hc => ?_) <;> ((try simp only [Sy.nf, ne_eq, reduceCtorEq, eq_self] at hc); first | (exfalso; first | omega | exact absurd hc (by assumption) | exact absurd (by assumption) hc) | (with_reducible change True at hc; clear hc) | skip)) | refine And.intro (by first | omega | (simp only [Sy.lc, Sy.ll]; omega) | (simp only [Sy.lc] at *; omega)) ?_ | refine And.intro ?_ ?_ | exact rfl | (refine congrArg SV.bool (decide_eq_true ?_); first | rfl | omega | assumption) | refine Pick.mk _ rfl ?_ | refine fun (bN : Nat) => ?_ | refine fun (zA : Bool) (bA : Bs) (cA : Nat) hA => ?_)
        exact ⟨(gone + 1, n, _, bumpK M pp (-1), (pp : Int), some (pp, { q with e := { q.e with kids := q.e.kids + -1 } })), (by show n < n + 1; omega), ⟨rfl, hq', hreap, (by show gone + 1 + (reapF n (bumpK M (pp : Int) (-1)) (pp : Int)).1 = _; omega), hL, (by show (q.e.place + 2).toNat ≤ n; omega)⟩, rfl, ⟨rfl, den_intE hpq, rfl, rfl, trivial⟩, Tells.trans (H1 := bO bb { T with M := delM T.M y.e.key, fz := z', fb := b', fc := c', free := T.free.take p ++ (c : Int) :: T.free.drop p } pp { q with e := { q.e with kids := q.e.kids + -1 } }) (by (refine Tells.pick [some 0, some 1, some 2, some 3, some 4, some 6] (by decide) ?_; repeat' first | exact rfl | exact Retell.refl _ | exact Retell.lit rfl | exact Retell.rows | exact Ghost.vec | exact Ghost.win | refine And.intro ?_ ?_)) ((bclose (S := { T with M := delM T.M y.e.key, fz := z', fb := b', fc := c', free := T.free.take p ++ (c : Int) :: T.free.drop p }) (x' := { q with e := { q.e with kids := q.e.kids + -1 } }) hq rfl).trans (bopen hq'))⟩
end Go.Proofs.Ythimgonpkhoodaa

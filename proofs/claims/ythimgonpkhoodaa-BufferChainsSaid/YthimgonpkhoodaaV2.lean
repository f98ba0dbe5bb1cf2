/- The buffer: new, its length, held, counted; a way, turned about. Own work. -/
import Derived.Test.YthimgonpkhoodaaV1
import Derived.Test.YthimgonpkhoodaaSyZ
namespace Go.Bu
def RevAt {α : Type} (l l' : List α) (i : Nat) : Prop := l'.length = l.length ∧ ∀ t, t < l.length → l'[t]? = if t < i ∨ l.length ≤ t + i then l[l.length - 1 - t]? else l[t]?
theorem RevAt.zero {α : Type} (l : List α) : RevAt l l 0 := ⟨rfl, fun t ht => by rw [if_neg (by omega)]⟩
theorem RevAt.step {α : Type} {l l' : List α} {i : Nat} {a b : α} (h : RevAt l l' i) (hi : i + i + 1 < l.length) (ha : l'[i]? = some a) (hb : l'[l.length - 1 - i]? = some b) : RevAt l ((l'.set i b).set (l.length - 1 - i) a) (i + 1) := by
  refine ⟨by simp [h.1], fun t ht => ?_⟩
  have h1 := h.2 i (by omega)
  have h2 := h.2 (l.length - 1 - i) (by omega)
  rw [if_neg (by omega)] at h1
  rw [if_neg (by omega)] at h2
  rw [List.getElem?_set, List.getElem?_set, List.length_set, h.1]
  have h3 := h.2 t ht
  by_cases e1 : l.length - 1 - i = t
  · rw [if_pos e1, if_pos (by omega), if_pos (by omega), ← ha, h1]
    congr 1; omega
  · rw [if_neg e1]
    by_cases e2 : i = t
    · rw [if_pos e2, if_pos (by omega), if_pos (by omega), ← hb, h2]
      congr 1; omega
    · rw [if_neg e2, h3]
      by_cases e3 : t < i ∨ l.length ≤ t + i
      · rw [if_pos e3, if_pos (by omega)]
      · rw [if_neg e3, if_neg (by omega)]
theorem RevAt.done {α : Type} {l l' : List α} {i : Nat} (h : RevAt l l' i) (hi : l.length ≤ i + i + 1) : l' = l.reverse := by
  apply List.ext_getElem?
  intro t
  by_cases ht : t < l.length
  · rw [h.2 t ht, List.getElem?_reverse ht]
    split
    · rfl
    · congr 1; omega
  · rw [List.getElem?_eq_none (by rw [h.1]; omega), List.getElem?_eq_none (by simp; omega)]
end Go.Bu
namespace Go.Proofs.Ythimgonpkhoodaa
open Go Go.Sy Go.Bu
set_option maxRecDepth 100000
set_option linter.unusedVariables false
set_option linter.unusedSimpArgs false
set_option maxHeartbeats 4000000
abbrev enc2 (p : Int × Int) : List SV := [.int .i64 p.1, .int .i64 p.2]
theorem bH_own (h : Nat) (bb : Bs) (S : BS) (rows rows' : List Rw) : ∀ p ∈ bH h bb S rows rows', ownE p := by
  intro p hp
  simp only [bH, List.mem_cons, List.not_mem_nil, or_false] at hp
  rcases hp with rfl | rfl | rfl | rfl | rfl
  · exact ownE_atom rfl rfl
  · exact ownE_atom rfl rfl
  · exact ownE_atom rfl rfl
  · exact ownE_atom rfl rfl
  · refine ownE_fam fun a ha => ?_
    obtain ⟨x, _, hx⟩ := List.mem_flatMap.1 ha
    exact atomsE_ok x a hx
theorem bO_own (bb : Bs) (S : BS) (k : Nat) (x : Rw) : ∀ p ∈ bO bb S k x, ownE p := by
  intro p hp
  rcases List.mem_append.1 hp with h | h
  · exact bH_own _ _ _ _ _ p h
  · rw [List.mem_singleton.1 h]; exact ownE_atom rfl rfl
theorem bsameG {bb : Bs} {S : BS} {k : Nat} {x : Rw} (hx : S.rows[k]? = some x) (G : SH) : Tells (bO bb S k x ++ G) (bM bb S ++ G) := (bsame hx).frame (bH_own _ _ _ _ _) G
theorem bopenG {bb : Bs} {S : BS} {k : Nat} {x : Rw} (hx : S.rows[k]? = some x) (G : SH) : Tells (bM bb S ++ G) (bO bb S k x ++ G) := (bopen hx).frame (bO_own _ _ _ _) G
theorem bcloseG {bb : Bs} {S : BS} {k : Nat} {x x' : Rw} (hx : S.rows[k]? = some x) (hb : x'.b = x.b) (G : SH) : Tells (bO bb S k x' ++ G) (bM bb { S with rows := S.rows.set k x' } ++ G) := (bclose hx hb).frame (bH_own _ _ _ _ _) G
theorem bounds {S : BS} {L : List Ent} {cur : Option Nat} {N : Nat} (h : okS S L cur N) (hN : N ≤ 1099511627776) : S.rows.length ≤ 4096 ∧ ∀ x ∈ S.rows, boundE x.e := by
  have hl : S.rows.length = L.length := by rw [← h.ab]; simp [BS.ab]
  refine ⟨by rw [hl]; exact h.wf.size, fun x hx => ?_⟩
  obtain ⟨i, hi⟩ := List.mem_iff_getElem?.1 hx
  have he : L[i]? = some x.e := by rw [← h.ab]; unfold BS.ab; rw [List.getElem?_map, hi]; rfl
  have h1 := h.wf.held i x.e he
  have h2 := h.wf.kids i x.e he
  have h3 := kidsR_le L cur i
  have h4 := h.wf.size
  exact ⟨h1.1, by omega, by omega, by omega⟩
theorem rev2_ob (z : Bool) (b : Bs) (c : Nat) (l : List (Int × Int)) (hl : l.length ≤ 4294967296) (K : SV → SH → Prop) (h : K (.tup []) [(b, .vec z c enc2 2 l.reverse)]) :
    FnOb Try.prog 42 [.sl 0 z b 2 0 l.length c] [(b, .vec z c enc2 2 l)] K := by
  apply FnOb.tidy
  apply en42
  (repeat' first | exact trivial | refine And.intro trivial ?_ | refine And.intro rfl ?_ | refine And.intro (one_flat (fun _ => rfl) _) ?_ | refine Fit.yes (by omega) ?_ | refine Fit.no ?_ | (refine And.intro (fun hc => ?_) (fun hc => ?_) <;> ((try simp only [Sy.nf, ne_eq, reduceCtorEq, eq_self] at hc); first | (exfalso; first | omega | exact absurd hc (by assumption) | exact absurd (by assumption) hc) | (with_reducible change True at hc; clear hc) | skip)) | refine And.intro (by first | omega | (simp only [Sy.lc, Sy.ll]; omega) | (simp only [Sy.lc] at *; omega)) ?_ | refine And.intro ?_ ?_ | exact rfl | (refine congrArg SV.bool (decide_eq_true ?_); first | rfl | omega | assumption) | refine Pick.mk _ rfl ?_ | refine fun (bN : Nat) => ?_ | refine fun (zA : Bool) (bA : Bs) (cA : Nat) hA => ?_); all_goals (try (conv => whnf)); (repeat' first | exact trivial | refine And.intro trivial ?_ | refine And.intro rfl ?_ | refine And.intro (one_flat (fun _ => rfl) _) ?_ | refine Fit.yes (by omega) ?_ | refine Fit.no ?_ | (refine And.intro (fun hc => ?_) (fun hc => ?_) <;> ((try simp only [Sy.nf, ne_eq, reduceCtorEq, eq_self] at hc); first | (exfalso; first | omega | exact absurd hc (by assumption) | exact absurd (by assumption) hc) | (with_reducible change True at hc; clear hc) | skip)) | refine And.intro (by first | omega | (simp only [Sy.lc, Sy.ll]; omega) | (simp only [Sy.lc] at *; omega)) ?_ | refine And.intro ?_ ?_ | exact rfl | (refine congrArg SV.bool (decide_eq_true ?_); first | rfl | omega | assumption) | refine Pick.mk _ rfl ?_ | refine fun (bN : Nat) => ?_ | refine fun (zA : Bool) (bA : Bs) (cA : Nat) hA => ?_)
  refine loop_st mixed (S := sch42) (by kernel_rfl) 28 (σ := Nat × List (Int × Int)) (fun (i, l') => [(0, .sl 0 z b 2 0 l.length c), (2, .int .i64 i), (3, .int .i64 ((l.length : Int) - 1 - i))]) (fun (i, l') => [(b, .vec z c enc2 2 l')])
    (fun (i, l') => RevAt l l' i ∧ i ≤ l.length) (fun (i, l') => l.length - i) (0, l) rfl ⟨RevAt.zero l, by omega⟩ ⟨rfl, rfl, den_intE (by simp), trivial⟩ (Tells.refl _) ?_
  intro ⟨i, l'⟩ J ⟨hr, hi⟩
  have hl' := hr.1
  by_cases hd : (i : Int) < (l.length : Int) - 1 - i
  · obtain ⟨a, ha⟩ : ∃ a, l'[i]? = some a := ⟨_, List.getElem?_eq_getElem (by omega)⟩
    obtain ⟨q, hq⟩ : ∃ q, l'[l.length - 1 - i]? = some q := ⟨_, List.getElem?_eq_getElem (by omega)⟩
    have ha' : l'[0 + (i : Int).toNat]? = some a := by rw [show 0 + (i : Int).toNat = i by omega]; exact ha
    have hq' : l'[0 + ((l.length : Int) - 1 - i).toNat]? = some q := by rw [show 0 + ((l.length : Int) - 1 - i).toNat = l.length - 1 - i by omega]; exact hq
    repeat' first | exact trivial | refine And.intro trivial ?_ | refine And.intro rfl ?_ | refine And.intro (one_flat (fun _ => rfl) _) ?_ | refine Fit.yes (by omega) ?_ | refine Fit.no ?_ | (refine And.intro (fun hc => ?_) (fun hc => ?_) <;> ((try simp only [Sy.nf, ne_eq, reduceCtorEq, eq_self] at hc); first | (exfalso; first | omega | exact absurd hc (by assumption) | exact absurd (by assumption) hc) | (with_reducible change True at hc; clear hc) | skip)) | refine And.intro (by first | omega | (simp only [Sy.lc, Sy.ll]; omega) | (simp only [Sy.lc] at *; omega)) ?_ | refine And.intro ?_ ?_ | exact rfl | (refine congrArg SV.bool (decide_eq_true ?_); first | rfl | omega | assumption) | refine Pick.mk _ rfl ?_ | refine fun (bN : Nat) => ?_ | refine fun (zA : Bool) (bA : Bs) (cA : Nat) hA => ?_ | (intro x' hx''; first | obtain rfl := Option.some.inj (ha'.symm.trans hx'') | obtain rfl := Option.some.inj (hq'.symm.trans hx''))
    intro x' hx''
    refine Pick.mk a rfl ?_
    (repeat' first | exact trivial | refine And.intro trivial ?_ | refine And.intro rfl ?_ | refine And.intro (one_flat (fun _ => rfl) _) ?_ | refine Fit.yes (by omega) ?_ | refine Fit.no ?_ | (refine And.intro (fun hc => ?_) (fun hc => ?_) <;> ((try simp only [Sy.nf, ne_eq, reduceCtorEq, eq_self] at hc); first | (exfalso; first | omega | exact absurd hc (by assumption) | exact absurd (by assumption) hc) | (with_reducible change True at hc; clear hc) | skip)) | refine And.intro (by first | omega | (simp only [Sy.lc, Sy.ll]; omega) | (simp only [Sy.lc] at *; omega)) ?_ | refine And.intro ?_ ?_ | exact rfl | (refine congrArg SV.bool (decide_eq_true ?_); first | rfl | omega | assumption) | refine Pick.mk _ rfl ?_ | refine fun (bN : Nat) => ?_ | refine fun (zA : Bool) (bA : Bs) (cA : Nat) hA => ?_); all_goals (try (conv => whnf)); (repeat' first | exact trivial | refine And.intro trivial ?_ | refine And.intro rfl ?_ | refine And.intro (one_flat (fun _ => rfl) _) ?_ | refine Fit.yes (by omega) ?_ | refine Fit.no ?_ | (refine And.intro (fun hc => ?_) (fun hc => ?_) <;> ((try simp only [Sy.nf, ne_eq, reduceCtorEq, eq_self] at hc); first | (exfalso; first | omega | exact absurd hc (by assumption) | exact absurd (by assumption) hc) | (with_reducible change True at hc; clear hc) | skip)) | refine And.intro (by first | omega | (simp only [Sy.lc, Sy.ll]; omega) | (simp only [Sy.lc] at *; omega)) ?_ | refine And.intro ?_ ?_ | exact rfl | (refine congrArg SV.bool (decide_eq_true ?_); first | rfl | omega | assumption) | refine Pick.mk _ rfl ?_ | refine fun (bN : Nat) => ?_ | refine fun (zA : Bool) (bA : Bs) (cA : Nat) hA => ?_)
    have hst := hr.step (by omega) ha hq
    refine ⟨(i + 1, (l'.set i q).set (l.length - 1 - i) a), (by show l.length - (i + 1) < l.length - i; omega), ⟨hst, (show i + 1 ≤ l.length from by omega)⟩, rfl, ⟨rfl, rfl, den_intE (by push_cast; omega), trivial⟩, ?_⟩
    show Tells [(b, .vec z c enc2 2 ((l'.set (0 + (i : Int).toNat) q).set (0 + ((l.length : Int) - 1 - i).toNat) a))] _
    rw [show 0 + (i : Int).toNat = i by omega, show 0 + ((l.length : Int) - 1 - i).toNat = l.length - 1 - i by omega]
    exact Tells.refl _
  · (repeat' first | exact trivial | refine And.intro trivial ?_ | refine And.intro rfl ?_ | refine And.intro (one_flat (fun _ => rfl) _) ?_ | refine Fit.yes (by omega) ?_ | refine Fit.no ?_ | (refine And.intro (fun hc => ?_) (fun hc => ?_) <;> ((try simp only [Sy.nf, ne_eq, reduceCtorEq, eq_self] at hc); first | (exfalso; first | omega | exact absurd hc (by assumption) | exact absurd (by assumption) hc) | (with_reducible change True at hc; clear hc) | skip)) | refine And.intro (by first | omega | (simp only [Sy.lc, Sy.ll]; omega) | (simp only [Sy.lc] at *; omega)) ?_ | refine And.intro ?_ ?_ | exact rfl | (refine congrArg SV.bool (decide_eq_true ?_); first | rfl | omega | assumption) | refine Pick.mk _ rfl ?_ | refine fun (bN : Nat) => ?_ | refine fun (zA : Bool) (bA : Bs) (cA : Nat) hA => ?_); all_goals (try (conv => whnf)); (repeat' first | exact trivial | refine And.intro trivial ?_ | refine And.intro rfl ?_ | refine And.intro (one_flat (fun _ => rfl) _) ?_ | refine Fit.yes (by omega) ?_ | refine Fit.no ?_ | (refine And.intro (fun hc => ?_) (fun hc => ?_) <;> ((try simp only [Sy.nf, ne_eq, reduceCtorEq, eq_self] at hc); first | (exfalso; first | omega | exact absurd hc (by assumption) | exact absurd (by assumption) hc) | (with_reducible change True at hc; clear hc) | skip)) | refine And.intro (by first | omega | (simp only [Sy.lc, Sy.ll]; omega) | (simp only [Sy.lc] at *; omega)) ?_ | refine And.intro ?_ ?_ | exact rfl | (refine congrArg SV.bool (decide_eq_true ?_); first | rfl | omega | assumption) | refine Pick.mk _ rfl ?_ | refine fun (bN : Nat) => ?_ | refine fun (zA : Bool) (bA : Bs) (cA : Nat) hA => ?_)
    rw [← hr.done (by omega)] at h
    exact ⟨_, _, rfl, Tells.refl _, h⟩
theorem blen_ob (bb : Bs) (S : BS) {L : List Ent} {N : Nat} (hS : okS S L none N) (K : SV → SH → Prop) (h : K (.int .i64 (lenR L none)) (bM bb S)) : FnOb Try.prog 18 [.ptr 0 bb 0 0 0] (bM bb S) K := by
  rw [← hS.map.len] at h
  apply FnOb.tidy
  apply en18
  (repeat' first | exact trivial | refine And.intro trivial ?_ | refine And.intro rfl ?_ | refine And.intro (one_flat (fun _ => rfl) _) ?_ | refine Fit.yes (by omega) ?_ | refine Fit.no ?_ | (refine And.intro (fun hc => ?_) (fun hc => ?_) <;> ((try simp only [Sy.nf, ne_eq, reduceCtorEq, eq_self] at hc); first | (exfalso; first | omega | exact absurd hc (by assumption) | exact absurd (by assumption) hc) | (with_reducible change True at hc; clear hc) | skip)) | refine And.intro (by first | omega | (simp only [Sy.lc, Sy.ll]; omega) | (simp only [Sy.lc] at *; omega)) ?_ | refine And.intro ?_ ?_ | exact rfl | (refine congrArg SV.bool (decide_eq_true ?_); first | rfl | omega | assumption) | refine Pick.mk _ rfl ?_ | refine fun (bN : Nat) => ?_ | refine fun (zA : Bool) (bA : Bs) (cA : Nat) hA => ?_); all_goals (try (conv => whnf)); (repeat' first | exact trivial | refine And.intro trivial ?_ | refine And.intro rfl ?_ | refine And.intro (one_flat (fun _ => rfl) _) ?_ | refine Fit.yes (by omega) ?_ | refine Fit.no ?_ | (refine And.intro (fun hc => ?_) (fun hc => ?_) <;> ((try simp only [Sy.nf, ne_eq, reduceCtorEq, eq_self] at hc); first | (exfalso; first | omega | exact absurd hc (by assumption) | exact absurd (by assumption) hc) | (with_reducible change True at hc; clear hc) | skip)) | refine And.intro (by first | omega | (simp only [Sy.lc, Sy.ll]; omega) | (simp only [Sy.lc] at *; omega)) ?_ | refine And.intro ?_ ?_ | exact rfl | (refine congrArg SV.bool (decide_eq_true ?_); first | rfl | omega | assumption) | refine Pick.mk _ rfl ?_ | refine fun (bN : Nat) => ?_ | refine fun (zA : Bool) (bA : Bs) (cA : Nat) hA => ?_)
  refine mapLen_ob rfl rfl Try.underlying82 rfl rfl ?_
  (repeat' first | exact trivial | refine And.intro trivial ?_ | refine And.intro rfl ?_ | refine And.intro (one_flat (fun _ => rfl) _) ?_ | refine Fit.yes (by omega) ?_ | refine Fit.no ?_ | (refine And.intro (fun hc => ?_) (fun hc => ?_) <;> ((try simp only [Sy.nf, ne_eq, reduceCtorEq, eq_self] at hc); first | (exfalso; first | omega | exact absurd hc (by assumption) | exact absurd (by assumption) hc) | (with_reducible change True at hc; clear hc) | skip)) | refine And.intro (by first | omega | (simp only [Sy.lc, Sy.ll]; omega) | (simp only [Sy.lc] at *; omega)) ?_ | refine And.intro ?_ ?_ | exact rfl | (refine congrArg SV.bool (decide_eq_true ?_); first | rfl | omega | assumption) | refine Pick.mk _ rfl ?_ | refine fun (bN : Nat) => ?_ | refine fun (zA : Bool) (bA : Bs) (cA : Nat) hA => ?_); all_goals (try (conv => whnf)); (repeat' first | exact trivial | refine And.intro trivial ?_ | refine And.intro rfl ?_ | refine And.intro (one_flat (fun _ => rfl) _) ?_ | refine Fit.yes (by omega) ?_ | refine Fit.no ?_ | (refine And.intro (fun hc => ?_) (fun hc => ?_) <;> ((try simp only [Sy.nf, ne_eq, reduceCtorEq, eq_self] at hc); first | (exfalso; first | omega | exact absurd hc (by assumption) | exact absurd (by assumption) hc) | (with_reducible change True at hc; clear hc) | skip)) | refine And.intro (by first | omega | (simp only [Sy.lc, Sy.ll]; omega) | (simp only [Sy.lc] at *; omega)) ?_ | refine And.intro ?_ ?_ | exact rfl | (refine congrArg SV.bool (decide_eq_true ?_); first | rfl | omega | assumption) | refine Pick.mk _ rfl ?_ | refine fun (bN : Nat) => ?_ | refine fun (zA : Bool) (bA : Bs) (cA : Nat) hA => ?_)
  exact ⟨_, _, rfl, Tells.refl _, h⟩
theorem okS_bump {S : BS} {L : List Ent} {cur cur' : Option Nat} {N N' k : Nat} {x : Rw} {d : Int} (hS : okS S L cur N) (hx : S.rows[k]? = some x) (hd : 0 ≤ x.e.held + d ∧ x.e.held + d ≤ N') (hN : N ≤ N') (hc : ∀ j, cur' = some j → j = k) (hcc : ∀ j, cur = some j → j = k) (hr : regAt L cur k = true) (hr' : 0 < x.e.held + d + x.e.kids ∨ cur' = some k) :
    okS { S with rows := S.rows.set k { x with e := { x.e with held := x.e.held + d } } } (bumpH L k d) cur' N' := by
  have he : L[k]? = some x.e := by rw [← hS.ab]; unfold BS.ab; rw [List.getElem?_map, hx]; rfl
  obtain ⟨a, b, c, e, f⟩ := hS.wf.bump he hd hN hc hcc hr hr'
  refine ⟨?_, by rw [c]; exact hS.free, hS.map.same e b (fun j => ?_), a⟩
  · unfold BS.ab bumpH
    rw [← hS.ab]
    unfold BS.ab
    rw [List.map_set]
    apply List.ext_getElem?
    intro j
    rw [List.getElem?_set, List.getElem?_modify, List.getElem?_map, List.length_map]
    by_cases hj : k = j
    · subst hj
      rw [if_pos rfl, if_pos (List.getElem?_eq_some_iff.1 hx).1, hx]
      simp
    · rw [if_neg hj]
      cases S.rows[j]? with
      | none => rfl
      | some y => simp [hj]
  · rw [f]
    cases L[j]? with
    | none => rfl
    | some q => simp only [Option.map_some]; split <;> rfl
theorem live_reg {L : List Ent} {k : Nat} {e : Ent} (he : L[k]? = some e) (hl : e.live = true) : regAt L none k = true := by
  rw [regNone]; unfold liveAt; rw [he]; exact hl
theorem hold_ob (bb : Bs) (S : BS) {L : List Ent} {N : Nat} (hS : okS S L none N) (hN : N + 1 ≤ 1099511627776) (id : Int) {e : Int} {L' : List Ent} (hR : holdA L id = (e, L')) (K : SV → SH → Prop)
    (h : ∀ S', okS S' L' none (N + 1) → K (.int .i64 e) (bM bb S')) : FnOb Try.prog 34 [.ptr 0 bb 0 0 0, .int .i64 id] (bM bb S) K := by
  obtain ⟨hl, hb⟩ := bounds hS (by omega)
  apply FnOb.tidy
  apply en34
  unfold holdA at hR
  refine FnOb.call [0, 1, 2, 3, 4] (at_ob bb S hl hb id _ (fun hno => ?_) (fun k x hk hx hxl => ?_)) (by decide) rfl rfl
  · rw [hS.ab] at hno
    rw [if_pos hno] at hR
    obtain ⟨rfl, rfl⟩ := Prod.mk.inj hR
    have := h S ⟨hS.ab, hS.free, hS.map, hS.wf.more (by omega)⟩
    (repeat' first | exact trivial | refine And.intro trivial ?_ | refine And.intro rfl ?_ | refine And.intro (one_flat (fun _ => rfl) _) ?_ | refine Fit.yes (by omega) ?_ | refine Fit.no ?_ | (refine And.intro (fun hc => ?_) (fun hc => ?_) <;> ((try simp only [Sy.nf, ne_eq, reduceCtorEq, eq_self] at hc); first | (exfalso; first | omega | exact absurd hc (by assumption) | exact absurd (by assumption) hc) | (with_reducible change True at hc; clear hc) | skip)) | refine And.intro (by first | omega | (simp only [Sy.lc, Sy.ll]; omega) | (simp only [Sy.lc] at *; omega)) ?_ | refine And.intro ?_ ?_ | exact rfl | (refine congrArg SV.bool (decide_eq_true ?_); first | rfl | omega | assumption) | refine Pick.mk _ rfl ?_ | refine fun (bN : Nat) => ?_ | refine fun (zA : Bool) (bA : Bs) (cA : Nat) hA => ?_); all_goals (try (conv => whnf)); (repeat' first | exact trivial | refine And.intro trivial ?_ | refine And.intro rfl ?_ | refine And.intro (one_flat (fun _ => rfl) _) ?_ | refine Fit.yes (by omega) ?_ | refine Fit.no ?_ | (refine And.intro (fun hc => ?_) (fun hc => ?_) <;> ((try simp only [Sy.nf, ne_eq, reduceCtorEq, eq_self] at hc); first | (exfalso; first | omega | exact absurd hc (by assumption) | exact absurd (by assumption) hc) | (with_reducible change True at hc; clear hc) | skip)) | refine And.intro (by first | omega | (simp only [Sy.lc, Sy.ll]; omega) | (simp only [Sy.lc] at *; omega)) ?_ | refine And.intro ?_ ?_ | exact rfl | (refine congrArg SV.bool (decide_eq_true ?_); first | rfl | omega | assumption) | refine Pick.mk _ rfl ?_ | refine fun (bN : Nat) => ?_ | refine fun (zA : Bool) (bA : Bs) (cA : Nat) hA => ?_)
    exact ⟨_, _, rfl, Tells.refl _, this⟩
  · subst hk
    have he : L[k]? = some x.e := by rw [← hS.ab]; unfold BS.ab; rw [List.getElem?_map, hx]; rfl
    rw [if_neg (by rw [hasB_of he hxl]; simp), Int.toNat_natCast] at hR
    obtain ⟨rfl, rfl⟩ := Prod.mk.inj hR
    have hh := hS.wf.held k x.e he
    have hbx := hb x (List.mem_of_getElem? hx)
    obtain ⟨q1, q2, q3, q4⟩ := hbx
    have hlv : 0 < x.e.held + x.e.kids := by simpa [Ent.live] using hxl
    have := h _ (okS_bump (d := 1) (N' := N + 1) hS hx ⟨by omega, by omega⟩ (by omega) (by simp) (by simp) (live_reg he hxl) (.inl (by omega)))
    (repeat' first | exact trivial | refine And.intro trivial ?_ | refine And.intro rfl ?_ | refine And.intro (one_flat (fun _ => rfl) _) ?_ | refine Fit.yes (by omega) ?_ | refine Fit.no ?_ | (refine And.intro (fun hc => ?_) (fun hc => ?_) <;> ((try simp only [Sy.nf, ne_eq, reduceCtorEq, eq_self] at hc); first | (exfalso; first | omega | exact absurd hc (by assumption) | exact absurd (by assumption) hc) | (with_reducible change True at hc; clear hc) | skip)) | refine And.intro (by first | omega | (simp only [Sy.lc, Sy.ll]; omega) | (simp only [Sy.lc] at *; omega)) ?_ | refine And.intro ?_ ?_ | exact rfl | (refine congrArg SV.bool (decide_eq_true ?_); first | rfl | omega | assumption) | refine Pick.mk _ rfl ?_ | refine fun (bN : Nat) => ?_ | refine fun (zA : Bool) (bA : Bs) (cA : Nat) hA => ?_); all_goals (try (conv => whnf)); (repeat' first | exact trivial | refine And.intro trivial ?_ | refine And.intro rfl ?_ | refine And.intro (one_flat (fun _ => rfl) _) ?_ | refine Fit.yes (by omega) ?_ | refine Fit.no ?_ | (refine And.intro (fun hc => ?_) (fun hc => ?_) <;> ((try simp only [Sy.nf, ne_eq, reduceCtorEq, eq_self] at hc); first | (exfalso; first | omega | exact absurd hc (by assumption) | exact absurd (by assumption) hc) | (with_reducible change True at hc; clear hc) | skip)) | refine And.intro (by first | omega | (simp only [Sy.lc, Sy.ll]; omega) | (simp only [Sy.lc] at *; omega)) ?_ | refine And.intro ?_ ?_ | exact rfl | (refine congrArg SV.bool (decide_eq_true ?_); first | rfl | omega | assumption) | refine Pick.mk _ rfl ?_ | refine fun (bN : Nat) => ?_ | refine fun (zA : Bool) (bA : Bs) (cA : Nat) hA => ?_)
    exact ⟨_, _, rfl, bclose (x' := { x with e := { x.e with held := x.e.held + 1 } }) hx rfl, this⟩
theorem countB_ob (bb : Bs) (S : BS) {L : List Ent} {N : Nat} (hS : okS S L none N) (hN : N ≤ 1099511627776) (id : Int) {n e : Int} (hR : countA L id = (n, e)) (K : SV → SH → Prop)
    (h : K (.tup [.int .i64 n, .int .i64 e]) (bM bb S)) : FnOb Try.prog 38 [.ptr 0 bb 0 0 0, .int .i64 id] (bM bb S) K := by
  obtain ⟨hl, hb⟩ := bounds hS hN
  apply FnOb.tidy
  apply en38
  unfold countA at hR
  refine FnOb.call [0, 1, 2, 3, 4] (at_ob bb S hl hb id _ (fun hno => ?_) (fun k x hk hx hxl => ?_)) (by decide) rfl rfl
  · rw [hS.ab] at hno
    rw [if_pos hno] at hR
    obtain ⟨rfl, rfl⟩ := Prod.mk.inj hR
    (repeat' first | exact trivial | refine And.intro trivial ?_ | refine And.intro rfl ?_ | refine And.intro (one_flat (fun _ => rfl) _) ?_ | refine Fit.yes (by omega) ?_ | refine Fit.no ?_ | (refine And.intro (fun hc => ?_) (fun hc => ?_) <;> ((try simp only [Sy.nf, ne_eq, reduceCtorEq, eq_self] at hc); first | (exfalso; first | omega | exact absurd hc (by assumption) | exact absurd (by assumption) hc) | (with_reducible change True at hc; clear hc) | skip)) | refine And.intro (by first | omega | (simp only [Sy.lc, Sy.ll]; omega) | (simp only [Sy.lc] at *; omega)) ?_ | refine And.intro ?_ ?_ | exact rfl | (refine congrArg SV.bool (decide_eq_true ?_); first | rfl | omega | assumption) | refine Pick.mk _ rfl ?_ | refine fun (bN : Nat) => ?_ | refine fun (zA : Bool) (bA : Bs) (cA : Nat) hA => ?_); all_goals (try (conv => whnf)); (repeat' first | exact trivial | refine And.intro trivial ?_ | refine And.intro rfl ?_ | refine And.intro (one_flat (fun _ => rfl) _) ?_ | refine Fit.yes (by omega) ?_ | refine Fit.no ?_ | (refine And.intro (fun hc => ?_) (fun hc => ?_) <;> ((try simp only [Sy.nf, ne_eq, reduceCtorEq, eq_self] at hc); first | (exfalso; first | omega | exact absurd hc (by assumption) | exact absurd (by assumption) hc) | (with_reducible change True at hc; clear hc) | skip)) | refine And.intro (by first | omega | (simp only [Sy.lc, Sy.ll]; omega) | (simp only [Sy.lc] at *; omega)) ?_ | refine And.intro ?_ ?_ | exact rfl | (refine congrArg SV.bool (decide_eq_true ?_); first | rfl | omega | assumption) | refine Pick.mk _ rfl ?_ | refine fun (bN : Nat) => ?_ | refine fun (zA : Bool) (bA : Bs) (cA : Nat) hA => ?_)
    exact ⟨_, _, rfl, Tells.refl _, h⟩
  · subst hk
    have he : L[k]? = some x.e := by rw [← hS.ab]; unfold BS.ab; rw [List.getElem?_map, hx]; rfl
    rw [if_neg (by rw [hasB_of he hxl]; simp), getE_of he] at hR
    obtain ⟨rfl, rfl⟩ := Prod.mk.inj hR
    (repeat' first | exact trivial | refine And.intro trivial ?_ | refine And.intro rfl ?_ | refine And.intro (one_flat (fun _ => rfl) _) ?_ | refine Fit.yes (by omega) ?_ | refine Fit.no ?_ | (refine And.intro (fun hc => ?_) (fun hc => ?_) <;> ((try simp only [Sy.nf, ne_eq, reduceCtorEq, eq_self] at hc); first | (exfalso; first | omega | exact absurd hc (by assumption) | exact absurd (by assumption) hc) | (with_reducible change True at hc; clear hc) | skip)) | refine And.intro (by first | omega | (simp only [Sy.lc, Sy.ll]; omega) | (simp only [Sy.lc] at *; omega)) ?_ | refine And.intro ?_ ?_ | exact rfl | (refine congrArg SV.bool (decide_eq_true ?_); first | rfl | omega | assumption) | refine Pick.mk _ rfl ?_ | refine fun (bN : Nat) => ?_ | refine fun (zA : Bool) (bA : Bs) (cA : Nat) hA => ?_); all_goals (try (conv => whnf)); (repeat' first | exact trivial | refine And.intro trivial ?_ | refine And.intro rfl ?_ | refine And.intro (one_flat (fun _ => rfl) _) ?_ | refine Fit.yes (by omega) ?_ | refine Fit.no ?_ | (refine And.intro (fun hc => ?_) (fun hc => ?_) <;> ((try simp only [Sy.nf, ne_eq, reduceCtorEq, eq_self] at hc); first | (exfalso; first | omega | exact absurd hc (by assumption) | exact absurd (by assumption) hc) | (with_reducible change True at hc; clear hc) | skip)) | refine And.intro (by first | omega | (simp only [Sy.lc, Sy.ll]; omega) | (simp only [Sy.lc] at *; omega)) ?_ | refine And.intro ?_ ?_ | exact rfl | (refine congrArg SV.bool (decide_eq_true ?_); first | rfl | omega | assumption) | refine Pick.mk _ rfl ?_ | refine fun (bN : Nat) => ?_ | refine fun (zA : Bool) (bA : Bs) (cA : Nat) hA => ?_)
    refine FnOb.call [5] (count_ob x.b x.e (hb x (List.mem_of_getElem? hx)) _ ?_) (by decide) rfl rfl
    (repeat' first | exact trivial | refine And.intro trivial ?_ | refine And.intro rfl ?_ | refine And.intro (one_flat (fun _ => rfl) _) ?_ | refine Fit.yes (by omega) ?_ | refine Fit.no ?_ | (refine And.intro (fun hc => ?_) (fun hc => ?_) <;> ((try simp only [Sy.nf, ne_eq, reduceCtorEq, eq_self] at hc); first | (exfalso; first | omega | exact absurd hc (by assumption) | exact absurd (by assumption) hc) | (with_reducible change True at hc; clear hc) | skip)) | refine And.intro (by first | omega | (simp only [Sy.lc, Sy.ll]; omega) | (simp only [Sy.lc] at *; omega)) ?_ | refine And.intro ?_ ?_ | exact rfl | (refine congrArg SV.bool (decide_eq_true ?_); first | rfl | omega | assumption) | refine Pick.mk _ rfl ?_ | refine fun (bN : Nat) => ?_ | refine fun (zA : Bool) (bA : Bs) (cA : Nat) hA => ?_); all_goals (try (conv => whnf)); (repeat' first | exact trivial | refine And.intro trivial ?_ | refine And.intro rfl ?_ | refine And.intro (one_flat (fun _ => rfl) _) ?_ | refine Fit.yes (by omega) ?_ | refine Fit.no ?_ | (refine And.intro (fun hc => ?_) (fun hc => ?_) <;> ((try simp only [Sy.nf, ne_eq, reduceCtorEq, eq_self] at hc); first | (exfalso; first | omega | exact absurd hc (by assumption) | exact absurd (by assumption) hc) | (with_reducible change True at hc; clear hc) | skip)) | refine And.intro (by first | omega | (simp only [Sy.lc, Sy.ll]; omega) | (simp only [Sy.lc] at *; omega)) ?_ | refine And.intro ?_ ?_ | exact rfl | (refine congrArg SV.bool (decide_eq_true ?_); first | rfl | omega | assumption) | refine Pick.mk _ rfl ?_ | refine fun (bN : Nat) => ?_ | refine fun (zA : Bool) (bA : Bs) (cA : Nat) hA => ?_)
    exact ⟨_, _, rfl, bsame hx, h⟩
theorem newB_ob (K : SV → SH → Prop) (h : ∀ bb S, okS S [] none 0 → K (.ptr 0 bb 0 0 0) (bM bb S)) : FnOb Try.prog 12 [] [] K := by
  apply FnOb.tidy
  apply en12
  (repeat' first | exact trivial | refine And.intro trivial ?_ | refine And.intro rfl ?_ | refine And.intro (one_flat (fun _ => rfl) _) ?_ | refine Fit.yes (by omega) ?_ | refine Fit.no ?_ | (refine And.intro (fun hc => ?_) (fun hc => ?_) <;> ((try simp only [Sy.nf, ne_eq, reduceCtorEq, eq_self] at hc); first | (exfalso; first | omega | exact absurd hc (by assumption) | exact absurd (by assumption) hc) | (with_reducible change True at hc; clear hc) | skip)) | refine And.intro (by first | omega | (simp only [Sy.lc, Sy.ll]; omega) | (simp only [Sy.lc] at *; omega)) ?_ | refine And.intro ?_ ?_ | exact rfl | (refine congrArg SV.bool (decide_eq_true ?_); first | rfl | omega | assumption) | refine Pick.mk _ rfl ?_ | refine fun (bN : Nat) => ?_ | refine fun (zA : Bool) (bA : Bs) (cA : Nat) hA => ?_); all_goals (try (conv => whnf)); (repeat' first | exact trivial | refine And.intro trivial ?_ | refine And.intro rfl ?_ | refine And.intro (one_flat (fun _ => rfl) _) ?_ | refine Fit.yes (by omega) ?_ | refine Fit.no ?_ | (refine And.intro (fun hc => ?_) (fun hc => ?_) <;> ((try simp only [Sy.nf, ne_eq, reduceCtorEq, eq_self] at hc); first | (exfalso; first | omega | exact absurd hc (by assumption) | exact absurd (by assumption) hc) | (with_reducible change True at hc; clear hc) | skip)) | refine And.intro (by first | omega | (simp only [Sy.lc, Sy.ll]; omega) | (simp only [Sy.lc] at *; omega)) ?_ | refine And.intro ?_ ?_ | exact rfl | (refine congrArg SV.bool (decide_eq_true ?_); first | rfl | omega | assumption) | refine Pick.mk _ rfl ?_ | refine fun (bN : Nat) => ?_ | refine fun (zA : Bool) (bA : Bs) (cA : Nat) hA => ?_)
  refine makeMap_ob ekK evI rfl fun mb => ?_
  (repeat' first | exact trivial | refine And.intro trivial ?_ | refine And.intro rfl ?_ | refine And.intro (one_flat (fun _ => rfl) _) ?_ | refine Fit.yes (by omega) ?_ | refine Fit.no ?_ | (refine And.intro (fun hc => ?_) (fun hc => ?_) <;> ((try simp only [Sy.nf, ne_eq, reduceCtorEq, eq_self] at hc); first | (exfalso; first | omega | exact absurd hc (by assumption) | exact absurd (by assumption) hc) | (with_reducible change True at hc; clear hc) | skip)) | refine And.intro (by first | omega | (simp only [Sy.lc, Sy.ll]; omega) | (simp only [Sy.lc] at *; omega)) ?_ | refine And.intro ?_ ?_ | exact rfl | (refine congrArg SV.bool (decide_eq_true ?_); first | rfl | omega | assumption) | refine Pick.mk _ rfl ?_ | refine fun (bN : Nat) => ?_ | refine fun (zA : Bool) (bA : Bs) (cA : Nat) hA => ?_); all_goals (try (conv => whnf)); (repeat' first | exact trivial | refine And.intro trivial ?_ | refine And.intro rfl ?_ | refine And.intro (one_flat (fun _ => rfl) _) ?_ | refine Fit.yes (by omega) ?_ | refine Fit.no ?_ | (refine And.intro (fun hc => ?_) (fun hc => ?_) <;> ((try simp only [Sy.nf, ne_eq, reduceCtorEq, eq_self] at hc); first | (exfalso; first | omega | exact absurd hc (by assumption) | exact absurd (by assumption) hc) | (with_reducible change True at hc; clear hc) | skip)) | refine And.intro (by first | omega | (simp only [Sy.lc, Sy.ll]; omega) | (simp only [Sy.lc] at *; omega)) ?_ | refine And.intro ?_ ?_ | exact rfl | (refine congrArg SV.bool (decide_eq_true ?_); first | rfl | omega | assumption) | refine Pick.mk _ rfl ?_ | refine fun (bN : Nat) => ?_ | refine fun (zA : Bool) (bA : Bs) (cA : Nat) hA => ?_)
  generalize bN = bb at *
  exact ⟨.ptr 0 ⟨bb, 0⟩ 0 0 0, bM ⟨bb, 0⟩ ⟨true, ⟨0, 0⟩, 0, [], ⟨mb, 0⟩, [], true, ⟨0, 0⟩, 0, [], ⟨0, 0⟩⟩, rfl,
    Tells.pick [some 1, none, some 0, none, none] (by decide) ⟨Retell.lit rfl, Ghost.vec, Retell.refl _, Ghost.vec, Ghost.fam, rfl⟩, h _ _ ⟨rfl, rfl, MapOk.nil, WF.nil⟩⟩
end Go.Proofs.Ythimgonpkhoodaa

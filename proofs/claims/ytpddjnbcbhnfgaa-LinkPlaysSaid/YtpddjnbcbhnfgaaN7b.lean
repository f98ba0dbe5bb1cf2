/- The document's link: packets are read. Own work. -/
import Derived.Test.YtpddjnbcbhnfgaaN7
namespace Go.Proofs.Ytpddjnbcbhnfgaa
open Go Go.Sy Go.Pk
set_option maxRecDepth 100000
set_option linter.unusedVariables false
set_option linter.unusedSimpArgs false
set_option maxHeartbeats 4000000
/-- The bytes are items that begin as such a packet. -/
def isQ (kind : Int) (many : Nat) (most : Int) (b : List UInt8) (l : List Itm) (e n : Int) : Prop :=
  decR b = (l, 0, 0) ∧ l.length = many ∧ l[0]? = some ⟨false, kind, []⟩ ∧ l[1]? = some ⟨false, e, []⟩ ∧ l[2]? = some ⟨false, n, []⟩ ∧ (0 ≤ e ∧ e ≤ 1073741824) ∧ (0 ≤ n ∧ n ≤ most)
theorem dec_may {b : List UInt8} {l : List Itm} (h : decR b = (l, 0, 0)) {x : Itm} (hx : x ∈ l) : (x.t = false → x = ⟨false, x.n, []⟩) ∧ (x.t = true → x = ⟨true, 0, x.s⟩) := by
  have hm := List.all_eq_true.1 (encR_ok (dec_ok h).1).2.2.1 x hx
  unfold may at hm
  obtain ⟨t, n, s⟩ := x
  cases t with
  | false => simp at hm; simp [hm]
  | true => simp at hm; simp [hm]
theorem isQ_ack {b : List UInt8} {l : List Itm} {e n : Int} (h : isQ 1 3 1073741825 b l e n) : isP 1 1073741825 b e n [] := by
  obtain ⟨h1, h2, h3, h4, h5, h6, h7⟩ := h
  have : l = itemsP 1 e n [] := by
    match l, h2 with
    | [a, b, c], _ => simp at h3 h4 h5; rw [h3, h4, h5]; rfl
  exact ⟨by rw [h1, this], fun _ => rfl, h6, h7, by simp⟩
theorem ack_isQ {b : List UInt8} {e n : Int} {t : List UInt8} (h : isP 1 1073741825 b e n t) : isQ 1 3 1073741825 b (itemsP 1 e n []) e n := by
  obtain ⟨h1, h2, h3, h4, h5⟩ := h
  rw [h2 (by decide)] at h1
  exact ⟨h1, rfl, rfl, rfl, rfl, h3, h4⟩
theorem isQ_data {b : List UInt8} {l : List Itm} {e n : Int} (h : isQ 0 4 1073741824 b l e n) {x : Itm} (hx : l[3]? = some x) (ht : x.t = true) (hl : x.s.length ≤ 60000) : isP 0 1073741824 b e n x.s := by
  obtain ⟨h1, h2, h3, h4, h5, h6, h7⟩ := h
  have hx2 := (dec_may h1 (List.mem_of_getElem? hx)).2 ht
  have : l = itemsP 0 e n x.s := by
    match l, h2 with
    | [a, b, c, d], _ =>
      simp at h3 h4 h5 hx
      rw [h3, h4, h5, hx, hx2]; rfl
  exact ⟨by rw [h1, this], fun hh => absurd rfl hh, h6, h7, hl⟩
theorem data_isQ {b : List UInt8} {e n : Int} {t : List UInt8} (h : isP 0 1073741824 b e n t) : isQ 0 4 1073741824 b (itemsP 0 e n t) e n ∧ (itemsP 0 e n t)[3]? = some ⟨true, 0, t⟩ ∧ t.length ≤ 60000 := by
  obtain ⟨h1, h2, h3, h4, h5⟩ := h
  exact ⟨⟨h1, rfl, rfl, rfl, rfl, h3, h4⟩, rfl, h5⟩
theorem rparse_ob (b : List UInt8) (hb : b.length ≤ 9223372036854775807) (kind : Int) (many : Nat) (most : Int) (hm : 3 ≤ many ∧ many ≤ 4) (K : SV → SH → Prop)
    (h1 : (∀ l e n, ¬ isQ kind many most b l e n) → K (.tup [.int .i64 0, .int .i64 0, .nils, .bool false]) [])
    (h2 : ∀ l e n z lb c, isQ kind many most b l e n → K (.tup [.int .i64 e, .int .i64 n, .sl 0 z lb 3 0 l.length c, .bool true]) [(lb, .vec z c encItem 3 l)]) : FnOb Try.prog 28 [.str b, .int .i64 kind, .int .i64 many, .int .i64 most] [] K := by
  apply FnOb.tidy
  apply en28
  by_cases hbl : 262144 < b.length
  · have hd : decR b = ([], 0, 2) := by unfold decR; rw [if_pos hbl]
    have := h1 fun l e n hq => by have := hq.1; rw [hd] at this; cases this
    repeat' first | exact trivial | refine And.intro trivial ?_ | refine And.intro rfl ?_ | refine And.intro (one_flat (fun _ => rfl) _) ?_ | refine Fit.yes (by omega) ?_ | refine Fit.no ?_ | (refine And.intro (fun hc => ?_) (fun hc => ?_) <;> (first | ((try simp only [decide_eq_true_eq, decide_eq_false_iff_not, Bool.not_eq_true', Bool.not_eq_false', Bool.not_eq_true, Bool.not_eq_false, Bool.or_eq_true, Bool.or_eq_false_iff, Bool.and_eq_true, Bool.and_eq_false_iff, Decidable.not_not, Int.not_lt, Int.not_le, Nat.not_lt, Nat.not_le, ne_eq, reduceCtorEq, not_true_eq_false, not_false_eq_true, eq_self, or_self, or_false, false_or, or_true, true_or, and_true, true_and, and_false, false_and, and_self] at hc); exfalso; first | omega | exact absurd hc (by assumption) | exact absurd (by assumption) hc) | (simp only [decide_eq_true_eq, decide_eq_false_iff_not, Bool.not_eq_true', Bool.not_eq_false', Bool.not_eq_true, Bool.not_eq_false, Bool.or_eq_true, Bool.or_eq_false_iff, Bool.and_eq_true, Bool.and_eq_false_iff, Decidable.not_not, Int.not_lt, Int.not_le, Nat.not_lt, Nat.not_le, ne_eq, reduceCtorEq, not_true_eq_false, not_false_eq_true, eq_self, or_self, or_false, false_or, or_true, true_or, and_true, true_and, and_false, false_and, and_self] at hc; try (with_reducible change True at hc; clear hc)) | skip)) | refine And.intro (by first | omega | (simp only [List.length_append, List.length_cons, List.length_nil, List.length_take, List.length_drop, List.length_replicate, List.length_map, List.length_set, Int.toNat_natCast]; omega) | (simp only [List.length_append, List.length_cons, List.length_nil, List.length_replicate] at *; omega)) ?_ | refine And.intro ?_ ?_ | exact rfl | (refine congrArg SV.bool (decide_eq_true ?_); first | rfl | omega | assumption) | refine Pick.mk _ rfl ?_ | refine fun (bN : Nat) => ?_ | refine fun (zA : Bool) (bA : Bs) (cA : Nat) hA => ?_
    exact ⟨_, _, rfl, Tells.refl _, this⟩
  · repeat' first | exact trivial | refine And.intro trivial ?_ | refine And.intro rfl ?_ | refine And.intro (one_flat (fun _ => rfl) _) ?_ | refine Fit.yes (by omega) ?_ | refine Fit.no ?_ | (refine And.intro (fun hc => ?_) (fun hc => ?_) <;> (first | ((try simp only [decide_eq_true_eq, decide_eq_false_iff_not, Bool.not_eq_true', Bool.not_eq_false', Bool.not_eq_true, Bool.not_eq_false, Bool.or_eq_true, Bool.or_eq_false_iff, Bool.and_eq_true, Bool.and_eq_false_iff, Decidable.not_not, Int.not_lt, Int.not_le, Nat.not_lt, Nat.not_le, ne_eq, reduceCtorEq, not_true_eq_false, not_false_eq_true, eq_self, or_self, or_false, false_or, or_true, true_or, and_true, true_and, and_false, false_and, and_self] at hc); exfalso; first | omega | exact absurd hc (by assumption) | exact absurd (by assumption) hc) | (simp only [decide_eq_true_eq, decide_eq_false_iff_not, Bool.not_eq_true', Bool.not_eq_false', Bool.not_eq_true, Bool.not_eq_false, Bool.or_eq_true, Bool.or_eq_false_iff, Bool.and_eq_true, Bool.and_eq_false_iff, Decidable.not_not, Int.not_lt, Int.not_le, Nat.not_lt, Nat.not_le, ne_eq, reduceCtorEq, not_true_eq_false, not_false_eq_true, eq_self, or_self, or_false, false_or, or_true, true_or, and_true, true_and, and_false, false_and, and_self] at hc; try (with_reducible change True at hc; clear hc)) | skip)) | refine And.intro (by first | omega | (simp only [List.length_append, List.length_cons, List.length_nil, List.length_take, List.length_drop, List.length_replicate, List.length_map, List.length_set, Int.toNat_natCast]; omega) | (simp only [List.length_append, List.length_cons, List.length_nil, List.length_replicate] at *; omega)) ?_ | refine And.intro ?_ ?_ | exact rfl | (refine congrArg SV.bool (decide_eq_true ?_); first | rfl | omega | assumption) | refine Pick.mk _ rfl ?_ | refine fun (bN : Nat) => ?_ | refine fun (zA : Bool) (bA : Bs) (cA : Nat) hA => ?_
    refine FnOb.call [] (refDecode_ob b hb _ fun z lb c => ?_) (by decide) rfl rfl
    obtain ⟨l, pos, code, hd⟩ : ∃ l pos code, decR b = (l, pos, code) := ⟨_, _, _, rfl⟩
    rw [hd]
    dsimp only
    by_cases hok : (pos = 0 ∧ code = 0) ∧ l.length = many
    · obtain ⟨⟨rfl, rfl⟩, hlm⟩ := hok
      obtain ⟨x0, hx0⟩ : ∃ x, l[0]? = some x := ⟨_, List.getElem?_eq_getElem (by omega)⟩
      obtain ⟨x1, hx1⟩ : ∃ x, l[1]? = some x := ⟨_, List.getElem?_eq_getElem (by omega)⟩
      obtain ⟨x2, hx2⟩ : ∃ x, l[2]? = some x := ⟨_, List.getElem?_eq_getElem (by omega)⟩
      have hx0' : l[0 + Int.toNat 0]? = some x0 := hx0
      have hx1' : l[0 + Int.toNat 1]? = some x1 := hx1
      have hx2' : l[0 + Int.toNat 2]? = some x2 := hx2
      obtain ⟨hm1, hm1'⟩ := dec_may hd (List.mem_of_getElem? hx0)
      obtain ⟨hm2, hm2'⟩ := dec_may hd (List.mem_of_getElem? hx1)
      obtain ⟨hm3, hm3'⟩ := dec_may hd (List.mem_of_getElem? hx2)
      by_cases hall : (x0.t = false ∧ x0.n = kind) ∧ (x1.t = false ∧ 0 ≤ x1.n ∧ x1.n ≤ 1073741824) ∧ (x2.t = false ∧ 0 ≤ x2.n ∧ x2.n ≤ most)
      · obtain ⟨⟨a1, a2⟩, ⟨b1, b2, b3⟩, ⟨c1, c2, c3⟩⟩ := hall
        have hq : isQ kind many most b l x1.n x2.n := ⟨hd, hlm, by rw [hx0, hm1 a1, a2], by rw [hx1, hm2 b1], by rw [hx2, hm3 c1], ⟨b2, b3⟩, ⟨c2, c3⟩⟩
        have := h2 l x1.n x2.n z lb c hq
        obtain ⟨y0, n0, s0⟩ := x0
        obtain ⟨y1, n1, s1⟩ := x1
        obtain ⟨y2, n2, s2⟩ := x2
        dsimp only at a1 a2 b1 b2 b3 c1 c2 c3 this
        subst a1 b1 c1
        clear hm1 hm2 hm3 hm1' hm2' hm3' hq
        repeat' first | exact trivial | refine And.intro trivial ?_ | refine And.intro rfl ?_ | refine And.intro (one_flat (fun _ => rfl) _) ?_ | refine Fit.yes (by omega) ?_ | refine Fit.no ?_ | (refine And.intro (fun hc => ?_) (fun hc => ?_) <;> (first | ((try simp only [decide_eq_true_eq, decide_eq_false_iff_not, Bool.not_eq_true', Bool.not_eq_false', Bool.not_eq_true, Bool.not_eq_false, Bool.or_eq_true, Bool.or_eq_false_iff, Bool.and_eq_true, Bool.and_eq_false_iff, Decidable.not_not, Int.not_lt, Int.not_le, Nat.not_lt, Nat.not_le, ne_eq, reduceCtorEq, not_true_eq_false, not_false_eq_true, eq_self, or_self, or_false, false_or, or_true, true_or, and_true, true_and, and_false, false_and, and_self] at hc); exfalso; first | omega | exact absurd hc (by assumption) | exact absurd (by assumption) hc) | (simp only [decide_eq_true_eq, decide_eq_false_iff_not, Bool.not_eq_true', Bool.not_eq_false', Bool.not_eq_true, Bool.not_eq_false, Bool.or_eq_true, Bool.or_eq_false_iff, Bool.and_eq_true, Bool.and_eq_false_iff, Decidable.not_not, Int.not_lt, Int.not_le, Nat.not_lt, Nat.not_le, ne_eq, reduceCtorEq, not_true_eq_false, not_false_eq_true, eq_self, or_self, or_false, false_or, or_true, true_or, and_true, true_and, and_false, false_and, and_self] at hc; try (with_reducible change True at hc; clear hc)) | skip)) | refine And.intro (by first | omega | (simp only [List.length_append, List.length_cons, List.length_nil, List.length_take, List.length_drop, List.length_replicate, List.length_map, List.length_set, Int.toNat_natCast]; omega) | (simp only [List.length_append, List.length_cons, List.length_nil, List.length_replicate] at *; omega)) ?_ | refine And.intro ?_ ?_ | exact rfl | (refine congrArg SV.bool (decide_eq_true ?_); first | rfl | omega | assumption) | refine Pick.mk _ rfl ?_ | refine fun (bN : Nat) => ?_ | refine fun (zA : Bool) (bA : Bs) (cA : Nat) hA => ?_ | (intro x' hx''; first | obtain rfl := Option.some.inj (hx0'.symm.trans hx'') | obtain rfl := Option.some.inj (hx1'.symm.trans hx'') | obtain rfl := Option.some.inj (hx2'.symm.trans hx''))
        all_goals first | exact absurd rfl hc | skip
        exact ⟨_, [(lb, .vec z c encItem 3 l)], rfl, Tells.pick [some 0] (by decide) ⟨Retell.refl _, rfl⟩, this⟩
      · have := h1 fun l' e n hq => hall (by
          obtain ⟨h3, h4, h5, h6, h7, h8, h9⟩ := hq
          rw [hd] at h3
          simp only [Prod.mk.injEq] at h3
          obtain ⟨rfl, _⟩ := h3
          rw [hx0] at h5
          rw [hx1] at h6
          rw [hx2] at h7
          cases h5; cases h6; cases h7
          exact ⟨⟨rfl, rfl⟩, ⟨rfl, h8⟩, ⟨rfl, h9⟩⟩)
        obtain ⟨y0, n0, s0⟩ := x0
        obtain ⟨y1, n1, s1⟩ := x1
        obtain ⟨y2, n2, s2⟩ := x2
        dsimp only at hall
        clear hm1 hm2 hm3 hm1' hm2' hm3'
        cases y0 <;> cases y1 <;> cases y2
        all_goals
          repeat' first | exact trivial | refine And.intro trivial ?_ | refine And.intro rfl ?_ | refine And.intro (one_flat (fun _ => rfl) _) ?_ | refine Fit.yes (by omega) ?_ | refine Fit.no ?_ | (refine And.intro (fun hc => ?_) (fun hc => ?_) <;> (first | ((try simp only [decide_eq_true_eq, decide_eq_false_iff_not, Bool.not_eq_true', Bool.not_eq_false', Bool.not_eq_true, Bool.not_eq_false, Bool.or_eq_true, Bool.or_eq_false_iff, Bool.and_eq_true, Bool.and_eq_false_iff, Decidable.not_not, Int.not_lt, Int.not_le, Nat.not_lt, Nat.not_le, ne_eq, reduceCtorEq, not_true_eq_false, not_false_eq_true, eq_self, or_self, or_false, false_or, or_true, true_or, and_true, true_and, and_false, false_and, and_self] at hc); exfalso; first | omega | exact absurd hc (by assumption) | exact absurd (by assumption) hc) | (simp only [decide_eq_true_eq, decide_eq_false_iff_not, Bool.not_eq_true', Bool.not_eq_false', Bool.not_eq_true, Bool.not_eq_false, Bool.or_eq_true, Bool.or_eq_false_iff, Bool.and_eq_true, Bool.and_eq_false_iff, Decidable.not_not, Int.not_lt, Int.not_le, Nat.not_lt, Nat.not_le, ne_eq, reduceCtorEq, not_true_eq_false, not_false_eq_true, eq_self, or_self, or_false, false_or, or_true, true_or, and_true, true_and, and_false, false_and, and_self] at hc; try (with_reducible change True at hc; clear hc)) | skip)) | refine And.intro (by first | omega | (simp only [List.length_append, List.length_cons, List.length_nil, List.length_take, List.length_drop, List.length_replicate, List.length_map, List.length_set, Int.toNat_natCast]; omega) | (simp only [List.length_append, List.length_cons, List.length_nil, List.length_replicate] at *; omega)) ?_ | refine And.intro ?_ ?_ | exact rfl | (refine congrArg SV.bool (decide_eq_true ?_); first | rfl | omega | assumption) | refine Pick.mk _ rfl ?_ | refine fun (bN : Nat) => ?_ | refine fun (zA : Bool) (bA : Bs) (cA : Nat) hA => ?_ | (intro x' hx''; first | obtain rfl := Option.some.inj (hx0'.symm.trans hx'') | obtain rfl := Option.some.inj (hx1'.symm.trans hx'') | obtain rfl := Option.some.inj (hx2'.symm.trans hx''))
          all_goals first | (exact ⟨_, [], rfl, Tells.pick [] (by decide) rfl, this⟩) | (exfalso; exact hall ⟨⟨rfl, by omega⟩, ⟨rfl, by omega, by omega⟩, ⟨rfl, by omega, by omega⟩⟩)
    · have := h1 fun l' e n hq => hok (by
        have h3 := hq.1
        rw [hd] at h3
        have h4 := hq.2.1
        simp only [Prod.mk.injEq] at h3
        obtain ⟨rfl, rfl, rfl⟩ := h3
        exact ⟨⟨rfl, rfl⟩, h4⟩)
      have hno := dec_no b
      rw [hd] at hno
      have hcl : code ≠ 0 ∨ (code = 0 ∧ l.length ≠ many) := by
        rcases hno with hno | hno
        · simp only [Prod.mk.injEq] at hno
          exact .inr ⟨hno.2, fun hh => hok ⟨hno, hh⟩⟩
        · exact .inl hno.2
      rcases hcl with hcl | ⟨rfl, hcl⟩
      · repeat' first | exact trivial | refine And.intro trivial ?_ | refine And.intro rfl ?_ | refine And.intro (one_flat (fun _ => rfl) _) ?_ | refine Fit.yes (by omega) ?_ | refine Fit.no ?_ | (refine And.intro (fun hc => ?_) (fun hc => ?_) <;> (first | ((try simp only [decide_eq_true_eq, decide_eq_false_iff_not, Bool.not_eq_true', Bool.not_eq_false', Bool.not_eq_true, Bool.not_eq_false, Bool.or_eq_true, Bool.or_eq_false_iff, Bool.and_eq_true, Bool.and_eq_false_iff, Decidable.not_not, Int.not_lt, Int.not_le, Nat.not_lt, Nat.not_le, ne_eq, reduceCtorEq, not_true_eq_false, not_false_eq_true, eq_self, or_self, or_false, false_or, or_true, true_or, and_true, true_and, and_false, false_and, and_self] at hc); exfalso; first | omega | exact absurd hc (by assumption) | exact absurd (by assumption) hc) | (simp only [decide_eq_true_eq, decide_eq_false_iff_not, Bool.not_eq_true', Bool.not_eq_false', Bool.not_eq_true, Bool.not_eq_false, Bool.or_eq_true, Bool.or_eq_false_iff, Bool.and_eq_true, Bool.and_eq_false_iff, Decidable.not_not, Int.not_lt, Int.not_le, Nat.not_lt, Nat.not_le, ne_eq, reduceCtorEq, not_true_eq_false, not_false_eq_true, eq_self, or_self, or_false, false_or, or_true, true_or, and_true, true_and, and_false, false_and, and_self] at hc; try (with_reducible change True at hc; clear hc)) | skip)) | refine And.intro (by first | omega | (simp only [List.length_append, List.length_cons, List.length_nil, List.length_take, List.length_drop, List.length_replicate, List.length_map, List.length_set, Int.toNat_natCast]; omega) | (simp only [List.length_append, List.length_cons, List.length_nil, List.length_replicate] at *; omega)) ?_ | refine And.intro ?_ ?_ | exact rfl | (refine congrArg SV.bool (decide_eq_true ?_); first | rfl | omega | assumption) | refine Pick.mk _ rfl ?_ | refine fun (bN : Nat) => ?_ | refine fun (zA : Bool) (bA : Bs) (cA : Nat) hA => ?_
        exact ⟨_, [], rfl, Tells.pick [] (by decide) rfl, this⟩
      · repeat' first | exact trivial | refine And.intro trivial ?_ | refine And.intro rfl ?_ | refine And.intro (one_flat (fun _ => rfl) _) ?_ | refine Fit.yes (by omega) ?_ | refine Fit.no ?_ | (refine And.intro (fun hc => ?_) (fun hc => ?_) <;> (first | ((try simp only [decide_eq_true_eq, decide_eq_false_iff_not, Bool.not_eq_true', Bool.not_eq_false', Bool.not_eq_true, Bool.not_eq_false, Bool.or_eq_true, Bool.or_eq_false_iff, Bool.and_eq_true, Bool.and_eq_false_iff, Decidable.not_not, Int.not_lt, Int.not_le, Nat.not_lt, Nat.not_le, ne_eq, reduceCtorEq, not_true_eq_false, not_false_eq_true, eq_self, or_self, or_false, false_or, or_true, true_or, and_true, true_and, and_false, false_and, and_self] at hc); exfalso; first | omega | exact absurd hc (by assumption) | exact absurd (by assumption) hc) | (simp only [decide_eq_true_eq, decide_eq_false_iff_not, Bool.not_eq_true', Bool.not_eq_false', Bool.not_eq_true, Bool.not_eq_false, Bool.or_eq_true, Bool.or_eq_false_iff, Bool.and_eq_true, Bool.and_eq_false_iff, Decidable.not_not, Int.not_lt, Int.not_le, Nat.not_lt, Nat.not_le, ne_eq, reduceCtorEq, not_true_eq_false, not_false_eq_true, eq_self, or_self, or_false, false_or, or_true, true_or, and_true, true_and, and_false, false_and, and_self] at hc; try (with_reducible change True at hc; clear hc)) | skip)) | refine And.intro (by first | omega | (simp only [List.length_append, List.length_cons, List.length_nil, List.length_take, List.length_drop, List.length_replicate, List.length_map, List.length_set, Int.toNat_natCast]; omega) | (simp only [List.length_append, List.length_cons, List.length_nil, List.length_replicate] at *; omega)) ?_ | refine And.intro ?_ ?_ | exact rfl | (refine congrArg SV.bool (decide_eq_true ?_); first | rfl | omega | assumption) | refine Pick.mk _ rfl ?_ | refine fun (bN : Nat) => ?_ | refine fun (zA : Bool) (bA : Bs) (cA : Nat) hA => ?_
        exact ⟨_, [], rfl, Tells.pick [] (by decide) rfl, this⟩
end Go.Proofs.Ytpddjnbcbhnfgaa

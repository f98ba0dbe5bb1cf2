/- The buffer, plainly: put where all are there; chains of two. Own work. -/
import Derived.Test.YthimgonpkhoodaaBf4
namespace Go.Bu
open Go Go.Sy
set_option linter.unusedVariables false
set_option linter.unusedSimpArgs false
def allLive (L : List Ent) : Prop := ∀ (i : Nat) e, L[i]? = some e → e.live = true
theorem allLive_free {L : List Ent} (h : allLive L) : freeR L none = [] := by
  unfold freeR
  rw [List.filter_eq_nil_iff]
  intro j hj
  obtain ⟨e, he⟩ : ∃ e, L[j]? = some e := ⟨_, List.getElem?_eq_getElem (List.mem_range.1 hj)⟩
  rw [regNone]
  unfold liveAt
  rw [he]
  simp [h j e he]
theorem allLive_len {L : List Ent} (h : allLive L) : lenR L none = L.length := lenR_all (allLive_free h)
theorem putA_live {L : List Ent} {N : Nat} {s p r : Int} (h : WF L none N) (hall : allLive L) (hs : 0 ≤ s ∧ s < 8 ∧ 0 ≤ p ∧ p ≤ 1073741824) (hlen : L.length < 4096) (hr : r = -1 ∨ ∃ (q : Nat) (e : Ent), r = q ∧ L[q]? = some e ∧ e.place < p ∧ e.stage ≤ s) :
    ∃ (i : Nat) (L' : List Ent), putA L s p r = (((i : Int), (0 : Int)), L') ∧ allLive L' ∧ (∃ e, L'[i]? = some e ∧ e.key = (s, p, r)) ∧ (∀ (j : Nat) e, L[j]? = some e → ∃ e', L'[j]? = some e' ∧ e'.key = e.key) ∧
      ((L'.length = L.length ∧ i < L.length) ∨ (L'.length = L.length + 1 ∧ i = L.length ∧ ∀ (j : Nat) e, L[j]? = some e → e.key ≠ (s, p, r))) := by
  have hrr : r = -1 ∨ ∃ (q : Nat) (e : Ent), r = q ∧ L[q]? = some e ∧ e.live = true ∧ e.place < p := by
    rcases hr with hr | ⟨q, e, h1, h2, h3, h4⟩
    · exact .inl hr
    · exact .inr ⟨q, e, h1, h2, hall q e h2, h3⟩
  have hc1 : ¬ (r ≠ -1 ∧ hasB L r = false) := by
    rintro ⟨h1, h2⟩
    rcases hr with hr | ⟨q, e, rfl, h4, h5, h6⟩
    · exact h1 hr
    · rw [hasB_of h4 (hall q e h4)] at h2; cases h2
  have hc2 : ¬ (r ≠ -1 ∧ (s < (getE L r).stage ∨ p ≤ (getE L r).place)) := by
    rintro ⟨h1, h2⟩
    rcases hr with hr | ⟨q, e, rfl, h4, h5, h6⟩
    · exact h1 hr
    · rw [getE_of h4] at h2; omega
  unfold putA
  rw [if_neg (by omega), if_neg hc1, if_neg hc2]
  cases hf : findB L (s, p, r) with
  | some i =>
    obtain ⟨e, h1, h2, h3⟩ := findB_some hf
    have hget : ∀ j, (bumpH L i 1)[j]? = (L[j]?).map fun q => if i = j then { q with held := q.held + 1 } else q := by
      intro j
      unfold bumpH
      rw [List.getElem?_modify]
      cases L[j]? with
      | none => rfl
      | some q => rfl
    refine ⟨i, _, rfl, ?_, ?_, ?_, .inl ⟨by unfold bumpH; simp, (List.getElem?_eq_some_iff.1 h1).1⟩⟩
    · intro j q hq
      rw [hget] at hq
      cases hj : L[j]? with
      | none => rw [hj] at hq; cases hq
      | some x =>
        rw [hj] at hq
        simp only [Option.map_some, Option.some.injEq] at hq
        have := hall j x hj
        subst hq
        split
        · unfold Ent.live at *
          simp only [decide_eq_true_eq] at *
          omega
        · exact this
    · exact ⟨{ e with held := e.held + 1 }, by rw [hget, h1]; simp, h3⟩
    · intro j q hq
      refine ⟨_, by rw [hget, hq]; rfl, ?_⟩
      split <;> rfl
  | none =>
    have hno := findB_none hf
    rw [allLive_len hall, if_neg (by omega)]
    obtain ⟨a, b, c, d, e, f⟩ := h.put hs (by rw [allLive_len hall]; exact hlen) hrr hno
    have hff : freeF L = L.length := by unfold freeF; rw [allLive_free hall]; rfl
    have hll : (bumpK (setE L (freeF L) ⟨s, p, r, 1, 0⟩) r 1).length = L.length + 1 := by
      have h1 : (setE L (freeF L) ⟨s, p, r, 1, 0⟩).length = L.length + 1 := by unfold setE; rw [hff, if_neg (Nat.lt_irrefl _)]; simp
      unfold bumpK
      split
      · exact h1
      · rw [List.length_modify]; exact h1
    refine ⟨freeF L, _, rfl, ?_, ?_, ?_, .inr ⟨hll, hff, fun j q hq => hno j q hq (hall j q hq)⟩⟩
    · intro j q hq
      have hreg := e j
      rw [regNone] at hreg
      unfold liveAt at hreg
      rw [hq] at hreg
      have hreg : q.live = _ := hreg
      rw [hreg]
      have hjl := (List.getElem?_eq_some_iff.1 hq).1
      rw [hll] at hjl
      by_cases hj : j = freeF L
      · simp [hj]
      · obtain ⟨x, hx⟩ : ∃ x, L[j]? = some x := ⟨_, List.getElem?_eq_getElem (by omega)⟩
        rw [regNone]
        unfold liveAt
        rw [hx]
        simp [hall j x hx]
    · exact ⟨⟨s, p, r, 1, 0⟩, by rw [d, if_pos rfl], rfl⟩
    · intro j q hq
      have hj : j ≠ freeF L := by have := (List.getElem?_eq_some_iff.1 hq).1; omega
      refine ⟨_, by rw [d, if_neg hj, hq]; rfl, ?_⟩
      split <;> rfl
theorem getM_put {κ ν : Type} [DecidableEq κ] {k k' : κ} {v : ν} : ∀ {M : List (κ × ν)}, getM (putM M k v) k' = if k = k' then some v else getM M k'
  | [] => by simp [putM, getM]
  | p :: M => by
    unfold putM
    split
    · rename_i hp
      unfold getM
      by_cases h : k = k'
      · simp [h]
      · rw [if_neg h, if_neg h, if_neg (fun e => h (hp.symm.trans e))]
    · rename_i hp
      unfold getM
      rw [getM_put]
      by_cases h : k = k'
      · rw [if_pos h, if_neg (fun e => hp (e.trans h.symm)), if_pos h]
      · rw [if_neg h, if_neg h]
def hasK (L : List Ent) (k : Ky) : Prop := ∃ (i : Nat) (e : Ent), L[i]? = some e ∧ e.key = k
/-- What is seen is put. -/
structure Sh (L : List Ent) (M : List ((Int × Int) × Bool)) : Prop where
  all : allLive L
  tru : ∀ k v, getM M k = some v → v = true
  one : ∀ a, getM M (a, -1) = some true ↔ hasK L (0, a, -1)
  two : ∀ a b, b ≠ -1 → (getM M (a, b) = some true ↔ ∃ (j : Nat) (e : Ent), L[j]? = some e ∧ e.key = (0, a, -1) ∧ hasK L (1, b, j))
theorem Sh.nil : Sh [] [] := ⟨by simp [allLive], by simp [getM], by simp [getM, hasK], by simp [getM]⟩
/-- One more chain of two. -/
theorem Sh.step {L : List Ent} {M : List ((Int × Int) × Bool)} {N : Nat} {a b : Int} (h : Sh L M) (hw : WF L none N) (ha : 0 ≤ a ∧ a < 5) (hb : 10 ≤ b ∧ b < 15) (hlen : L.length < 4000) {v w e f : Int} {L1 L2 : List Ent} (h1 : putA L 0 a (-1) = ((v, e), L1)) (hw1 : WF L1 none (N + 1)) (h2 : putA L1 1 b v = ((w, f), L2)) (hw2 : WF L2 none (N + 2)) :
    e = 0 ∧ f = 0 ∧ Sh L2 (putM (putM M (a, -1) true) (a, b) true) ∧ wayA L2 w = ([(0, a), (1, b)], 0) ∧ L2.length = L.length + (if getM M (a, -1) = some true then 0 else 1) + (if getM M (a, b) = some true then 0 else 1) := by
  obtain ⟨i, L1', p1, p2, ⟨ei, p3, p4⟩, p5, p6⟩ := putA_live (s := 0) (p := a) (r := -1) hw h.all (by omega) (by omega) (.inl rfl)
  rw [h1] at p1
  simp only [Prod.mk.injEq] at p1
  obtain ⟨⟨rfl, rfl⟩, rfl⟩ := p1
  have hl1 : L1.length ≤ L.length + 1 := by rcases p6 with p6 | p6 <;> omega
  have hke : ei.stage = 0 ∧ ei.place = a ∧ ei.parent = -1 := by
    simp only [Ent.key, Prod.mk.injEq] at p4; exact p4
  obtain ⟨j, L2', q1, q2, ⟨ej, q3, q4⟩, q5, q6⟩ := putA_live (s := 1) (p := b) (r := (i : Int)) hw1 p2 (by omega) (by omega) (.inr ⟨i, ei, rfl, p3, by omega, by omega⟩)
  rw [h2] at q1
  simp only [Prod.mk.injEq] at q1
  obtain ⟨⟨rfl, rfl⟩, rfl⟩ := q1
  have hkj : ej.stage = 1 ∧ ej.place = b ∧ ej.parent = i := by
    simp only [Ent.key, Prod.mk.injEq] at q4; exact q4
  obtain ⟨ei2, r1, r2⟩ := q5 i ei p3
  have hki : ei2.stage = 0 ∧ ei2.place = a ∧ ei2.parent = -1 := by
    rw [p4] at r2; simp only [Ent.key, Prod.mk.injEq] at r2; exact r2
  -- back: an entry of L1 that is none of L is the new one
  have back1 : ∀ k, k ≠ (0, a, -1) → hasK L1 k → hasK L k := by
    rintro k hk ⟨x, y, hx, hy⟩
    rcases p6 with ⟨t1, t2⟩ | ⟨t1, t2, t3⟩
    · obtain ⟨z, hz⟩ : ∃ z, L[x]? = some z := ⟨_, List.getElem?_eq_getElem (by have := (List.getElem?_eq_some_iff.1 hx).1; omega)⟩
      obtain ⟨y', g1, g2⟩ := p5 x z hz
      rw [hx] at g1
      obtain rfl := Option.some.inj g1
      exact ⟨x, z, hz, g2.symm.trans hy⟩
    · by_cases hxi : x = i
      · subst hxi
        rw [p3] at hx
        obtain rfl := Option.some.inj hx
        exact absurd (hy.symm.trans p4) hk
      · obtain ⟨z, hz⟩ : ∃ z, L[x]? = some z := ⟨_, List.getElem?_eq_getElem (by have := (List.getElem?_eq_some_iff.1 hx).1; omega)⟩
        obtain ⟨y', g1, g2⟩ := p5 x z hz
        rw [hx] at g1
        obtain rfl := Option.some.inj g1
        exact ⟨x, z, hz, g2.symm.trans hy⟩
  have fwd1 : ∀ k, hasK L k → hasK L1 k := by
    rintro k ⟨x, y, hx, hy⟩
    obtain ⟨y', g1, g2⟩ := p5 x y hx
    exact ⟨x, y', g1, g2.trans hy⟩
  have fwd2 : ∀ k, hasK L1 k → hasK L2 k := by
    rintro k ⟨x, y, hx, hy⟩
    obtain ⟨y', g1, g2⟩ := q5 x y hx
    exact ⟨x, y', g1, g2.trans hy⟩
  have back2 : ∀ k, k ≠ (1, b, (i : Int)) → hasK L2 k → hasK L1 k := by
    rintro k hk ⟨x, y, hx, hy⟩
    by_cases hxi : x < L1.length
    · obtain ⟨z, hz⟩ : ∃ z, L1[x]? = some z := ⟨_, List.getElem?_eq_getElem hxi⟩
      obtain ⟨y', g1, g2⟩ := q5 x z hz
      rw [hx] at g1
      obtain rfl := Option.some.inj g1
      exact ⟨x, z, hz, g2.symm.trans hy⟩
    · have hxl := (List.getElem?_eq_some_iff.1 hx).1
      have : x = j := by rcases q6 with q6 | q6 <;> omega
      subst this
      rw [q3] at hx
      obtain rfl := Option.some.inj hx
      exact absurd (hy.symm.trans q4) hk
  -- who has a key is one
  have uniq2 : ∀ (x : Nat) y, L2[x]? = some y → y.key = (0, a, -1) → x = i := fun x y hx hy =>
    hw2.uniq x i y ei2 hx r1 (by rw [regNone]; unfold liveAt; rw [hx]; exact q2 x y hx) (by rw [regNone]; unfold liveAt; rw [r1]; exact q2 i ei2 r1) (by rw [hy, r2, p4])
  have hone : getM M (a, -1) = some true ↔ L1.length = L.length := by
    rw [h.one]
    constructor
    · rintro ⟨x, y, hx, hy⟩
      rcases p6 with ⟨t1, _⟩ | ⟨t1, t2, t3⟩
      · exact t1
      · exact absurd hy (t3 x y hx)
    · intro hl
      rcases p6 with ⟨t1, t2⟩ | ⟨t1, t2, t3⟩
      · obtain ⟨z, hz⟩ : ∃ z, L[i]? = some z := ⟨_, List.getElem?_eq_getElem t2⟩
        obtain ⟨y', g1, g2⟩ := p5 i z hz
        rw [p3] at g1
        obtain rfl := Option.some.inj g1
        exact ⟨i, z, hz, g2.symm.trans p4⟩
      · omega
  have htwo : getM M (a, b) = some true ↔ L2.length = L1.length := by
    rw [h.two a b (by omega)]
    constructor
    · rintro ⟨x, y, hx, hy, hb1⟩
      rcases q6 with ⟨t1, _⟩ | ⟨t1, t2, t3⟩
      · exact t1
      · exfalso
        obtain ⟨y1, g1, g2⟩ := p5 x y hx
        obtain ⟨y2, g3, g4⟩ := q5 x y1 g1
        have hxi := uniq2 x y2 g3 (by rw [g4, g2, hy])
        subst hxi
        obtain ⟨u, v, hu, hv⟩ := fwd1 _ hb1
        exact t3 u v hu hv
    · intro hl
      rcases q6 with ⟨t1, t2⟩ | ⟨t1, t2, t3⟩
      · obtain ⟨z, hz⟩ : ∃ z, L1[j]? = some z := ⟨_, List.getElem?_eq_getElem t2⟩
        obtain ⟨y', g1, g2⟩ := q5 j z hz
        rw [q3] at g1
        obtain rfl := Option.some.inj g1
        have hk1 : hasK L1 (1, b, (i : Int)) := ⟨j, z, hz, g2.symm.trans q4⟩
        obtain ⟨u, v, hu, hv⟩ := back1 _ (by simp) hk1
        have hvp : v.parent = i := by simp only [Ent.key, Prod.mk.injEq] at hv; exact hv.2.2
        rcases hw.par u v hu (by rw [regNone]; unfold liveAt; rw [hu]; exact h.all u v hu) with hp | ⟨p, q, hp, hq, _⟩
        · omega
        · have : p = i := by omega
          subst this
          obtain ⟨q', g3, g4⟩ := p5 p q hq
          rw [p3] at g3
          obtain rfl := Option.some.inj g3
          exact ⟨p, q, hq, g4.symm.trans p4, ⟨u, v, hu, hv⟩⟩
      · omega
  refine ⟨rfl, rfl, ⟨q2, ?_, ?_, ?_⟩, ?_, ?_⟩
  · intro k v hv
    rw [getM_put, getM_put] at hv
    split at hv
    · exact (Option.some.inj hv).symm
    · split at hv
      · exact (Option.some.inj hv).symm
      · exact h.tru k v hv
  · intro a'
    rw [getM_put, if_neg (by simp; omega), getM_put]
    by_cases ha' : a' = a
    · subst ha'
      rw [if_pos rfl]
      exact ⟨fun _ => ⟨i, ei2, r1, by rw [r2, p4]⟩, fun _ => rfl⟩
    · rw [if_neg (by simp; omega), h.one]
      exact ⟨fun hh => fwd2 _ (fwd1 _ hh), fun hh => back1 _ (by simp; omega) (back2 _ (by simp) hh)⟩
  · intro a' b' hb'
    rw [getM_put, getM_put]
    by_cases hab : a = a' ∧ b = b'
    · obtain ⟨rfl, rfl⟩ := hab
      rw [if_pos rfl]
      exact ⟨fun _ => ⟨i, ei2, r1, by rw [r2, p4], j, ej, q3, q4⟩, fun _ => rfl⟩
    · rw [if_neg (by simpa using hab), if_neg (by simp; omega), h.two a' b' hb']
      constructor
      · rintro ⟨x, y, hx, hy, hk⟩
        obtain ⟨y1, g1, g2⟩ := p5 x y hx
        obtain ⟨y2, g3, g4⟩ := q5 x y1 g1
        exact ⟨x, y2, g3, by rw [g4, g2, hy], fwd2 _ (fwd1 _ hk)⟩
      · rintro ⟨x, y, hx, hy, hk⟩
        have hkk : ((1, b', (x : Int)) : Ky) ≠ (1, b, (i : Int)) := by
          intro hh
          simp only [Prod.mk.injEq, true_and] at hh
          obtain ⟨rfl, hxi⟩ := hh
          have hxi : x = i := by omega
          subst hxi
          rw [r1] at hx
          obtain rfl := Option.some.inj hx
          rw [r2, p4] at hy
          simp only [Prod.mk.injEq, true_and, and_true] at hy
          exact hab ⟨hy, rfl⟩
        have hk0 := back1 _ (by simp) (back2 _ hkk hk)
        obtain ⟨u, v, hu, hv⟩ := id hk0
        have hvp : v.parent = x := by simp only [Ent.key, Prod.mk.injEq] at hv; exact hv.2.2
        rcases hw.par u v hu (by rw [regNone]; unfold liveAt; rw [hu]; exact h.all u v hu) with hp | ⟨p, q, hp, hq, _⟩
        · omega
        · have : p = x := by omega
          subst this
          obtain ⟨y1, g1, g2⟩ := p5 p q hq
          obtain ⟨y2, g3, g4⟩ := q5 p y1 g1
          rw [hx] at g3
          obtain rfl := Option.some.inj g3
          exact ⟨p, q, hq, by rw [← g2, ← g4, hy], hk0⟩
  · unfold wayA
    rw [if_neg (by rw [hasB_of q3 (q2 j ej q3)]; simp), upA_step hw2 q3 (q2 j ej q3), hkj.2.2, if_neg (by omega), upA_step hw2 r1 (q2 i ei2 r1), hki.2.2, if_pos rfl, hkj.1, hkj.2.1, hki.1, hki.2.1]
    rfl
  · have t1 : L1.length = L.length ∨ L1.length = L.length + 1 := by rcases p6 with ⟨t1, _⟩ | ⟨t1, _⟩; exact .inl t1; exact .inr t1
    have t2 : L2.length = L1.length ∨ L2.length = L1.length + 1 := by rcases q6 with ⟨t1, _⟩ | ⟨t1, _⟩; exact .inl t1; exact .inr t1
    by_cases c1 : getM M (a, -1) = some true
    · have := hone.1 c1
      by_cases c2 : getM M (a, b) = some true
      · have := htwo.1 c2
        simp only [if_pos c1, if_pos c2]; omega
      · have : ¬ L2.length = L1.length := fun h => c2 (htwo.2 h)
        simp only [if_pos c1, if_neg c2]; omega
    · have : ¬ L1.length = L.length := fun h => c1 (hone.2 h)
      by_cases c2 : getM M (a, b) = some true
      · have := htwo.1 c2
        simp only [if_neg c1, if_pos c2]; omega
      · have : ¬ L2.length = L1.length := fun h => c2 (htwo.2 h)
        simp only [if_neg c1, if_neg c2]; omega
theorem countP_range_le (f : Nat → Bool) {c n : Nat} (h : c < n) : (List.range c).countP f ≤ ((List.range n).filter f).length := by
  rw [range_split h, List.filter_append, List.length_append, List.countP_eq_length_filter]
  omega
theorem reapF_stop {n : Nat} {L : List Ent} {i : Nat} {e : Ent} (he : L[i]? = some e) (hl : e.live = true) : reapF (n + 1) L i = (0, L) := by
  unfold reapF
  rw [if_neg (by omega), if_pos (by rw [getE_of he]; exact hl)]
theorem reapF_go {n : Nat} {L : List Ent} {i : Nat} {e : Ent} (he : L[i]? = some e) (hl : e.live = false) : reapF (n + 1) L i = ((reapF n (bumpK L e.parent (-1)) e.parent).1 + 1, (reapF n (bumpK L e.parent (-1)) e.parent).2) := by
  conv => lhs; unfold reapF
  rw [if_neg (by omega), if_neg (by rw [getE_of he, hl]; simp), getE_of he]
theorem reapF_le : ∀ (n : Nat) (L : List Ent) (id : Int), (reapF n L id).1 ≤ n
  | 0, L, id => by simp [reapF]
  | n + 1, L, id => by
    unfold reapF
    split
    · simp
    · split
      · simp
      · have := reapF_le n (bumpK L (getE L id).parent (-1)) (getE L id).parent
        simp only; omega
theorem reapF_end (n : Nat) (L : List Ent) : reapF n L (-1) = (0, L) := by
  cases n <;> simp [reapF]
end Go.Bu

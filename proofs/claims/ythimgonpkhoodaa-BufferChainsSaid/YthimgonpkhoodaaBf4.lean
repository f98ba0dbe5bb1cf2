/- The buffer, plainly: what calls answer. Own work. -/
import Derived.Test.YthimgonpkhoodaaBf3
namespace Go.Bu
open Go Go.Sy
set_option linter.unusedVariables false
set_option linter.unusedSimpArgs false
def findB (L : List Ent) (k : Ky) : Option Nat := (List.range L.length).find? fun j => liveAt L j && decide ((L[j]?).map Ent.key = some k)
theorem regNone (L : List Ent) (j : Nat) : regAt L none j = liveAt L j := by unfold regAt; simp
theorem findB_some {L : List Ent} {k : Ky} {i : Nat} (h : findB L k = some i) : ∃ e, L[i]? = some e ∧ e.live = true ∧ e.key = k := by
  have := List.find?_some h
  rw [Bool.and_eq_true] at this
  obtain ⟨h1, h2⟩ := this
  unfold liveAt at h1
  cases he : L[i]? with
  | none => rw [he] at h1; cases h1
  | some e =>
    rw [he] at h1 h2
    exact ⟨e, rfl, h1, by simpa using h2⟩
theorem findB_none {L : List Ent} {k : Ky} (h : findB L k = none) : ∀ (i : Nat) (e : Ent), L[i]? = some e → e.live = true → e.key ≠ k := by
  intro i e he hl hk
  have := List.find?_eq_none.1 h i (List.mem_range.2 (List.getElem?_eq_some_iff.1 he).1)
  simp [liveAt, he, hl, hk] at this
theorem find_eq {M : List (Ky × Int)} {L : List Ent} {N : Nat} (h : WF L none N) (hm : MapOk M L none) (k : Ky) : getM M k = (findB L k).map fun i : Nat => (i : Int) := by
  cases hf : findB L k with
  | some i =>
    obtain ⟨e, h1, h2, h3⟩ := findB_some hf
    exact (hm.get k i).2 ⟨i, e, rfl, h1, h3, by rw [regNone]; unfold liveAt; rw [h1]; exact h2⟩
  | none =>
    cases hg : getM M k with
    | none => rfl
    | some v =>
      obtain ⟨j, e, _, h2, h3, h4⟩ := (hm.get k v).1 hg
      rw [regNone] at h4
      unfold liveAt at h4
      rw [h2] at h4
      exact absurd h3 (findB_none hf j e h2 h4)
def putA (L : List Ent) (s p r : Int) : (Int × Int) × List Ent :=
  if s < 0 ∨ 8 ≤ s ∨ p < 0 ∨ 1073741824 < p then ((0, 1), L)
  else if r ≠ -1 ∧ hasB L r = false then ((0, 160), L)
  else if r ≠ -1 ∧ (s < (getE L r).stage ∨ p ≤ (getE L r).place) then ((0, 1), L)
  else match findB L (s, p, r) with
    | some i => ((i, 0), bumpH L i 1)
    | none => if 4096 ≤ lenR L none then ((0, 2), L) else ((freeF L, 0), bumpK (setE L (freeF L) ⟨s, p, r, 1, 0⟩) r 1)
def holdA (L : List Ent) (id : Int) : Int × List Ent := if hasB L id = false then (160, L) else (0, bumpH L id.toNat 1)
def reapF : Nat → List Ent → Int → Nat × List Ent
  | 0, L, _ => (0, L)
  | n + 1, L, id => if id = -1 then (0, L) else if (getE L id).live = true then (0, L) else
    ((reapF n (bumpK L (getE L id).parent (-1)) (getE L id).parent).1 + 1, (reapF n (bumpK L (getE L id).parent (-1)) (getE L id).parent).2)
def dropA (L : List Ent) (id : Int) : (Int × Int) × List Ent :=
  if hasB L id = false then ((0, 160), L) else if (getE L id).held = 0 then ((0, 1), L) else
    (((reapF ((getE L id).place + 2).toNat (bumpH L id.toNat (-1)) id).1, 0), (reapF ((getE L id).place + 2).toNat (bumpH L id.toNat (-1)) id).2)
def upF : Nat → List Ent → Int → List (Int × Int)
  | 0, _, _ => []
  | n + 1, L, id => if id = -1 then [] else ((getE L id).stage, (getE L id).place) :: upF n L (getE L id).parent
def upA (L : List Ent) (id : Int) : List (Int × Int) := upF ((getE L id).place + 2).toNat L id
def wayA (L : List Ent) (id : Int) : List (Int × Int) × Int := if hasB L id = false then ([], 160) else ((upA L id).reverse, 0)
def countA (L : List Ent) (id : Int) : Int × Int := if hasB L id = false then (0, 160) else ((getE L id).held + (getE L id).kids, 0)
/-- A way is told with whatever is enough. -/
theorem upF_more {L : List Ent} {N : Nat} (h : WF L none N) : ∀ (n m : Nat) (id : Int), (id = -1 ∨ ∃ (i : Nat) (e : Ent), id = i ∧ L[i]? = some e ∧ e.live = true ∧ (e.place + 2).toNat ≤ n ∧ (e.place + 2).toNat ≤ m) → upF n L id = upF m L id
  | 0, m, id, hh => by
    rcases hh with rfl | ⟨i, e, rfl, h2, h3, h4, h5⟩
    · cases m <;> simp [upF]
    · have := h.rng i e h2 (by rw [regNone]; unfold liveAt; rw [h2]; exact h3)
      omega
  | n + 1, 0, id, hh => by
    rcases hh with rfl | ⟨i, e, rfl, h2, h3, h4, h5⟩
    · simp [upF]
    · have := h.rng i e h2 (by rw [regNone]; unfold liveAt; rw [h2]; exact h3)
      omega
  | n + 1, m + 1, id, hh => by
    unfold upF
    rcases hh with rfl | ⟨i, e, rfl, h2, h3, h4, h5⟩
    · simp
    · have hr : regAt L none i = true := by rw [regNone]; unfold liveAt; rw [h2]; exact h3
      have hg := h.rng i e h2 hr
      have hp := h.par i e h2 hr
      rw [if_neg (by omega), if_neg (by omega), getE_of h2]
      congr 1
      refine upF_more h n m _ ?_
      rcases hp with hp | ⟨p, q, hp, hq, hpl⟩
      · exact .inl hp
      · have hql := (h.parReg h2 hr hp hq).1
        have := h.rng p q hq (by rw [regNone]; unfold liveAt; rw [hq]; exact hql)
        exact .inr ⟨p, q, hp, hq, hql, by omega, by omega⟩
theorem upA_step {L : List Ent} {N i : Nat} {e : Ent} (h : WF L none N) (he : L[i]? = some e) (hl : e.live = true) : upA L i = (e.stage, e.place) :: (if e.parent = -1 then [] else upA L e.parent) := by
  have hr : regAt L none i = true := by rw [regNone]; unfold liveAt; rw [he]; exact hl
  have hg := h.rng i e he hr
  have hp := h.par i e he hr
  unfold upA
  rw [getE_of he]
  obtain ⟨n, hn⟩ : ∃ n, (e.place + 2).toNat = n + 1 := ⟨(e.place + 1).toNat, by omega⟩
  rw [hn]
  conv => lhs; unfold upF
  rw [if_neg (by omega), getE_of he]
  congr 1
  rcases hp with hp | ⟨p, q, hp, hq, hpl⟩
  · rw [if_pos hp, hp]; cases n <;> simp [upF]
  · have hql := (h.parReg he hr hp hq).1
    have := h.rng p q hq (by rw [regNone]; unfold liveAt; rw [hq]; exact hql)
    rw [if_neg (by omega), hp, getE_of hq]
    exact upF_more h _ _ _ (.inr ⟨p, q, rfl, hq, hql, by omega, by omega⟩)
theorem upF_len : ∀ (n : Nat) (L : List Ent) (id : Int), (upF n L id).length ≤ n
  | 0, L, id => by simp [upF]
  | n + 1, L, id => by
    unfold upF
    split
    · simp
    · have := upF_len n L (getE L id).parent
      simp only [List.length_cons]; omega
end Go.Bu

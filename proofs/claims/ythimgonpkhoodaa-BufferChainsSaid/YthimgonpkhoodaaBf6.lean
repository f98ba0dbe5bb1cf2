/- The buffer, plainly: full. Own work. -/
import Derived.Test.YthimgonpkhoodaaBf5
namespace Go.Bu
open Go Go.Sy
set_option linter.unusedVariables false
set_option linter.unusedSimpArgs false
def full (s : Int) (n : Nat) : List Ent := (List.range n).map fun j : Nat => ⟨s, j, -1, 1, 0⟩
theorem full_len (s : Int) (n : Nat) : (full s n).length = n := by simp [full]
theorem full_get {s : Int} {n j : Nat} {e : Ent} (h : (full s n)[j]? = some e) : j < n ∧ e = ⟨s, j, -1, 1, 0⟩ := by
  unfold full at h
  rw [List.getElem?_map] at h
  cases hr : (List.range n)[j]? with
  | none => rw [hr] at h; cases h
  | some i =>
    rw [hr] at h
    obtain ⟨hj, hi⟩ := List.getElem?_eq_some_iff.1 hr
    rw [List.length_range] at hj
    rw [List.getElem_range] at hi
    subst hi
    exact ⟨hj, (Option.some.inj h).symm⟩
theorem full_at {s : Int} {n j : Nat} (h : j < n) : (full s n)[j]? = some ⟨s, j, -1, 1, 0⟩ := by
  unfold full
  rw [List.getElem?_map, List.getElem?_range h]; rfl
theorem full_live (s : Int) (n : Nat) : allLive (full s n) := fun i e he => by
  obtain ⟨_, rfl⟩ := full_get he
  simp [Ent.live]
theorem findB_no {L : List Ent} {k : Ky} (h : ∀ (i : Nat) (e : Ent), L[i]? = some e → e.key ≠ k) : findB L k = none := by
  cases hf : findB L k with
  | none => rfl
  | some i =>
    obtain ⟨e, h1, _, h3⟩ := findB_some hf
    exact absurd h3 (h i e h1)
theorem full_put {s : Int} {n : Nat} (hs : 0 ≤ s ∧ s < 8) (hn : n < 4096) : putA (full s n) s n (-1) = (((n : Int), 0), full s (n + 1)) := by
  unfold putA
  rw [if_neg (by omega), if_neg (by simp), if_neg (by simp), findB_no (fun i e he => by
    obtain ⟨hi, rfl⟩ := full_get he
    simp only [Ent.key, ne_eq, Prod.mk.injEq, true_and, and_true]
    omega), allLive_len (full_live s n), full_len]
  dsimp only
  have hff : freeF (full s n) = n := by unfold freeF; rw [allLive_free (full_live s n), full_len]; rfl
  rw [if_neg (by omega), hff]
  unfold bumpK setE
  rw [if_pos rfl, full_len, if_neg (Nat.lt_irrefl n)]
  congr 1
  unfold full
  rw [List.range_succ, List.map_append]; rfl
theorem full_no {s : Int} {n : Nat} (hs : 0 ≤ s ∧ s < 8) (hn : n = 4096) : putA (full s n) s n (-1) = ((0, 2), full s n) := by
  unfold putA
  rw [if_neg (by omega), if_neg (by simp), if_neg (by simp), findB_no (fun i e he => by
    obtain ⟨hi, rfl⟩ := full_get he
    simp only [Ent.key, ne_eq, Prod.mk.injEq, true_and, and_true]
    omega), allLive_len (full_live s n), full_len]
  dsimp only
  rw [if_pos (by omega)]
theorem full_again {s : Int} {n : Nat} (hs : 0 ≤ s ∧ s < 8) (hn : 10 < n) : putA (full s n) s 7 (-1) = ((7, 0), bumpH (full s n) 7 1) := by
  unfold putA
  rw [if_neg (by omega), if_neg (by simp), if_neg (by simp)]
  cases hf : findB (full s n) (s, 7, -1) with
  | none => exact absurd (rfl : (⟨s, (7 : Nat), -1, 1, 0⟩ : Ent).key = (s, 7, -1)) (findB_none hf 7 _ (full_at (by omega)) (by simp [Ent.live]))
  | some i =>
    obtain ⟨e, h1, _, h3⟩ := findB_some hf
    obtain ⟨hi, rfl⟩ := full_get h1
    simp only [Ent.key, Prod.mk.injEq, true_and, and_true] at h3
    have : i = 7 := by omega
    subst this
    rfl
theorem bumpH_get (L : List Ent) (i : Nat) (d : Int) (j : Nat) : (bumpH L i d)[j]? = (L[j]?).map fun q => if i = j then { q with held := q.held + d } else q := by
  unfold bumpH
  rw [List.getElem?_modify]
  cases L[j]? with
  | none => rfl
  | some q => rfl
def full7 (s : Int) (n : Nat) : List Ent := bumpH (full s n) 7 1
def full5 (s : Int) (n : Nat) : List Ent := bumpH (full7 s n) 5 (-1)
theorem full7_at5 (s : Int) {n : Nat} (hn : 10 < n) : (full7 s n)[5]? = some ⟨s, 5, -1, 1, 0⟩ := by
  unfold full7
  rw [bumpH_get, full_at (by omega)]; rfl
theorem full5_at5 (s : Int) {n : Nat} (hn : 10 < n) : (full5 s n)[5]? = some ⟨s, 5, -1, 0, 0⟩ := by
  unfold full5
  rw [bumpH_get, full7_at5 s hn]; rfl
theorem full7_live (s : Int) (n : Nat) : allLive (full7 s n) := fun i e he => by
  unfold full7 at he
  rw [bumpH_get] at he
  cases hq : (full s n)[i]? with
  | none => rw [hq] at he; cases he
  | some q =>
    rw [hq] at he
    obtain ⟨_, rfl⟩ := full_get hq
    simp only [Option.map_some, Option.some.injEq] at he
    subst he
    split <;> simp [Ent.live]
theorem full_reap {s : Int} {n : Nat} (hn : 10 < n) : reapF 7 (full5 s n) 5 = (1, full5 s n) := by
  have h := reapF_go (n := 6) (full5_at5 s hn) (by simp [Ent.live])
  have hb : bumpK (full5 s n) (-1) (-1) = full5 s n := if_pos rfl
  rw [show (⟨s, 5, -1, 0, 0⟩ : Ent).parent = -1 from rfl, hb, reapF_end] at h
  exact h
theorem full_drop {s : Int} {n : Nat} (hn : 10 < n) : dropA (full7 s n) 5 = ((1, 0), full5 s n) := by
  have h5 : getE (full7 s n) 5 = ⟨s, 5, -1, 1, 0⟩ := getE_of (i := 5) (full7_at5 s hn)
  have hh : hasB (full7 s n) 5 = true := hasB_of (i := 5) (full7_at5 s hn) (by simp [Ent.live])
  unfold dropA
  rw [if_neg (by rw [hh]; simp), h5, if_neg (by simp)]
  have e1 : (((⟨s, 5, -1, 1, 0⟩ : Ent).place + 2).toNat) = 7 := rfl
  have e2 : bumpH (full7 s n) (Int.toNat 5) (-1) = full5 s n := rfl
  rw [e1, e2, full_reap hn]; rfl
theorem full_last {s : Int} {n N : Nat} (hs : 0 ≤ s ∧ s < 8) (hn : n = 4096) (h7 : WF (full7 s n) none N) (h5 : WF (full5 s n) none N) : ∃ L', putA (full5 s n) s n (-1) = ((5, 0), L') := by
  have h10 : 10 < n := by omega
  have hreg : regAt (full7 s n) none 5 = true := by rw [regNone]; unfold liveAt; rw [full7_at5 s h10]; simp [Ent.live]
  obtain ⟨a, b, c, d, e⟩ := h7.bump (i := 5) (d := -1) (cur' := some 5) (N' := N) (full7_at5 s h10) ⟨by simp, by simp⟩ (Nat.le_refl _) (fun j hj => (Option.some.inj hj).symm) (by simp) hreg (.inr rfl)
  have hf0 : freeR (bumpH (full7 s n) 5 (-1)) (some 5) = [] := by rw [c]; exact allLive_free (full7_live s n)
  obtain ⟨a2, b2, c2, d2, e2⟩ := a.reap (full5_at5 s h10) (by simp [Ent.live])
  have hk : bumpK (bumpH (full7 s n) 5 (-1)) (⟨s, 5, -1, 0, 0⟩ : Ent).parent (-1) = full5 s n := if_pos rfl
  have hc : curOf (⟨s, 5, -1, 0, 0⟩ : Ent).parent = none := if_pos rfl
  rw [hk, hc] at c2 b2
  rw [hf0, List.take_nil, List.drop_nil] at c2
  rw [b, allLive_len (full7_live s n)] at b2
  have hl7 : (full7 s n).length = n := by unfold full7 bumpH; simp [full_len]
  unfold putA
  rw [if_neg (by omega), if_neg (by simp), if_neg (by simp), findB_no (fun i q hq => by
    unfold full5 at hq
    rw [bumpH_get] at hq
    cases hx : (full7 s n)[i]? with
    | none => rw [hx] at hq; cases hq
    | some x =>
      rw [hx] at hq
      unfold full7 at hx
      rw [bumpH_get] at hx
      cases hy : (full s n)[i]? with
      | none => rw [hy] at hx; cases hx
      | some y =>
        rw [hy] at hx
        obtain ⟨hi, rfl⟩ := full_get hy
        simp only [Option.map_some, Option.some.injEq] at hx hq
        subst hx
        subst hq
        split <;> split <;> simp only [Ent.key, ne_eq, Prod.mk.injEq, true_and, and_true] <;> omega)]
  dsimp only
  rw [if_neg (by omega)]
  have hff : freeF (full5 s n) = 5 := by unfold freeF; rw [c2]; rfl
  rw [hff]
  exact ⟨_, rfl⟩
end Go.Bu

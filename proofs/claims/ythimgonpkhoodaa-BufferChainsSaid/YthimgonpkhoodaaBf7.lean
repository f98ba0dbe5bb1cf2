/- The buffer, plainly: a chain. Own work. -/
import Derived.Test.YthimgonpkhoodaaBf6
namespace Go.Bu
open Go Go.Sy
set_option linter.unusedVariables false
set_option linter.unusedSimpArgs false
def wS (W : List (Int × Int)) (j : Nat) : Int := (W.getD j (0, 0)).1
def wP (W : List (Int × Int)) (j : Nat) : Int := (W.getD j (0, 0)).2
def chE (W : List (Int × Int)) (d k : Nat) : List Ent := (List.range W.length).map fun j : Nat => ⟨wS W j, wP W j, (j : Int) - 1, if d ≤ j then 1 else 0, if j < k then 1 else 0⟩
theorem chE_len (W : List (Int × Int)) (d k : Nat) : (chE W d k).length = W.length := by simp [chE]
theorem chE_at {W : List (Int × Int)} {d k j : Nat} (h : j < W.length) : (chE W d k)[j]? = some ⟨wS W j, wP W j, (j : Int) - 1, if d ≤ j then 1 else 0, if j < k then 1 else 0⟩ := by
  unfold chE
  rw [List.getElem?_map, List.getElem?_range h]; rfl
theorem chE_get {W : List (Int × Int)} {d k j : Nat} {e : Ent} (h : (chE W d k)[j]? = some e) : j < W.length ∧ e = ⟨wS W j, wP W j, (j : Int) - 1, if d ≤ j then 1 else 0, if j < k then 1 else 0⟩ := by
  have hj := (List.getElem?_eq_some_iff.1 h).1
  rw [chE_len] at hj
  rw [chE_at hj] at h
  exact ⟨hj, (Option.some.inj h).symm⟩
/-- Places rise. -/
def rising (W : List (Int × Int)) : Prop := ∀ i j, i < j → j < W.length → wP W i < wP W j
theorem chE_live {W : List (Int × Int)} {d : Nat} (h : d + 1 ≤ W.length) : allLive (chE W d (W.length - 1)) := fun i e he => by
  obtain ⟨hi, rfl⟩ := chE_get he
  unfold Ent.live
  simp only [decide_eq_true_eq]
  split <;> split <;> omega
theorem chE_live0 {W : List (Int × Int)} : allLive (chE W 0 (W.length - 1)) := fun i e he => by
  obtain ⟨hi, rfl⟩ := chE_get he
  unfold Ent.live
  simp only [decide_eq_true_eq, Nat.zero_le, if_true]
  split <;> omega
theorem chE_put {W : List (Int × Int)} {N : Nat} {s p : Int} (hw : WF (chE W 0 (W.length - 1)) none N) (hs : 0 ≤ s ∧ s < 8 ∧ 0 ≤ p ∧ p ≤ 1073741824) (hl : W.length < 4096) (hlast : ∀ j, j < W.length → wP W j < p ∧ wS W j ≤ s) :
    putA (chE W 0 (W.length - 1)) s p ((W.length : Int) - 1) = (((W.length : Int), 0), chE (W ++ [(s, p)]) 0 W.length) := by
  have hall := chE_live0 (W := W)
  have hrr : ((W.length : Int) - 1) = -1 ∨ ∃ (q : Nat) (e : Ent), ((W.length : Int) - 1) = q ∧ (chE W 0 (W.length - 1))[q]? = some e ∧ e.live = true ∧ e.place < p := by
    by_cases h0 : W.length = 0
    · left; omega
    · right
      have hq : W.length - 1 < W.length := by omega
      exact ⟨W.length - 1, _, by omega, chE_at hq, hall _ _ (chE_at hq), (hlast _ hq).1⟩
  have hno : ∀ (i : Nat) (e : Ent), (chE W 0 (W.length - 1))[i]? = some e → e.key ≠ (s, p, (W.length : Int) - 1) := fun i e he => by
    obtain ⟨hi, rfl⟩ := chE_get he
    have := (hlast i hi).1
    simp only [Ent.key, ne_eq, Prod.mk.injEq]
    omega
  unfold putA
  rw [if_neg (by omega)]
  have hc1 : ¬ ((W.length : Int) - 1 ≠ -1 ∧ hasB (chE W 0 (W.length - 1)) ((W.length : Int) - 1) = false) := by
    rintro ⟨h1, h2⟩
    rcases hrr with h | ⟨q, e, h3, h4, h5, _⟩
    · exact h1 h
    · rw [h3, hasB_of h4 h5] at h2; cases h2
  have hc2 : ¬ ((W.length : Int) - 1 ≠ -1 ∧ (s < (getE (chE W 0 (W.length - 1)) ((W.length : Int) - 1)).stage ∨ p ≤ (getE (chE W 0 (W.length - 1)) ((W.length : Int) - 1)).place)) := by
    rintro ⟨h1, h2⟩
    have hq : W.length - 1 < W.length := by omega
    have e1 : (W.length : Int) - 1 = ((W.length - 1 : Nat) : Int) := by omega
    rw [e1, getE_of (chE_at hq)] at h2
    have := hlast _ hq
    simp only at h2
    omega
  rw [if_neg hc1, if_neg hc2, findB_no hno, allLive_len hall, chE_len]
  dsimp only
  rw [if_neg (by omega)]
  have hff : freeF (chE W 0 (W.length - 1)) = W.length := by unfold freeF; rw [allLive_free hall, chE_len]; rfl
  obtain ⟨_, _, _, hget, _, _⟩ := hw.put (r := (W.length : Int) - 1) hs (by rw [allLive_len hall, chE_len]; exact hl) hrr (fun i e he _ => hno i e he)
  rw [hff] at hget ⊢
  congr 1
  apply List.ext_getElem?
  intro j
  rw [hget]
  have hapS : ∀ i, i < W.length → wS (W ++ [(s, p)]) i = wS W i ∧ wP (W ++ [(s, p)]) i = wP W i := fun i hi => by
    unfold wS wP
    rw [List.getD_eq_getElem?_getD, List.getD_eq_getElem?_getD, List.getElem?_append_left hi]
    exact ⟨rfl, rfl⟩
  have hlast2 : wS (W ++ [(s, p)]) W.length = s ∧ wP (W ++ [(s, p)]) W.length = p := by
    unfold wS wP
    rw [List.getD_eq_getElem?_getD, List.getElem?_append_right (Nat.le_refl _), Nat.sub_self]
    exact ⟨rfl, rfl⟩
  by_cases hj : j = W.length
  · subst hj
    rw [if_pos rfl, chE_at (by simp), hlast2.1, hlast2.2]
    simp
  · rw [if_neg hj]
    by_cases hj2 : j < W.length
    · rw [chE_at hj2, chE_at (by simp; omega), (hapS j hj2).1, (hapS j hj2).2]
      simp only [Option.map_some, Nat.zero_le, if_true]
      by_cases hj3 : (W.length : Int) - 1 = (j : Int)
      · rw [if_pos hj3, if_neg (by omega), if_pos hj2]; rfl
      · rw [if_neg hj3, if_pos (by omega), if_pos hj2]
    · rw [List.getElem?_eq_none (by rw [chE_len]; omega), List.getElem?_eq_none (by rw [chE_len]; simp; omega)]; rfl
theorem ite01 {p q : Prop} [Decidable p] [Decidable q] (h : p ↔ q) : (if p then (1 : Int) else 0) = if q then 1 else 0 := by
  by_cases hp : p
  · rw [if_pos hp, if_pos (h.1 hp)]
  · rw [if_neg hp, if_neg (fun hq => hp (h.2 hq))]
theorem chE_bump {W : List (Int × Int)} {j k : Nat} (hj : j < W.length) : bumpH (chE W j k) j (-1) = chE W (j + 1) k := by
  apply List.ext_getElem?
  intro i
  rw [bumpH_get]
  by_cases hi : i < W.length
  · rw [chE_at hi, chE_at hi]
    simp only [Option.map_some]
    by_cases hij : j = i
    · subst hij
      have a : (if j ≤ j then (1 : Int) else 0) = 1 := if_pos (Nat.le_refl _)
      have b : (if j + 1 ≤ j then (1 : Int) else 0) = 0 := if_neg (by omega)
      rw [if_pos (rfl : j = j), a, b]; rfl
    · have a : (if j ≤ i then (1 : Int) else 0) = if j + 1 ≤ i then (1 : Int) else 0 := ite01 (by omega)
      rw [if_neg hij, a]
  · rw [List.getElem?_eq_none (by rw [chE_len]; omega), List.getElem?_eq_none (by rw [chE_len]; omega)]; rfl
theorem chE_drop {W : List (Int × Int)} {j : Nat} (hj : j + 1 < W.length) (hp : 0 ≤ wP W j) : dropA (chE W j (W.length - 1)) j = ((0, 0), chE W (j + 1) (W.length - 1)) := by
  have hjl : j < W.length := by omega
  have hat := chE_at (d := j) (k := W.length - 1) hjl
  have hlv := chE_live (W := W) (d := j) (by omega) j _ hat
  unfold dropA
  rw [if_neg (by rw [hasB_of hat hlv]; simp), getE_of hat, if_neg (by simp), Int.toNat_natCast, chE_bump hjl]
  have hat2 := chE_at (d := j + 1) (k := W.length - 1) hjl
  obtain ⟨n, hn⟩ : ∃ n, (wP W j + 2).toNat = n + 1 := ⟨(wP W j + 1).toNat, by omega⟩
  dsimp only
  rw [hn, reapF_stop hat2 (by unfold Ent.live; simp only [decide_eq_true_eq]; rw [if_neg (by omega), if_pos (by omega)]; omega)]
  rfl
theorem chE_kids {W : List (Int × Int)} {d k : Nat} (hk : k + 1 < W.length + 1) (hk0 : 0 < k) : bumpK (chE W d k) ((k : Int) - 1) (-1) = chE W d (k - 1) := by
  have e : (k : Int) - 1 = ((k - 1 : Nat) : Int) := by omega
  rw [e]
  unfold bumpK
  rw [if_neg (by omega), Int.toNat_natCast]
  apply List.ext_getElem?
  intro i
  rw [List.getElem?_modify]
  by_cases hi : i < W.length
  · rw [chE_at hi, chE_at hi]
    simp only [Option.map_eq_map, Option.map_some]
    by_cases hij : k - 1 = i
    · subst hij
      have a : (if k - 1 < k then (1 : Int) else 0) = 1 := if_pos (by omega)
      have b : (if k - 1 < k - 1 then (1 : Int) else 0) = 0 := if_neg (by omega)
      rw [if_pos (rfl : k - 1 = k - 1), a, b]; rfl
    · have a : (if i < k then (1 : Int) else 0) = if i < k - 1 then (1 : Int) else 0 := ite01 (by omega)
      rw [if_neg hij, a]
  · rw [List.getElem?_eq_none (by rw [chE_len]; omega), List.getElem?_eq_none (by rw [chE_len]; omega)]; rfl
theorem chE_reap {W : List (Int × Int)} : ∀ (k F : Nat), k < W.length → k + 1 ≤ F → reapF F (chE W W.length k) k = (k + 1, chE W W.length 0)
  | 0, F, hk, hF => by
    obtain ⟨n, rfl⟩ : ∃ n, F = n + 1 := ⟨F - 1, by omega⟩
    have hat := chE_at (d := W.length) (k := 0) hk
    rw [reapF_go hat (by unfold Ent.live; rw [if_neg (by omega), if_neg (by omega)]; rfl)]
    have hp : ((0 : Nat) : Int) - 1 = -1 := rfl
    dsimp only
    rw [hp, show bumpK (chE W W.length 0) (-1) (-1) = chE W W.length 0 from if_pos rfl, reapF_end]
  | k + 1, F, hk, hF => by
    obtain ⟨n, rfl⟩ : ∃ n, F = n + 1 := ⟨F - 1, by omega⟩
    have hat := chE_at (d := W.length) (k := k + 1) hk
    rw [reapF_go hat (by unfold Ent.live; rw [if_neg (by omega), if_neg (by omega)]; rfl)]
    dsimp only
    rw [chE_kids (by omega) (by omega), show ((k + 1 : Nat) : Int) - 1 = (k : Int) by omega, Nat.add_sub_cancel, chE_reap k n (by omega) (by omega)]
theorem rising_ge {W : List (Int × Int)} (h : rising W) (h0 : 0 < W.length → 0 ≤ wP W 0) : ∀ j, j < W.length → (j : Int) ≤ wP W j
  | 0, hj => by have := h0 hj; omega
  | j + 1, hj => by
    have := rising_ge h h0 j (by omega)
    have := h j (j + 1) (by omega) hj
    omega
theorem chE_last {W : List (Int × Int)} (hr : rising W) (h0 : 0 < W.length → 0 ≤ wP W 0) (hl : 0 < W.length) : dropA (chE W (W.length - 1) (W.length - 1)) ((W.length : Int) - 1) = (((W.length : Int), 0), chE W W.length 0) := by
  have hjl : W.length - 1 < W.length := by omega
  have e : (W.length : Int) - 1 = ((W.length - 1 : Nat) : Int) := by omega
  have hat := chE_at (d := W.length - 1) (k := W.length - 1) hjl
  have hlv := chE_live (W := W) (d := W.length - 1) (by omega) _ _ hat
  have hge := rising_ge hr h0 _ hjl
  unfold dropA
  rw [e, if_neg (by rw [hasB_of hat hlv]; simp), getE_of hat, if_neg (by simp), Int.toNat_natCast, chE_bump hjl, show W.length - 1 + 1 = W.length by omega]
  dsimp only
  rw [chE_reap (W.length - 1) _ hjl (by omega)]
  simp only [Prod.mk.injEq, and_true]
  omega
theorem chE_up {W : List (Int × Int)} {d k N : Nat} (hw : WF (chE W d k) none N) (hall : allLive (chE W d k)) : ∀ j, j < W.length → upA (chE W d k) j = (W.take (j + 1)).reverse
  | 0, hj => by
    have hat := chE_at (d := d) (k := k) hj
    rw [upA_step hw hat (hall 0 _ hat), if_pos (show ((0 : Nat) : Int) - 1 = -1 from rfl)]
    have : W.take 1 = [(wS W 0, wP W 0)] := by
      cases W with
      | nil => simp at hj
      | cons a l => rfl
    rw [this]; rfl
  | j + 1, hj => by
    have hat := chE_at (d := d) (k := k) hj
    rw [upA_step hw hat (hall _ _ hat), if_neg (show ¬ ((j + 1 : Nat) : Int) - 1 = -1 by omega), show ((j + 1 : Nat) : Int) - 1 = (j : Int) by omega, chE_up hw hall j (by omega), List.take_add_one (i := j + 1)]
    have : W[j + 1]? = some (wS W (j + 1), wP W (j + 1)) := by
      unfold wS wP
      rw [List.getD_eq_getElem?_getD, List.getElem?_eq_getElem hj]; rfl
    rw [this]
    simp
theorem chE_way {W : List (Int × Int)} {N : Nat} (hl : 0 < W.length) (hw : WF (chE W (W.length - 1) (W.length - 1)) none N) : wayA (chE W (W.length - 1) (W.length - 1)) ((W.length : Int) - 1) = (W, 0) := by
  have hjl : W.length - 1 < W.length := by omega
  have e : (W.length : Int) - 1 = ((W.length - 1 : Nat) : Int) := by omega
  have hall := chE_live (W := W) (d := W.length - 1) (by omega)
  have hat := chE_at (d := W.length - 1) (k := W.length - 1) hjl
  unfold wayA
  rw [e, if_neg (by rw [hasB_of hat (hall _ _ hat)]; simp), chE_up hw hall _ hjl, show W.length - 1 + 1 = W.length by omega, List.take_length, List.reverse_reverse]
theorem chE_none {W : List (Int × Int)} : lenR (chE W W.length 0) none = 0 := by
  unfold lenR
  rw [List.countP_eq_zero]
  intro j hj
  have hj := List.mem_range.1 hj
  rw [chE_len] at hj
  rw [regNone]
  unfold liveAt
  rw [chE_at hj]
  simp only [Ent.live]
  rw [if_neg (by omega), if_neg (by omega)]
  simp
end Go.Bu

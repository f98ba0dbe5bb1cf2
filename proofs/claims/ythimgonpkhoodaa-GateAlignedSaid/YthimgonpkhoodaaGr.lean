/- Gates, plainly: fairness. Own work. -/
import Derived.Test.YthimgonpkhoodaaGq
namespace Go.Gp
set_option linter.unusedVariables false
set_option linter.unusedSimpArgs false

theorem find_first {p : Nat → Bool} {n k : Nat} (h : (List.range n).find? p = some k) : k < n ∧ p k = true ∧ ∀ j < k, p j = false := by
  refine ⟨List.mem_range.1 (List.mem_of_find?_eq_some h), List.find?_some h, ?_⟩
  induction n with
  | zero => cases h
  | succ n ih =>
    rw [List.range_succ, List.find?_append] at h
    cases h2 : (List.range n).find? p with
    | some k2 =>
      rw [h2] at h
      cases h
      exact ih h2
    | none =>
      rw [h2] at h
      have hk : k = n := by
        have := List.mem_of_find?_eq_some (show [n].find? p = some k from h)
        simpa using this
      subst hk
      intro j hj
      rw [List.find?_eq_none] at h2
      have := h2 j (List.mem_range.2 hj)
      simpa using this
theorem pull_at {G : AG} (hna : G.cs.all blk = false) {k : Nat} (hl : lookG G = some k) :
    ∃ (c : Nat) (y : Chn), c = (G.turn + k) % G.cs.length ∧ k < G.cs.length ∧ G.cs[c]? = some y ∧ ready y = true ∧ (∀ j < k, ∀ x, G.cs[(G.turn + j) % G.cs.length]? = some x → ready x = false) ∧
      pullA G = (((c : Int), (takeX y).1.1, 0, 0), ⟨G.cs.set c (takeX y).2, (c + 1) % G.cs.length⟩) := by
  have hl2 := hl
  unfold lookG at hl2
  obtain ⟨hk, hr2, hlt⟩ := find_first (p := fun k => ready G.cs[(G.turn + k) % G.cs.length]!) hl2
  have hc : (G.turn + k) % G.cs.length < G.cs.length := Nat.mod_lt _ (by omega)
  have hg := List.getElem?_eq_getElem hc
  rw [bang hg] at hr2
  refine ⟨_, _, rfl, hk, hg, hr2, fun j hj x hx => ?_, ?_⟩
  · have := hlt j hj
    rwa [bang hx] at this
  · unfold pullA
    rw [if_neg (by simp [hna]), hl]
    dsimp only
    rw [bang hg]

def dist (n c t : Nat) : Nat := if t ≤ c then c - t else c + n - t
/-- Texts alone; the channel c has m of them. -/
def okF (G : AG) (c m : Nat) : Prop := (∀ x ∈ G.cs, ∀ it ∈ x.items, it.2 = 0) ∧ ∃ x, G.cs[c]? = some x ∧ x.items.length = m
theorem okF_blk {G : AG} {c m : Nat} (h : okF G c m) : ∀ x ∈ G.cs, blk x = false := by
  intro x hx
  unfold blk
  cases hi : x.items with
  | nil => rfl
  | cons it l => have := h.1 x hx it (by rw [hi]; simp); simp [this]
theorem okF_all {G : AG} {c m : Nat} (h : okF G c m) : G.cs.all blk = false := by
  obtain ⟨x, hx, _⟩ := h.2
  rw [List.all_eq_false]
  exact ⟨x, List.mem_of_getElem? hx, by rw [okF_blk h x (List.mem_of_getElem? hx)]; simp⟩
theorem fair_pull {G : AG} {c m : Nat} (h : okF G c (m + 1)) (ht : G.turn < G.cs.length) :
    ∃ (c' : Nat) (tx : Txt) (G' : AG), pullA G = (((c' : Int), tx, 0, 0), G') ∧ G'.cs.length = G.cs.length ∧
      ((c' = c ∧ okF G' c m) ∨ (c' ≠ c ∧ okF G' c (m + 1) ∧ dist G.cs.length c G'.turn < dist G.cs.length c G.turn)) := by
  obtain ⟨x, hx, hm⟩ := h.2
  have hcl := (List.getElem?_eq_some_iff.1 hx).1
  have hxr : ready x = true := by
    unfold ready; rw [okF_blk h x (List.mem_of_getElem? hx)]
    simp; omega
  cases hl : lookG G with
  | none =>
    exfalso
    obtain ⟨_, _, _, _, hp⟩ := pull_some (okF_all h) hx hxr ht
    unfold pullA at hp
    rw [if_neg (by simp [okF_all h]), hl] at hp
    have := congrArg (fun r => r.1.2.2.2) hp
    cases this
  | some k =>
    obtain ⟨c', y, hc', hk, hy, hyr, hlt, hp⟩ := pull_at (okF_all h) hl
    have hkd : k ≤ dist G.cs.length c G.turn := by
      by_cases e : k ≤ dist G.cs.length c G.turn
      · exact e
      · exfalso
        have := hlt (dist G.cs.length c G.turn) (by omega) x (by
          rw [← hx]
          congr 1
          unfold dist
          rw [mod2 (by split <;> omega) (by omega)]
          split <;> split <;> omega)
        rw [hxr] at this; cases this
    have hcv : c' = if G.turn + k < G.cs.length then G.turn + k else G.turn + k - G.cs.length := by rw [hc']; exact mod2 (by omega) (by omega)
    have hyl := (List.getElem?_eq_some_iff.1 hy).1
    have hyi : ∃ it l, y.items = it :: l := by
      cases hi : y.items with
      | nil => unfold ready at hyr; rw [hi] at hyr; cases hyr
      | cons it l => exact ⟨it, l, rfl⟩
    obtain ⟨it, l, hyi⟩ := hyi
    have htk : takeX y = (it, { y with items := l, free := y.free + 1 }) := by unfold takeX; rw [hyi]
    have h0 : ∀ z ∈ G.cs.set c' (takeX y).2, ∀ it ∈ z.items, it.2 = 0 := by
      intro z hz jt hjt
      rcases List.mem_or_eq_of_mem_set hz with hz | rfl
      · exact h.1 z hz jt hjt
      · rw [htk] at hjt
        exact h.1 y (List.mem_of_getElem? hy) jt (by rw [hyi]; exact List.mem_cons_of_mem _ hjt)
    refine ⟨c', _, _, hp, by simp, ?_⟩
    by_cases e : c' = c
    · refine .inl ⟨e, h0, ?_⟩
      subst e
      rw [hx] at hy
      obtain rfl := Option.some.inj hy
      refine ⟨_, List.getElem?_set_self hyl, ?_⟩
      rw [htk]
      rw [hyi] at hm
      simpa using hm
    · refine .inr ⟨e, ⟨h0, x, ?_, hm⟩, ?_⟩
      · dsimp only
        rw [List.getElem?_set_ne e]; exact hx
      · dsimp only
        have hne : k ≠ dist G.cs.length c G.turn := by
          intro hh
          apply e
          rw [hcv, hh]
          unfold dist
          split <;> split <;> omega
        have h1 : (c' + 1) % G.cs.length = if c' + 1 < G.cs.length then c' + 1 else c' + 1 - G.cs.length := mod2 (by omega) (by omega)
        rw [h1]
        revert hkd hne
        rw [hcv]
        unfold dist
        split <;> split <;> split <;> split <;> omega
theorem dist_lt {n c t : Nat} (hc : c < n) (ht : t < n) : dist n c t < n := by
  unfold dist; split <;> omega
end Go.Gp

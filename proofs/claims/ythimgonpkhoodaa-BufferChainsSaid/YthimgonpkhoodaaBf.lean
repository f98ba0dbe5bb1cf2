/- The buffer, plainly: entries, which are there, what is free; put, held, dropped. Own work. -/
import Derived.Test.YthimgonpkhoodaaSyX
namespace Go.Bu
open Go
set_option linter.unusedVariables false
set_option linter.unusedSimpArgs false
structure Ent where
  stage : Int
  place : Int
  parent : Int
  held : Int
  kids : Int
deriving DecidableEq
abbrev Ky := Int × Int × Int
def Ent.key (e : Ent) : Ky := (e.stage, e.place, e.parent)
def Ent.live (e : Ent) : Bool := decide (0 < e.held + e.kids)
def e0 : Ent := ⟨0, 0, 0, 0, 0⟩
def liveAt (L : List Ent) (i : Nat) : Bool := match L[i]? with | some e => e.live | none => false
def parAt (L : List Ent) (i : Nat) : Int := match L[i]? with | some e => e.parent | none => -2
def regAt (L : List Ent) (cur : Option Nat) (i : Nat) : Bool := liveAt L i || decide (cur = some i)
def kidsR (L : List Ent) (cur : Option Nat) (p : Int) : Nat := (List.range L.length).countP fun j => regAt L cur j && decide (parAt L j = p)
def lenR (L : List Ent) (cur : Option Nat) : Nat := (List.range L.length).countP (regAt L cur)
def freeR (L : List Ent) (cur : Option Nat) : List Nat := (List.range L.length).filter fun j => !regAt L cur j
theorem countP_upd {f g : Nat → Bool} {k : Nat} : ∀ {n : Nat}, k < n → (∀ j, j ≠ k → f j = g j) → (List.range n).countP g + (f k).toNat = (List.range n).countP f + (g k).toNat
  | 0, hk, _ => absurd hk (by omega)
  | n + 1, hk, h => by
    rw [List.range_succ, List.countP_append, List.countP_append, List.countP_singleton, List.countP_singleton]
    by_cases hkn : k = n
    · subst hkn
      rw [List.countP_congr (p := g) (q := f) (fun j hj => by rw [h j (by have := List.mem_range.1 hj; omega)])]
      cases f k <;> cases g k <;> simp <;> omega
    · have := countP_upd (f := f) (g := g) (k := k) (n := n) (by omega) h
      rw [h n (by omega)]
      omega
theorem range_split {n k : Nat} (hk : k < n) : List.range n = List.range k ++ k :: (List.range (n - k - 1)).map (fun x => k + 1 + x) := by
  conv => lhs; rw [show n = (k + 1) + (n - k - 1) by omega, List.range_add, List.range_succ]
  simp
/-- One more in order: what is gone goes among those that are free. -/
theorem filter_more {f g : Nat → Bool} {n k : Nat} (hk : k < n) (h : ∀ j, j ≠ k → f j = g j) (hf : f k = false) (hg : g k = true) :
    (List.range n).filter g = ((List.range n).filter f).take ((List.range k).countP f) ++ k :: ((List.range n).filter f).drop ((List.range k).countP f) := by
  rw [range_split hk, List.filter_append, List.filter_append, List.filter_cons_of_pos hg, List.filter_cons_of_neg (by simp [hf]), List.countP_eq_length_filter, List.take_left, List.drop_left]
  rw [List.filter_congr (l := List.range k) (p := g) (q := f) (fun j hj => (h j (by have := List.mem_range.1 hj; omega)).symm),
    List.filter_congr (l := List.map (fun x => k + 1 + x) (List.range (n - k - 1))) (p := g) (q := f) (fun j hj => by
      obtain ⟨x, _, rfl⟩ := List.mem_map.1 hj
      exact (h _ (by omega)).symm)]
/-- One fewer: the first that is free is taken. -/
theorem filter_first {f g : Nat → Bool} {n k : Nat} {l : List Nat} (hl : (List.range n).filter f = k :: l) (h : ∀ j, j ≠ k → f j = g j) (hg : g k = false) : (List.range n).filter g = l := by
  have hmem : k ∈ (List.range n).filter f := by rw [hl]; simp
  obtain ⟨h1, h2⟩ := List.mem_filter.1 hmem
  have hkn := List.mem_range.1 h1
  have hnone : (List.range k).filter f = [] := by
    cases hc : (List.range k).filter f with
    | nil => rfl
    | cons x r =>
      exfalso
      rw [range_split hkn, List.filter_append, hc] at hl
      have hx : x = k := (List.cons.inj hl).1
      have : x ∈ (List.range k).filter f := by rw [hc]; simp
      have := List.mem_range.1 (List.mem_filter.1 this).1
      omega
  have e := filter_more (f := g) (g := f) hkn (fun j hj => (h j hj).symm) hg h2
  have hz : (List.range k).countP g = 0 := by
    rw [List.countP_congr (p := g) (q := f) (fun j hj => by rw [h j (by have := List.mem_range.1 hj; omega)]), List.countP_eq_length_filter, hnone]; rfl
  rw [hz, List.take_zero, List.drop_zero, hl] at e
  exact (List.cons.inj e).2.symm
/-- The order of the free ones: how many are below. -/
theorem free_below (f : Nat → Bool) (n k : Nat) (hk : k < n) (hf : f k = false) : ∀ (j : Nat) (x : Nat), ((List.range n).filter f)[j]? = some x → (j < (List.range k).countP f ↔ x < k) := by
  intro j x hx
  rw [range_split hk, List.filter_append, List.filter_cons_of_neg (by simp [hf])] at hx
  rw [List.countP_eq_length_filter]
  rw [List.getElem?_append] at hx
  split at hx
  · rename_i hj
    have := List.mem_range.1 (List.mem_filter.1 (List.mem_of_getElem? hx)).1
    exact ⟨fun _ => this, fun _ => hj⟩
  · rename_i hj
    obtain ⟨y, _, rfl⟩ := List.mem_map.1 (List.mem_filter.1 (List.mem_of_getElem? hx)).1
    constructor
    · intro h; exact absurd h hj
    · intro h; omega
structure WF (L : List Ent) (cur : Option Nat) (N : Nat) : Prop where
  size : L.length ≤ 4096
  curs : ∀ i, cur = some i → i < L.length
  held : ∀ (i : Nat) e, L[i]? = some e → 0 ≤ e.held ∧ e.held ≤ N
  kids : ∀ (i : Nat) e, L[i]? = some e → e.kids = kidsR L cur i
  rng : ∀ (i : Nat) e, L[i]? = some e → regAt L cur i = true → 0 ≤ e.stage ∧ e.stage < 8 ∧ 0 ≤ e.place ∧ e.place ≤ 1073741824
  par : ∀ (i : Nat) e, L[i]? = some e → regAt L cur i = true → e.parent = -1 ∨ ∃ (p : Nat) (q : Ent), e.parent = p ∧ L[p]? = some q ∧ q.place < e.place
  uniq : ∀ (i j : Nat) e f, L[i]? = some e → L[j]? = some f → regAt L cur i = true → regAt L cur j = true → e.key = f.key → i = j
theorem kidsR_le (L : List Ent) (cur : Option Nat) (p : Int) : kidsR L cur p ≤ L.length := by
  unfold kidsR
  exact Nat.le_trans (List.countP_le_length) (by simp)
theorem WF.nil : WF [] none 0 := ⟨by simp, by simp, by simp, by simp, by simp, by simp, by simp⟩
theorem WF.more {L : List Ent} {cur : Option Nat} {N M : Nat} (h : WF L cur N) (hm : N ≤ M) : WF L cur M :=
  ⟨h.size, h.curs, fun i e he => ⟨(h.held i e he).1, Int.le_trans (h.held i e he).2 (by omega)⟩, h.kids, h.rng, h.par, h.uniq⟩
theorem reg_lt {L : List Ent} {cur : Option Nat} {i : Nat} (hc : ∀ i, cur = some i → i < L.length) (h : regAt L cur i = true) : i < L.length := by
  unfold regAt at h
  rw [Bool.or_eq_true] at h
  rcases h with h | h
  · unfold liveAt at h
    split at h
    · rename_i e he; exact (List.getElem?_eq_some_iff.1 he).1
    · cases h
  · exact hc i (by simpa using h)
/-- The parent of one that is there is there. -/
theorem WF.parReg {L : List Ent} {cur : Option Nat} {N : Nat} (h : WF L cur N) {i p : Nat} {e q : Ent} (he : L[i]? = some e) (hr : regAt L cur i = true) (hp : e.parent = p) (hq : L[p]? = some q) : q.live = true ∧ 1 ≤ q.kids := by
  have hk := h.kids p q hq
  have hh := h.held p q hq
  have : 0 < kidsR L cur p := by
    unfold kidsR
    rw [List.countP_pos_iff]
    have hi := (List.getElem?_eq_some_iff.1 he).1
    exact ⟨i, List.mem_range.2 hi, by rw [hr]; simp [parAt, he, hp]⟩
  refine ⟨?_, by omega⟩
  unfold Ent.live
  simp only [decide_eq_true_eq]
  omega
/-- Nothing is told otherwise but how often one is held. -/
theorem WF.same {L L' : List Ent} {cur cur' : Option Nat} {N N' : Nat} (h : WF L cur N) (hl : L'.length = L.length) (hc : ∀ i, cur' = some i → i < L.length) (hreg : ∀ j, regAt L' cur' j = regAt L cur j)
    (hent : ∀ (j : Nat) e', L'[j]? = some e' → ∃ e, L[j]? = some e ∧ e'.key = e.key ∧ e'.kids = e.kids ∧ 0 ≤ e'.held ∧ e'.held ≤ N') :
    WF L' cur' N' ∧ lenR L' cur' = lenR L cur ∧ freeR L' cur' = freeR L cur := by
  have hpar : ∀ j, parAt L' j = parAt L j := by
    intro j
    unfold parAt
    cases he' : L'[j]? with
    | some e' =>
      obtain ⟨e, h1, h2, _⟩ := hent j e' he'
      rw [h1]
      have := congrArg (fun k : Ky => k.2.2) h2
      exact this
    | none =>
      rw [List.getElem?_eq_none (by have := List.getElem?_eq_none_iff.1 he'; omega)]
  have hkids : ∀ p, kidsR L' cur' p = kidsR L cur p := by
    intro p
    unfold kidsR
    rw [hl]
    congr 1
    funext j
    rw [hreg, hpar]
  refine ⟨⟨by rw [hl]; exact h.size, fun i hi => by rw [hl]; exact hc i hi, fun i e' he' => ?_, fun i e' he' => ?_, fun i e' he' hr => ?_, fun i e' he' hr => ?_, fun i j e' f' he' hf' hi hj hk => ?_⟩, ?_, ?_⟩
  · obtain ⟨e, h1, h2, h3, h4⟩ := hent i e' he'
    exact h4
  · obtain ⟨e, h1, h2, h3, h4⟩ := hent i e' he'
    rw [h3, hkids]; exact h.kids i e h1
  · obtain ⟨e, h1, h2, h3, h4⟩ := hent i e' he'
    rw [hreg] at hr
    have a := congrArg (fun k : Ky => k.1) h2
    have b := congrArg (fun k : Ky => k.2.1) h2
    have := h.rng i e h1 hr
    simp only [Ent.key] at a b
    rw [a, b]; exact this
  · obtain ⟨e, h1, h2, h3, h4⟩ := hent i e' he'
    rw [hreg] at hr
    have b := congrArg (fun k : Ky => k.2.1) h2
    have c := congrArg (fun k : Ky => k.2.2) h2
    simp only [Ent.key] at b c
    rcases h.par i e h1 hr with hp | ⟨p, q, hp, hq, hpl⟩
    · left; rw [c]; exact hp
    · right
      obtain ⟨q', hq'⟩ : ∃ q', L'[p]? = some q' := ⟨_, List.getElem?_eq_getElem (by rw [hl]; exact (List.getElem?_eq_some_iff.1 hq).1)⟩
      obtain ⟨q2, g1, g2, _⟩ := hent p q' hq'
      rw [hq] at g1
      obtain rfl := Option.some.inj g1
      have d := congrArg (fun k : Ky => k.2.1) g2
      simp only [Ent.key] at d
      exact ⟨p, q', by rw [c]; exact hp, hq', by rw [d, b]; exact hpl⟩
  · obtain ⟨e, h1, h2, _⟩ := hent i e' he'
    obtain ⟨f, g1, g2, _⟩ := hent j f' hf'
    rw [hreg] at hi hj
    exact h.uniq i j e f h1 g1 hi hj (by rw [← h2, ← g2]; exact hk)
  · unfold lenR
    rw [hl]
    congr 1
    funext j; exact hreg j
  · unfold freeR
    rw [hl]
    congr 1
    funext j; rw [hreg]
end Go.Bu

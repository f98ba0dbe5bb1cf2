/- The buffer, plainly: put, reaped; the numbers by their keys. Own work. -/
import Derived.Test.YthimgonpkhoodaaBf
namespace Go.Bu
open Go Go.Sy
set_option linter.unusedVariables false
set_option linter.unusedSimpArgs false
def getE (L : List Ent) (i : Int) : Ent := (L[i.toNat]?).getD e0
def hasB (L : List Ent) (id : Int) : Bool := decide (0 ≤ id) && liveAt L id.toNat
def bumpH (L : List Ent) (i : Nat) (d : Int) : List Ent := L.modify i fun e => { e with held := e.held + d }
def bumpK (L : List Ent) (r d : Int) : List Ent := if r = -1 then L else L.modify r.toNat fun e => { e with kids := e.kids + d }
def setE (L : List Ent) (f : Nat) (e : Ent) : List Ent := if f < L.length then L.set f e else L ++ [e]
def freeF (L : List Ent) : Nat := (freeR L none).headD L.length
theorem hasB_some {L : List Ent} {id : Int} (h : hasB L id = true) : ∃ (i : Nat) (e : Ent), id = i ∧ L[i]? = some e ∧ e.live = true ∧ getE L id = e := by
  unfold hasB at h
  rw [Bool.and_eq_true] at h
  obtain ⟨h1, h2⟩ := h
  have h1 : 0 ≤ id := by simpa using h1
  refine ⟨id.toNat, getE L id, by omega, ?_, ?_, rfl⟩
  · unfold liveAt at h2
    unfold getE
    split at h2
    · rename_i e he; rw [he]; rfl
    · cases h2
  · unfold liveAt at h2
    unfold getE
    split at h2
    · rename_i e he; rw [he]; exact h2
    · cases h2
theorem hasB_of {L : List Ent} {i : Nat} {e : Ent} (he : L[i]? = some e) (hl : e.live = true) : hasB L i = true := by
  unfold hasB liveAt
  rw [Int.toNat_natCast, he]
  simp [hl]
theorem getE_of {L : List Ent} {i : Nat} {e : Ent} (he : L[i]? = some e) : getE L i = e := by
  unfold getE
  rw [Int.toNat_natCast, he]; rfl
theorem hasB_not {L : List Ent} {i : Nat} {e : Ent} (he : L[i]? = some e) (hl : e.live = false) : hasB L i = false := by
  unfold hasB liveAt
  rw [Int.toNat_natCast, he]
  simp [hl]
theorem free_mem {L : List Ent} {cur : Option Nat} {j : Nat} : j ∈ freeR L cur ↔ j < L.length ∧ regAt L cur j = false := by
  unfold freeR
  rw [List.mem_filter, List.mem_range]
  simp
theorem lenR_all {L : List Ent} {cur : Option Nat} (h : freeR L cur = []) : lenR L cur = L.length := by
  unfold lenR
  have : ∀ j, j ∈ List.range L.length → regAt L cur j = true := by
    intro j hj
    cases hr : regAt L cur j with
    | true => rfl
    | false =>
      have : j ∈ freeR L cur := free_mem.2 ⟨List.mem_range.1 hj, hr⟩
      rw [h] at this; cases this
  rw [List.countP_eq_length.2 this, List.length_range]
/-- One that is not there has no kids. -/
theorem WF.dead {L : List Ent} {cur : Option Nat} {N : Nat} (h : WF L cur N) {i : Nat} {e : Ent} (he : L[i]? = some e) (hl : e.live = false) : e.held = 0 ∧ e.kids = 0 := by
  have a := h.held i e he
  have b := h.kids i e he
  unfold Ent.live at hl
  have : ¬ 0 < e.held + e.kids := by simpa using hl
  constructor <;> omega
section put
variable {L : List Ent} {N : Nat} {s p r : Int}
theorem WF.put (h : WF L none N) (hs : 0 ≤ s ∧ s < 8 ∧ 0 ≤ p ∧ p ≤ 1073741824) (hlen : lenR L none < 4096) (hr : r = -1 ∨ ∃ (q : Nat) (e : Ent), r = q ∧ L[q]? = some e ∧ e.live = true ∧ e.place < p)
    (hnew : ∀ (i : Nat) e, L[i]? = some e → e.live = true → e.key ≠ (s, p, r)) :
    WF (bumpK (setE L (freeF L) ⟨s, p, r, 1, 0⟩) r 1) none (N + 1) ∧ lenR (bumpK (setE L (freeF L) ⟨s, p, r, 1, 0⟩) r 1) none = lenR L none + 1 ∧ freeR (bumpK (setE L (freeF L) ⟨s, p, r, 1, 0⟩) r 1) none = (freeR L none).tail ∧
    (∀ j, (bumpK (setE L (freeF L) ⟨s, p, r, 1, 0⟩) r 1)[j]? = if j = freeF L then some ⟨s, p, r, 1, 0⟩ else (L[j]?).map fun e => if r = (j : Int) then { e with kids := e.kids + 1 } else e) ∧
    (∀ j, regAt (bumpK (setE L (freeF L) ⟨s, p, r, 1, 0⟩) r 1) none j = (decide (j = freeF L) || regAt L none j)) ∧ regAt L none (freeF L) = false := by
  obtain ⟨f, hf⟩ : ∃ f, f = freeF L := ⟨_, rfl⟩
  obtain ⟨new, hnewE⟩ : ∃ new : Ent, new = ⟨s, p, r, 1, 0⟩ := ⟨_, rfl⟩
  rw [← hf, ← hnewE]
  have hfcase : (f = L.length ∧ freeR L none = []) ∨ (f < L.length ∧ ∃ l, freeR L none = f :: l) := by
    rw [hf]; unfold freeF
    cases hfr : freeR L none with
    | nil => left; simp
    | cons a l =>
      right
      have : a ∈ freeR L none := by rw [hfr]; simp
      exact ⟨by simpa using (free_mem.1 this).1, l, by simp⟩
  have hfle : f ≤ L.length := by rcases hfcase with ⟨a, _⟩ | ⟨a, _⟩ <;> omega
  have hregf : regAt L none f = false := by
    rcases hfcase with ⟨a, _⟩ | ⟨a, l, hl⟩
    · cases hc : regAt L none f with
      | false => rfl
      | true => have := reg_lt h.curs hc; omega
    · have : f ∈ freeR L none := by rw [hl]; simp
      exact (free_mem.1 this).2
  have hrf : r ≠ (f : Int) := by
    rcases hr with hr | ⟨q, e, h1, h2, h3, _⟩
    · omega
    · intro hh
      have : q = f := by omega
      subst this
      have : regAt L none q = true := by unfold regAt liveAt; rw [h2]; simp [h3]
      rw [this] at hregf; cases hregf
  have hget : ∀ j, (bumpK (setE L f new) r 1)[j]? = if j = f then some new else (L[j]?).map fun e => if r = (j : Int) then { e with kids := e.kids + 1 } else e := by
    intro j
    have h1 : (setE L f new)[j]? = if j = f then some new else L[j]? := by
      unfold setE
      split
      · grind
      · have : f = L.length := by omega
        grind
    unfold bumpK
    split
    · rename_i hr1
      rw [h1]
      by_cases hj : j = f
      · simp [hj]
      · rw [if_neg hj, if_neg hj]
        cases L[j]? with
        | none => rfl
        | some e => simp; intro; omega
    · rename_i hr1
      rw [List.getElem?_modify, h1]
      rcases hr with hr | ⟨q, e, h1, h2, h3, _⟩
      · exact absurd hr hr1
      · subst h1
        rw [Int.toNat_natCast]
        by_cases hj : j = f
        · subst hj
          simp only [if_pos rfl]
          have : q ≠ j := by omega
          simp [this]
        · rw [if_neg hj, if_neg hj]
          cases L[j]? with
          | none => rfl
          | some e' =>
            simp
            by_cases hqj : q = j
            · simp [hqj]
            · rw [if_neg hqj, if_neg (by omega)]
  have hlen' : (bumpK (setE L f new) r 1).length = if f < L.length then L.length else L.length + 1 := by
    unfold bumpK setE
    split <;> split <;> simp
  obtain ⟨L', hL'⟩ : ∃ L', L' = bumpK (setE L f new) r 1 := ⟨_, rfl⟩
  rw [← hL'] at hget hlen' ⊢
  have hlive : ∀ j, liveAt L' j = (decide (j = f) || liveAt L j) := by
    intro j
    unfold liveAt
    rw [hget]
    by_cases hj : j = f
    · rw [if_pos hj]; subst hj; simp [hnewE, Ent.live]
    · rw [if_neg hj]
      cases he : L[j]? with
      | none => simp [hj]
      | some e =>
        simp only [Option.map_some, hj, decide_false, Bool.false_or]
        by_cases hrj : r = (j : Int)
        · rw [if_pos hrj]
          rcases hr with hr | ⟨q, e', h1, h2, h3, _⟩
          · omega
          · have : q = j := by omega
            subst this
            rw [he] at h2
            obtain rfl := Option.some.inj h2
            have h4 : 0 < e.held + e.kids := by simpa [Ent.live] using h3
            rw [h3]
            simp only [Ent.live, decide_eq_true_eq]; omega
        · rw [if_neg hrj]
  have hreg : ∀ j, regAt L' none j = (decide (j = f) || regAt L none j) := by
    intro j
    unfold regAt
    rw [hlive]; simp
  have hpar : ∀ j, parAt L' j = if j = f then r else parAt L j := by
    intro j
    unfold parAt
    rw [hget]
    by_cases hj : j = f
    · rw [if_pos hj, if_pos hj]; simp [hnewE]
    · rw [if_neg hj, if_neg hj]
      cases L[j]? with
      | none => rfl
      | some e => simp only [Option.map_some]; split <;> rfl
  have hkids : ∀ i : Int, kidsR L' none i = kidsR L none i + if r = i then 1 else 0 := by
    intro i
    unfold kidsR
    rcases hfcase with ⟨a, _⟩ | ⟨a, _⟩
    · rw [hlen', if_neg (by omega), List.range_succ, List.countP_append]
      congr 1
      · exact List.countP_congr fun j hj => by
          have := List.mem_range.1 hj
          rw [hreg, hpar, if_neg (by omega)]
          have : j ≠ f := by omega
          simp [this]
      · rw [← a, List.countP_singleton, hreg, hpar]
        simp
    · have e := countP_upd (f := fun j => regAt L none j && decide (parAt L j = i)) (g := fun j => regAt L' none j && decide (parAt L' j = i)) (k := f) (n := L.length) a (fun j hj => by
        simp only [hreg, hpar, if_neg hj]
        simp [hj])
      rw [hlen', if_pos a]
      simp only [hregf, Bool.false_and, Bool.toNat_false, Nat.add_zero, hreg, hpar, decide_true, Bool.true_or, Bool.true_and, if_true] at e
      simp only [hreg, hpar]
      rw [e]
      by_cases hri : r = i
      · simp [hri]
      · simp [hri]
  have hlenR : lenR L' none = lenR L none + 1 := by
    unfold lenR
    rcases hfcase with ⟨a, _⟩ | ⟨a, _⟩
    · rw [hlen', if_neg (by omega), List.range_succ, List.countP_append]
      congr 1
      · exact List.countP_congr fun j hj => by
          have := List.mem_range.1 hj
          rw [hreg]
          have : j ≠ f := by omega
          simp [this]
      · rw [← a, List.countP_singleton, hreg]
        simp
    · have e := countP_upd (f := regAt L none) (g := regAt L' none) (k := f) (n := L.length) a (fun j hj => by simp [hreg, hj])
      rw [hregf, hreg f] at e
      rw [hlen', if_pos a]
      simpa using e
  have hfree : freeR L' none = (freeR L none).tail := by
    unfold freeR
    rcases hfcase with ⟨a, hn⟩ | ⟨a, l, hl⟩
    · rw [hlen', if_neg (by omega), List.range_succ, List.filter_append]
      unfold freeR at hn
      rw [hn]
      have h1 : (List.range L.length).filter (fun j => !regAt L' none j) = [] := by
        rw [← hn]
        exact List.filter_congr fun j hj => by
          have := List.mem_range.1 hj
          rw [hreg]
          have : j ≠ f := by omega
          simp [this]
      rw [h1]
      rw [List.filter_cons_of_neg (by rw [hreg, a]; simp)]
      rfl
    · rw [hlen', if_pos a]
      unfold freeR at hl
      rw [hl]
      exact filter_first hl (fun j hj => by simp [hreg, hj]) (by rw [hreg]; simp)
  refine ⟨⟨?_, by simp, fun i e he => ?_, fun i e he => ?_, fun i e he hi => ?_, fun i e he hi => ?_, fun i j e e' he he' hi hj hk => ?_⟩, hlenR, hfree, hget, hreg, hregf⟩
  · rw [hlen']
    rcases hfcase with ⟨a, hn⟩ | ⟨a, _⟩
    · have := lenR_all hn
      rw [if_neg (by omega)]; omega
    · rw [if_pos a]; exact h.size
  · rw [hget] at he
    split at he
    · obtain rfl := Option.some.inj he
      rw [hnewE]
      exact ⟨by simp, by simp; omega⟩
    · cases hq : L[i]? with
      | none => rw [hq] at he; cases he
      | some q =>
        rw [hq] at he
        have := h.held i q hq
        simp only [Option.map_some, Option.some.injEq] at he
        subst he
        split <;> exact ⟨this.1, Int.le_trans this.2 (by omega)⟩
  · rw [hkids]
    rw [hget] at he
    split at he
    · rename_i hif
      subst hif
      obtain rfl := Option.some.inj he
      rw [if_neg hrf, hnewE]
      rcases hfcase with ⟨a, hn⟩ | ⟨a, _⟩
      · have : kidsR L none (i : Int) = 0 := by
          unfold kidsR
          rw [List.countP_eq_zero]
          intro j hj hc
          rw [Bool.and_eq_true] at hc
          obtain ⟨h1, h2⟩ := hc
          have hjl := List.mem_range.1 hj
          obtain ⟨q, hq⟩ : ∃ q, L[j]? = some q := ⟨_, List.getElem?_eq_getElem hjl⟩
          have h2 : q.parent = (i : Int) := by
            have : parAt L j = q.parent := by unfold parAt; rw [hq]
            rw [← this]; simpa using h2
          rcases h.par j q hq h1 with h3 | ⟨x, y, h3, h4, _⟩
          · omega
          · have := (List.getElem?_eq_some_iff.1 h4).1
            omega
        rw [this]; rfl
      · obtain ⟨q, hq⟩ : ∃ q, L[i]? = some q := ⟨_, List.getElem?_eq_getElem a⟩
        have hd : q.live = false := by
          unfold regAt liveAt at hregf
          rw [hq] at hregf
          simpa using hregf
        rw [Nat.add_zero, ← h.kids i q hq, (h.dead hq hd).2]
    · cases hq : L[i]? with
      | none => rw [hq] at he; cases he
      | some q =>
        rw [hq] at he
        have := h.kids i q hq
        simp only [Option.map_some, Option.some.injEq] at he
        subst he
        split
        · simp only; omega
        · omega
  · rw [hget] at he
    rw [hreg] at hi
    split at he
    · obtain rfl := Option.some.inj he
      rw [hnewE]; exact hs
    · rename_i hif
      cases hq : L[i]? with
      | none => rw [hq] at he; cases he
      | some q =>
        rw [hq] at he
        have := h.rng i q hq (by simpa [hif] using hi)
        simp only [Option.map_some, Option.some.injEq] at he
        subst he
        split <;> exact this
  · have hup : ∀ (x : Nat) (q : Ent), L[x]? = some q → x ≠ f → ∃ q', L'[x]? = some q' ∧ q'.place = q.place := by
      intro x q hq hxf
      rw [hget, if_neg hxf, hq]
      simp only [Option.map_some]
      split
      · exact ⟨_, rfl, rfl⟩
      · exact ⟨_, rfl, rfl⟩
    rw [hget] at he
    rw [hreg] at hi
    split at he
    · obtain rfl := Option.some.inj he
      rw [hnewE]
      rcases hr with hr | ⟨q, e, h1, h2, h3, h4⟩
      · left; exact hr
      · right
        obtain ⟨q', g1, g2⟩ := hup q e h2 (by omega)
        exact ⟨q, q', h1, g1, by rw [g2]; exact h4⟩
    · rename_i hif
      cases hq : L[i]? with
      | none => rw [hq] at he; cases he
      | some q =>
        rw [hq] at he
        have hir : regAt L none i = true := by simpa [hif] using hi
        have hpl : e.parent = q.parent ∧ e.place = q.place := by
          simp only [Option.map_some, Option.some.injEq] at he
          subst he
          split <;> exact ⟨rfl, rfl⟩
        rcases h.par i q hq hir with h3 | ⟨x, y, h3, h4, h5⟩
        · left; rw [hpl.1]; exact h3
        · right
          have hyl := (h.parReg hq hir h3 h4).1
          obtain ⟨q', g1, g2⟩ := hup x y h4 (fun hxf => by
            subst hxf
            have : regAt L none x = true := by unfold regAt liveAt; rw [h4]; simp [hyl]
            rw [this] at hregf; cases hregf)
          exact ⟨x, q', by rw [hpl.1]; exact h3, g1, by rw [g2, hpl.2]; exact h5⟩
  · rw [hget] at he he'
    rw [hreg] at hi hj
    have hother : ∀ (x : Nat) (q q' : Ent), x ≠ f → L[x]? = some q → (Option.map (fun e => if r = (x : Int) then { e with kids := e.kids + 1 } else e) (some q)) = some q' → q'.key = q.key := by
      intro x q q' _ _ hh
      simp only [Option.map_some, Option.some.injEq] at hh
      subst hh
      split <;> rfl
    have hkn : new.key = (s, p, r) := by rw [hnewE]; rfl
    have hlv : ∀ x (q : Ent), x ≠ f → L[x]? = some q → (decide (x = f) || regAt L none x) = true → q.live = true := by
      intro x q hxf hq hh
      have : regAt L none x = true := by simpa [hxf] using hh
      unfold regAt liveAt at this
      rw [hq] at this
      simpa using this
    by_cases hif : i = f
    · by_cases hjf : j = f
      · omega
      · rw [if_pos hif] at he
        rw [if_neg hjf] at he'
        obtain rfl := Option.some.inj he
        cases hq : L[j]? with
        | none => rw [hq] at he'; cases he'
        | some q =>
          rw [hq] at he'
          have := hother j q e' hjf hq he'
          exact absurd (by rw [← this, ← hk, hkn]) (hnew j q hq (hlv j q hjf hq hj))
    · by_cases hjf : j = f
      · rw [if_neg hif] at he
        rw [if_pos hjf] at he'
        obtain rfl := Option.some.inj he'
        cases hq : L[i]? with
        | none => rw [hq] at he; cases he
        | some q =>
          rw [hq] at he
          have := hother i q e hif hq he
          exact absurd (by rw [← this, hk, hkn]) (hnew i q hq (hlv i q hif hq hi))
      · rw [if_neg hif] at he
        rw [if_neg hjf] at he'
        cases hq : L[i]? with
        | none => rw [hq] at he; cases he
        | some q =>
          cases hq' : L[j]? with
          | none => rw [hq'] at he'; cases he'
          | some q' =>
            rw [hq] at he
            rw [hq'] at he'
            have a := hother i q e hif hq he
            have b := hother j q' e' hjf hq' he'
            exact h.uniq i j q q' hq hq' (by simpa [hif] using hi) (by simpa [hjf] using hj) (by rw [← a, ← b]; exact hk)
end put
end Go.Bu

/- The buffer, plainly: one that is gone; held once more or less; the numbers by their keys. Own work. -/
import Derived.Test.YthimgonpkhoodaaBf2
namespace Go.Bu
open Go Go.Sy
set_option linter.unusedVariables false
set_option linter.unusedSimpArgs false
def curOf (r : Int) : Option Nat := if r = -1 then none else some r.toNat
theorem WF.reap {L : List Ent} {N c : Nat} {e : Ent} (h : WF L (some c) N) (he : L[c]? = some e) (hl : e.live = false) :
    WF (bumpK L e.parent (-1)) (curOf e.parent) N ∧ lenR (bumpK L e.parent (-1)) (curOf e.parent) + 1 = lenR L (some c) ∧
    freeR (bumpK L e.parent (-1)) (curOf e.parent) = (freeR L (some c)).take ((List.range c).countP fun j => !regAt L (some c) j) ++ c :: (freeR L (some c)).drop ((List.range c).countP fun j => !regAt L (some c) j) ∧
    (∀ j, regAt (bumpK L e.parent (-1)) (curOf e.parent) j = (regAt L (some c) j && decide (j ≠ c))) ∧
    (∀ j : Nat, (bumpK L e.parent (-1))[j]? = (L[j]?).map fun q => if e.parent = (j : Int) then { q with kids := q.kids - 1 } else q) := by
  have hrc : regAt L (some c) c = true := by unfold regAt; simp
  have hcl := (List.getElem?_eq_some_iff.1 he).1
  have hpar0 := h.par c e he hrc
  have hrng := h.rng c e he hrc
  have hpc : e.parent ≠ (c : Int) := by
    rcases hpar0 with hp | ⟨p, q, hp, hq, hpl⟩
    · omega
    · intro hh
      have : p = c := by omega
      subst this
      rw [he] at hq
      obtain rfl := Option.some.inj hq
      omega
  have hget : ∀ j : Nat, (bumpK L e.parent (-1))[j]? = (L[j]?).map fun q => if e.parent = (j : Int) then { q with kids := q.kids - 1 } else q := by
    intro j
    unfold bumpK
    split
    · rename_i hp
      cases L[j]? with
      | none => rfl
      | some q => simp only [Option.map_some]; rw [if_neg (by omega)]
    · rename_i hp
      rcases hpar0 with hp0 | ⟨p, q, hp0, hq, hpl⟩
      · exact absurd hp0 hp
      · rw [List.getElem?_modify, hp0, Int.toNat_natCast]
        cases L[j]? with
        | none => rfl
        | some q =>
          simp
          by_cases hpj : p = j
          · simp [hpj]; rfl
          · rw [if_neg hpj, if_neg (by omega)]
  have hlen : (bumpK L e.parent (-1)).length = L.length := by unfold bumpK; split <;> simp
  obtain ⟨L', hL'⟩ : ∃ L', L' = bumpK L e.parent (-1) := ⟨_, rfl⟩
  rw [← hL'] at hget hlen ⊢
  have hdead : liveAt L c = false := by unfold liveAt; rw [he]; exact hl
  have hreg : ∀ j, regAt L' (curOf e.parent) j = (regAt L (some c) j && decide (j ≠ c)) := by
    intro j
    rcases hpar0 with hp | ⟨p, q, hp, hq, hpl⟩
    · have hcn : curOf e.parent = none := if_pos hp
      unfold regAt liveAt
      rw [hget, hcn]
      cases hj : L[j]? with
      | none =>
        by_cases hjc : j = c
        · subst hjc; rw [he] at hj; cases hj
        · have : ¬ c = j := fun e => hjc e.symm
          simp [this]
      | some q =>
        simp only [Option.map_some]
        rw [if_neg (by omega)]
        by_cases hjc : j = c
        · subst hjc
          rw [he] at hj
          obtain rfl := Option.some.inj hj
          simp [hl]
        · have : ¬ c = j := fun e => hjc e.symm
          simp [hjc, this]
    · have hcn : curOf e.parent = some p := by unfold curOf; rw [if_neg (by omega), hp, Int.toNat_natCast]
      have hql := (h.parReg he hrc hp hq).1
      have hpc' : p ≠ c := by omega
      unfold regAt liveAt
      rw [hget, hcn]
      by_cases hjp : j = p
      · subst hjp
        rw [hq]
        simp [hql, hpc']
      · have hjp' : ¬ p = j := fun e => hjp e.symm
        cases hj : L[j]? with
        | none =>
          by_cases hjc : j = c
          · subst hjc; rw [he] at hj; cases hj
          · have : ¬ c = j := fun e => hjc e.symm
            simp [this, hjp']
        | some x =>
          simp only [Option.map_some]
          rw [if_neg (by omega)]
          by_cases hjc : j = c
          · subst hjc
            rw [he] at hj
            obtain rfl := Option.some.inj hj
            simp [hl, hjp']
          · have : ¬ c = j := fun e => hjc e.symm
            simp [hjc, this, hjp']
  have hpar : ∀ j, parAt L' j = parAt L j := by
    intro j
    unfold parAt
    rw [hget]
    cases L[j]? with
    | none => rfl
    | some q => simp only [Option.map_some]; split <;> rfl
  have hkids : ∀ i : Int, kidsR L' (curOf e.parent) i + (if e.parent = i then 1 else 0) = kidsR L (some c) i := by
    intro i
    unfold kidsR
    rw [hlen]
    have e2 := countP_upd (f := fun j => regAt L (some c) j && decide (parAt L j = i)) (g := fun j => regAt L' (curOf e.parent) j && decide (parAt L' j = i)) (k := c) (n := L.length) hcl (fun j hj => by
      simp only [hreg, hpar]; simp [hj])
    have hpe : parAt L c = e.parent := by unfold parAt; rw [he]
    simp only [hrc, hreg, hpar, hpe] at e2
    simp only [hreg, hpar]
    have : (decide (c ≠ c)) = false := by simp
    simp only [this, Bool.and_false, Bool.false_and, Bool.toNat_false, Nat.add_zero, Bool.true_and] at e2
    rw [← e2]
    by_cases hi : e.parent = i <;> simp [hi]
  refine ⟨⟨by rw [hlen]; exact h.size, fun i hi => ?_, fun i x hx => ?_, fun i x hx => ?_, fun i x hx hi => ?_, fun i x hx hi => ?_, fun i j x y hx hy hi hj hk => ?_⟩, ?_, ?_, hreg, hget⟩
  · rw [hlen]
    unfold curOf at hi
    split at hi
    · cases hi
    · rcases hpar0 with hp | ⟨p, q, hp, hq, hpl⟩
      · omega
      · rw [hp, Int.toNat_natCast] at hi
        cases hi
        exact (List.getElem?_eq_some_iff.1 hq).1
  · rw [hget] at hx
    cases hq : L[i]? with
    | none => rw [hq] at hx; cases hx
    | some q =>
      rw [hq] at hx
      simp only [Option.map_some, Option.some.injEq] at hx
      subst hx
      have := h.held i q hq
      split <;> exact this
  · rw [hget] at hx
    cases hq : L[i]? with
    | none => rw [hq] at hx; cases hx
    | some q =>
      rw [hq] at hx
      simp only [Option.map_some, Option.some.injEq] at hx
      subst hx
      have := h.kids i q hq
      have hk := hkids i
      split
      · rename_i hh
        rw [if_pos hh] at hk
        simp only; omega
      · rename_i hh
        rw [if_neg hh] at hk
        omega
  · rw [hget] at hx
    rw [hreg, Bool.and_eq_true] at hi
    cases hq : L[i]? with
    | none => rw [hq] at hx; cases hx
    | some q =>
      rw [hq] at hx
      simp only [Option.map_some, Option.some.injEq] at hx
      subst hx
      have := h.rng i q hq hi.1
      split <;> exact this
  · rw [hget] at hx
    rw [hreg, Bool.and_eq_true] at hi
    cases hq : L[i]? with
    | none => rw [hq] at hx; cases hx
    | some q =>
      rw [hq] at hx
      have hpp : x.parent = q.parent ∧ x.place = q.place := by
        simp only [Option.map_some, Option.some.injEq] at hx
        subst hx
        split <;> exact ⟨rfl, rfl⟩
      rcases h.par i q hq hi.1 with hp | ⟨p, y, hp, hy, hpl⟩
      · left; rw [hpp.1]; exact hp
      · right
        refine ⟨p, if e.parent = (p : Int) then { y with kids := y.kids - 1 } else y, by rw [hpp.1]; exact hp, by rw [hget, hy]; rfl, ?_⟩
        rw [hpp.2]
        split <;> exact hpl
  · rw [hget] at hx hy
    rw [hreg, Bool.and_eq_true] at hi hj
    cases hq : L[i]? with
    | none => rw [hq] at hx; cases hx
    | some q =>
      cases hq' : L[j]? with
      | none => rw [hq'] at hy; cases hy
      | some q' =>
        rw [hq] at hx
        rw [hq'] at hy
        simp only [Option.map_some, Option.some.injEq] at hx hy
        subst hx
        subst hy
        refine h.uniq i j q q' hq hq' hi.1 hj.1 ?_
        have a : (if e.parent = (i : Int) then { q with kids := q.kids - 1 } else q).key = q.key := by split <;> rfl
        have b : (if e.parent = (j : Int) then { q' with kids := q'.kids - 1 } else q').key = q'.key := by split <;> rfl
        rw [← a, ← b]; exact hk
  · unfold lenR
    rw [hlen]
    have e2 := countP_upd (f := regAt L (some c)) (g := regAt L' (curOf e.parent)) (k := c) (n := L.length) hcl (fun j hj => by rw [hreg]; simp [hj])
    rw [hrc, hreg c] at e2
    simp only [ne_eq, not_true_eq_false, decide_false, Bool.and_false, Bool.toNat_false, Nat.add_zero, Bool.toNat_true] at e2
    omega
  · unfold freeR
    rw [hlen]
    exact filter_more (f := fun j => !regAt L (some c) j) (g := fun j => !regAt L' (curOf e.parent) j) hcl (fun j hj => by rw [hreg]; simp [hj]) (by rw [hrc]; rfl) (by rw [hreg]; simp)
/-- One is held once more, or less. -/
theorem WF.bump {L : List Ent} {cur cur' : Option Nat} {N N' i : Nat} {e : Ent} {d : Int} (h : WF L cur N) (he : L[i]? = some e) (hd : 0 ≤ e.held + d ∧ e.held + d ≤ N') (hN : N ≤ N') (hc : ∀ j, cur' = some j → j = i) (hcc : ∀ j, cur = some j → j = i) (hr : regAt L cur i = true) (hr' : 0 < e.held + d + e.kids ∨ cur' = some i) :
    WF (bumpH L i d) cur' N' ∧ lenR (bumpH L i d) cur' = lenR L cur ∧ freeR (bumpH L i d) cur' = freeR L cur ∧ (∀ j, regAt (bumpH L i d) cur' j = regAt L cur j) ∧ (∀ j, (bumpH L i d)[j]? = (L[j]?).map fun q => if i = j then { q with held := q.held + d } else q) := by
  have hget : ∀ j, (bumpH L i d)[j]? = (L[j]?).map fun q => if i = j then { q with held := q.held + d } else q := by
    intro j
    unfold bumpH
    rw [List.getElem?_modify]
    cases L[j]? with
    | none => rfl
    | some q => rfl
  have hlen : (bumpH L i d).length = L.length := by unfold bumpH; simp
  have hil := (List.getElem?_eq_some_iff.1 he).1
  have hreg : ∀ j, regAt (bumpH L i d) cur' j = regAt L cur j := by
    intro j
    by_cases hj : j = i
    · subst hj
      rw [hr]
      unfold regAt liveAt
      rw [hget, he]
      simp only [Option.map_some, if_true, Ent.live]
      rcases hr' with h1 | h1
      · simp; left; omega
      · simp [h1]
    · have h1 : ¬ cur' = some j := fun e => hj (hc j e)
      have h2 : ¬ cur = some j := fun e => hj (hcc j e)
      unfold regAt liveAt
      rw [hget]
      cases L[j]? with
      | none => simp [h1, h2]
      | some q =>
        simp only [Option.map_some]
        rw [if_neg (fun e => hj e.symm)]
        simp [h1, h2]
  obtain ⟨a, b, c⟩ := h.same (L' := bumpH L i d) (cur' := cur') (N' := N') hlen (fun j hj => by rw [hc j hj]; exact hil) hreg (fun j x hx => by
    rw [hget] at hx
    cases hq : L[j]? with
    | none => rw [hq] at hx; cases hx
    | some q =>
      rw [hq] at hx
      simp only [Option.map_some, Option.some.injEq] at hx
      have hh := h.held j q hq
      subst hx
      refine ⟨q, rfl, ?_⟩
      split
      · rename_i hij
        subst hij
        rw [he] at hq
        obtain rfl := Option.some.inj hq
        exact ⟨rfl, rfl, hd⟩
      · exact ⟨rfl, rfl, hh.1, Int.le_trans hh.2 (by omega)⟩)
  exact ⟨a, b, c, hreg, hget⟩
/-- What is looked at is there: it is no exception. -/
theorem WF.settle {L : List Ent} {N c : Nat} {e : Ent} (h : WF L (some c) N) (he : L[c]? = some e) (hl : e.live = true) :
    WF L none N ∧ lenR L none = lenR L (some c) ∧ freeR L none = freeR L (some c) ∧ ∀ j, regAt L none j = regAt L (some c) j := by
  have hreg : ∀ j, regAt L none j = regAt L (some c) j := by
    intro j
    unfold regAt
    by_cases hj : c = j
    · subst hj
      unfold liveAt
      rw [he]
      simp [hl]
    · simp [hj]
  obtain ⟨a, b, c⟩ := h.same (L' := L) (cur' := none) (N' := N) rfl (by simp) hreg (fun j x hx => ⟨x, hx, rfl, rfl, h.held j x hx⟩)
  exact ⟨a, b, c, hreg⟩
/-! ### numbers by keys -/
structure MapOk (M : List (Ky × Int)) (L : List Ent) (cur : Option Nat) : Prop where
  nodup : (M.map Prod.fst).Nodup
  get : ∀ k v, getM M k = some v ↔ ∃ (j : Nat) (e : Ent), v = j ∧ L[j]? = some e ∧ e.key = k ∧ regAt L cur j = true
  len : M.length = lenR L cur
theorem getM_none {κ ν : Type} [DecidableEq κ] {k : κ} : ∀ {M : List (κ × ν)}, getM M k = none ↔ k ∉ M.map Prod.fst
  | [] => by simp [getM]
  | p :: M => by
    unfold getM
    split
    · rename_i h; subst h; simp
    · rename_i h
      rw [getM_none, List.map_cons, List.mem_cons]
      constructor
      · intro h1 h2
        rcases h2 with h2 | h2
        · exact h h2.symm
        · exact h1 h2
      · intro h1 h2; exact h1 (.inr h2)
theorem getM_snoc {κ ν : Type} [DecidableEq κ] {k k' : κ} {v : ν} : ∀ {M : List (κ × ν)}, getM M k = none → getM (M ++ [(k, v)]) k' = if k = k' then some v else getM M k'
  | [], _ => by simp [getM]
  | p :: M, h => by
    unfold getM at h
    split at h
    · cases h
    · rename_i hp
      rw [List.cons_append]
      unfold getM
      rw [getM_snoc h]
      by_cases h1 : p.1 = k'
      · rw [if_pos h1, if_pos h1, if_neg (fun e => hp (h1.trans e.symm))]
      · rw [if_neg h1, if_neg h1]
theorem putM_none {κ ν : Type} [DecidableEq κ] {k : κ} {v : ν} : ∀ {M : List (κ × ν)}, getM M k = none → putM M k v = M ++ [(k, v)]
  | [], _ => rfl
  | p :: M, h => by
    unfold getM at h
    split at h
    · cases h
    · rename_i hp
      rw [List.cons_append]
      unfold putM
      rw [if_neg hp, putM_none h]
theorem delM_keys {κ ν : Type} [DecidableEq κ] {k : κ} : ∀ {M : List (κ × ν)}, (delM M k).map Prod.fst = (M.map Prod.fst).erase k
  | [] => rfl
  | p :: M => by
    unfold delM
    split
    · rename_i h; subst h; simp
    · rename_i h
      rw [List.map_cons, delM_keys, List.map_cons, List.erase_cons_tail (by simpa using h)]
theorem getM_del {κ ν : Type} [DecidableEq κ] {k k' : κ} : ∀ {M : List (κ × ν)}, (M.map Prod.fst).Nodup → getM (delM M k) k' = if k = k' then none else getM M k'
  | [], _ => by simp [delM, getM]
  | p :: M, h => by
    rw [List.map_cons, List.nodup_cons] at h
    unfold delM
    split
    · rename_i hp
      by_cases hk : k = k'
      · rw [if_pos hk, getM_none, ← hk, ← hp]; exact h.1
      · rw [if_neg hk]
        conv => rhs; unfold getM
        rw [if_neg (fun e => hk (hp.symm.trans e))]
    · rename_i hp
      unfold getM
      rw [getM_del h.2]
      by_cases h1 : p.1 = k'
      · rw [if_pos h1, if_pos h1, if_neg (fun e => hp (h1.trans e.symm))]
      · rw [if_neg h1, if_neg h1]
theorem delM_nodup {κ ν : Type} [DecidableEq κ] {k : κ} {M : List (κ × ν)} (h : (M.map Prod.fst).Nodup) : ((delM M k).map Prod.fst).Nodup := by rw [delM_keys]; exact h.erase _
theorem delM_len {κ ν : Type} [DecidableEq κ] {k : κ} {v : ν} : ∀ {M : List (κ × ν)}, getM M k = some v → (delM M k).length + 1 = M.length
  | [], h => by cases h
  | p :: M, h => by
    unfold delM
    unfold getM at h
    split
    · simp
    · rename_i hp
      rw [if_neg hp] at h
      have := delM_len h
      simp only [List.length_cons]; omega
theorem MapOk.nil : MapOk [] [] none := ⟨by simp, by simp [getM, regAt, liveAt], rfl⟩
theorem MapOk.same {M : List (Ky × Int)} {L L' : List Ent} {cur cur' : Option Nat} (h : MapOk M L cur) (hreg : ∀ j, regAt L' cur' j = regAt L cur j) (hlen : lenR L' cur' = lenR L cur)
    (hent : ∀ (j : Nat), (L'[j]?).map Ent.key = (L[j]?).map Ent.key) : MapOk M L' cur' := by
  refine ⟨h.nodup, fun k v => ?_, by rw [hlen]; exact h.len⟩
  rw [h.get]
  have key : ∀ (A B : List Ent), (∀ (j : Nat), (A[j]?).map Ent.key = (B[j]?).map Ent.key) → ∀ (j : Nat) (e : Ent), A[j]? = some e → ∃ e', B[j]? = some e' ∧ e'.key = e.key := by
    intro A B hAB j e he
    have := hAB j
    rw [he] at this
    cases hb : B[j]? with
    | none => rw [hb] at this; cases this
    | some e' => rw [hb] at this; exact ⟨e', rfl, (Option.some.inj this).symm⟩
  constructor
  · rintro ⟨j, e, h1, h2, h3, h4⟩
    obtain ⟨e', g1, g2⟩ := key L L' (fun j => (hent j).symm) j e h2
    exact ⟨j, e', h1, g1, g2.trans h3, by rw [hreg]; exact h4⟩
  · rintro ⟨j, e, h1, h2, h3, h4⟩
    obtain ⟨e', g1, g2⟩ := key L' L hent j e h2
    exact ⟨j, e', h1, g1, g2.trans h3, by rw [← hreg]; exact h4⟩
theorem MapOk.put {M : List (Ky × Int)} {L L' : List Ent} {f : Nat} {new : Ent} (h : MapOk M L none) (hlen : lenR L' none = lenR L none + 1) (hreg : ∀ j, regAt L' none j = (decide (j = f) || regAt L none j)) (hf : regAt L none f = false)
    (hent : ∀ (j : Nat), (L'[j]?).map Ent.key = if j = f then some new.key else (L[j]?).map Ent.key) (hk : getM M new.key = none) : MapOk (putM M new.key f) L' none := by
  rw [putM_none hk]
  refine ⟨?_, fun k v => ?_, by rw [List.length_append, hlen, h.len]; rfl⟩
  · rw [List.map_append, List.nodup_append]
    refine ⟨h.nodup, by simp, fun a ha b hb hab => ?_⟩
    simp at hb
    subst hb; subst hab
    exact getM_none.1 hk ha
  · rw [getM_snoc hk]
    have hat : ∀ (j : Nat) (e : Ent), L'[j]? = some e → if j = f then e.key = new.key else ∃ e', L[j]? = some e' ∧ e'.key = e.key := by
      intro j e he
      have := hent j
      rw [he] at this
      split
      · rename_i hj; rw [if_pos hj] at this; exact Option.some.inj this
      · rename_i hj
        rw [if_neg hj] at this
        cases hb : L[j]? with
        | none => rw [hb] at this; cases this
        | some e' => rw [hb] at this; exact ⟨e', rfl, (Option.some.inj this).symm⟩
    have hlf : ∃ e, L'[f]? = some e ∧ e.key = new.key := by
      have := hent f
      rw [if_pos rfl] at this
      cases hb : L'[f]? with
      | none => rw [hb] at this; cases this
      | some e => rw [hb] at this; exact ⟨e, rfl, Option.some.inj this⟩
    split
    · rename_i hkk
      subst hkk
      constructor
      · intro hv
        obtain rfl := Option.some.inj hv
        obtain ⟨e, h1, h2⟩ := hlf
        exact ⟨f, e, rfl, h1, h2, by rw [hreg]; simp⟩
      · rintro ⟨j, e, rfl, h2, h3, h4⟩
        by_cases hj : j = f
        · rw [hj]
        · have := hat j e h2
          rw [if_neg hj] at this
          obtain ⟨e', g1, g2⟩ := this
          rw [hreg] at h4
          have : getM M new.key = some (j : Int) := (h.get _ _).2 ⟨j, e', rfl, g1, g2.trans h3, by simpa [hj] using h4⟩
          rw [hk] at this; cases this
    · rename_i hkk
      rw [h.get]
      constructor
      · rintro ⟨j, e, rfl, h2, h3, h4⟩
        have hj : j ≠ f := fun e => by subst e; rw [hf] at h4; cases h4
        have := hent j
        rw [if_neg hj, h2] at this
        cases hb : L'[j]? with
        | none => rw [hb] at this; cases this
        | some e' =>
          rw [hb] at this
          exact ⟨j, e', rfl, hb, (Option.some.inj this).trans h3, by rw [hreg, h4]; simp⟩
      · rintro ⟨j, e, rfl, h2, h3, h4⟩
        have := hat j e h2
        by_cases hj : j = f
        · rw [if_pos hj] at this
          exact absurd (this.symm.trans h3) hkk
        · rw [if_neg hj] at this
          obtain ⟨e', g1, g2⟩ := this
          rw [hreg] at h4
          exact ⟨j, e', rfl, g1, g2.trans h3, by simpa [hj] using h4⟩
theorem MapOk.del {M : List (Ky × Int)} {L L' : List Ent} {cur' : Option Nat} {c N : Nat} {e : Ent} (hw : WF L (some c) N) (h : MapOk M L (some c)) (he : L[c]? = some e) (hlen : lenR L' cur' + 1 = lenR L (some c)) (hreg : ∀ j, regAt L' cur' j = (regAt L (some c) j && decide (j ≠ c)))
    (hent : ∀ (j : Nat), (L'[j]?).map Ent.key = (L[j]?).map Ent.key) : MapOk (delM M e.key) L' cur' := by
  have hrc : regAt L (some c) c = true := by unfold regAt; simp
  have hg : getM M e.key = some (c : Int) := (h.get _ _).2 ⟨c, e, rfl, he, rfl, hrc⟩
  have hl := delM_len hg
  refine ⟨delM_nodup h.nodup, fun k v => ?_, by rw [h.len] at hl; omega⟩
  rw [getM_del h.nodup]
  have key : ∀ (A B : List Ent), (∀ (j : Nat), (A[j]?).map Ent.key = (B[j]?).map Ent.key) → ∀ (j : Nat) (e : Ent), A[j]? = some e → ∃ e', B[j]? = some e' ∧ e'.key = e.key := by
    intro A B hAB j e he
    have := hAB j
    rw [he] at this
    cases hb : B[j]? with
    | none => rw [hb] at this; cases this
    | some e' => rw [hb] at this; exact ⟨e', rfl, (Option.some.inj this).symm⟩
  split
  · rename_i hkk
    constructor
    · intro hv; cases hv
    · rintro ⟨j, x, rfl, h2, h3, h4⟩
      exfalso
      obtain ⟨x', g1, g2⟩ := key L' L hent j x h2
      rw [hreg, Bool.and_eq_true] at h4
      have hjc : j ≠ c := by simpa using h4.2
      exact hjc (hw.uniq j c x' e g1 he h4.1 hrc (by rw [g2, h3, hkk]))
  · rename_i hkk
    rw [h.get]
    constructor
    · rintro ⟨j, x, rfl, h2, h3, h4⟩
      obtain ⟨x', g1, g2⟩ := key L L' (fun j => (hent j).symm) j x h2
      have hjc : j ≠ c := fun hh => by
        subst hh
        rw [he] at h2
        obtain rfl := Option.some.inj h2
        exact hkk h3
      exact ⟨j, x', rfl, g1, g2.trans h3, by rw [hreg, h4]; simp [hjc]⟩
    · rintro ⟨j, x, rfl, h2, h3, h4⟩
      obtain ⟨x', g1, g2⟩ := key L' L hent j x h2
      rw [hreg, Bool.and_eq_true] at h4
      exact ⟨j, x', rfl, g1, g2.trans h3, h4.1⟩
end Go.Bu

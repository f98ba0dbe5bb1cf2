/- Matches as bytes, plainly. Own work. -/
import Derived.Test.YtbcnpklmhgcenaaDoorPe
namespace Go.Ev
open Go Go.Sy Go.Sp Go.Lib Go.Proofs.YtbcnpklmhgcenaaDoor
set_option linter.unusedVariables false
set_option linter.unusedSimpArgs false
def nIt (p : Int) : Pk.Itm := ⟨false, p, []⟩
def itemsS (s : List Int) : List Pk.Itm := nIt s.length :: s.map nIt
def itemsM (m : Mat) : List Pk.Itm := ⟨true, 0, m.key⟩ :: nIt m.st.length :: m.st.flatMap itemsS
def encM (m : Mat) : List UInt8 × Int := if mayM m then (Pk.allB (itemsM m), 0) else ([], 20)
def zeroM : Mat := ⟨[], []⟩
theorem goIn_all : ∀ (s : List Int) (last l : Int), goIn last s = some l → last ≤ l ∧ ∀ p ∈ s, last < p ∧ p ≤ 1073741824
  | [], last, l, h => by simp [goIn] at h; subst h; simp
  | p :: ps, last, l, h => by
    unfold goIn at h
    split at h
    · cases h
    · rename_i hn
      obtain ⟨h1, h2⟩ := goIn_all ps p l h
      refine ⟨by omega, fun q hq => ?_⟩
      rcases List.mem_cons.1 hq with rfl | hq
      · omega
      · have := h2 q hq; omega
theorem goSt_all : ∀ (ss : List (List Int)) (last : Int) (many : Nat), goSt last many ss = true → many ≤ 256 → many + (ss.map List.length).sum ≤ 256 ∧ ∀ s ∈ ss, s ≠ [] ∧ ∀ p ∈ s, last < p ∧ p ≤ 1073741824
  | [], last, many, _, h => ⟨by simpa using h, by simp⟩
  | s :: ss, last, many, h, hm => by
    unfold goSt at h
    split at h
    · cases h
    · rename_i hn
      split at h
      · cases h
      · rename_i l hl
        obtain ⟨h1, h2⟩ := goIn_all s last l hl
        obtain ⟨h3, h4⟩ := goSt_all ss l (many + s.length) h (by omega)
        refine ⟨by simp only [List.map_cons, List.sum_cons]; omega, fun t ht => ?_⟩
        rcases List.mem_cons.1 ht with rfl | ht
        · exact ⟨fun e => hn (.inl (by rw [e]; rfl)), h2⟩
        · obtain ⟨a, b⟩ := h4 t ht
          exact ⟨a, fun p hp => ⟨by have := (b p hp).1; omega, (b p hp).2⟩⟩
theorem mayM_facts {m : Mat} (h : mayM m = true) : m.key.length ≤ 32 ∧ 1 ≤ m.st.length ∧ m.st.length ≤ 8 ∧ (m.st.map List.length).sum ≤ 256 ∧ ∀ s ∈ m.st, s ≠ [] ∧ ∀ p ∈ s, -1 < p ∧ p ≤ 1073741824 := by
  unfold mayM at h
  simp only [Bool.and_eq_true, decide_eq_true_eq] at h
  obtain ⟨h1, h2, h3, h4⟩ := h
  obtain ⟨h5, h6⟩ := goSt_all _ _ _ h4 (by omega)
  exact ⟨nameOk_len h1, h2, h3, by omega, h6⟩
theorem itemsSt_len (st : List (List Int)) : (st.flatMap itemsS).length = st.length + (st.map List.length).sum := by
  induction st with
  | nil => rfl
  | cons s st ih => simp only [List.flatMap_cons, List.length_append, ih, itemsS, List.length_cons, List.length_map, List.map_cons, List.sum_cons]; omega
theorem itemsM_len (m : Mat) : (itemsM m).length = 2 + (m.st.length + (m.st.map List.length).sum) := by
  unfold itemsM; simp only [List.length_cons, itemsSt_len]; omega
theorem nIt_ok {p : Int} (h : okI p) : Pk.okI (nIt p) := ⟨h.1, h.2, by simp [nIt]⟩
theorem itemsM_ok {m : Mat} (hk : m.key.length ≤ 140737488351232) (hl : m.st.length ≤ 17592186044416) (hs : ∀ s ∈ m.st, s.length ≤ 17592186044416 ∧ ∀ p ∈ s, okI p) : ∀ y ∈ itemsM m, Pk.okI y := by
  intro y hy
  unfold itemsM at hy
  rcases List.mem_cons.1 hy with rfl | hy
  · exact ⟨by simp, by simp, hk⟩
  · rcases List.mem_cons.1 hy with rfl | hy
    · exact nIt_ok ⟨by omega, by omega⟩
    · obtain ⟨s, hs1, hy⟩ := List.mem_flatMap.1 hy
      obtain ⟨h1, h2⟩ := hs s hs1
      unfold itemsS at hy
      rcases List.mem_cons.1 hy with rfl | hy
      · exact nIt_ok ⟨by omega, by omega⟩
      · obtain ⟨p, hp, rfl⟩ := List.mem_map.1 hy
        exact nIt_ok (h2 p hp)
theorem may_nIt (p : Int) : Pk.may (nIt p) = true := by simp [Pk.may, nIt]
theorem itemsM_may (m : Mat) : (itemsM m).all Pk.may = true := by
  unfold itemsM
  simp only [List.all_cons, may_nIt, Bool.true_and, Bool.and_eq_true, List.all_eq_true]
  refine ⟨by simp [Pk.may], fun y hy => ?_⟩
  obtain ⟨s, _, hy⟩ := List.mem_flatMap.1 hy
  unfold itemsS at hy
  rcases List.mem_cons.1 hy with rfl | hy
  · exact may_nIt _
  · obtain ⟨p, _, rfl⟩ := List.mem_map.1 hy
    exact may_nIt _
theorem itemsM_sizes {m : Mat} (h : m.key.length ≤ 32) : ∀ y ∈ itemsM m, y.s.length ≤ 32 := by
  intro y hy
  unfold itemsM at hy
  rcases List.mem_cons.1 hy with rfl | hy
  · exact h
  · rcases List.mem_cons.1 hy with rfl | hy
    · simp [nIt]
    · obtain ⟨s, hs1, hy⟩ := List.mem_flatMap.1 hy
      unfold itemsS at hy
      rcases List.mem_cons.1 hy with rfl | hy
      · simp [nIt]
      · obtain ⟨p, hp, rfl⟩ := List.mem_map.1 hy
        simp [nIt]
theorem le_sum {l : List Nat} {n : Nat} (h : n ∈ l) : n ≤ l.sum := by
  induction l with
  | nil => cases h
  | cons a l ih =>
    rw [List.sum_cons]
    rcases List.mem_cons.1 h with rfl | h
    · omega
    · have := ih h; omega
theorem mayM_items {m : Mat} (h : mayM m = true) : (∀ y ∈ itemsM m, Pk.okI y) ∧ Pk.encR (itemsM m) = (Pk.allB (itemsM m), 0) ∧ (Pk.allB (itemsM m)).length ≤ 262144 ∧ (itemsM m).length ≤ 4096 := by
  obtain ⟨h1, h2, h3, h4, h5⟩ := mayM_facts h
  have hsum : ∀ s ∈ m.st, s.length ≤ (m.st.map List.length).sum := fun s hs => le_sum (List.mem_map_of_mem hs)
  have hok := itemsM_ok (m := m) (by omega) (by omega) fun s hs => ⟨by have := hsum s hs; omega, fun p hp => by have := (h5 s hs).2 p hp; exact ⟨by omega, by omega⟩⟩
  have hl := itemsM_len m
  have hb := allB_bound 266 32 (itemsM m) (by omega) fun y hy => ⟨hok y hy, itemsM_sizes h1 y hy⟩
  exact ⟨hok, Pk.encR_of (by omega) (itemsM_may m) (by omega), by omega, by omega⟩

/-- A list of items is that of a match that may be. -/
def isM (b : List UInt8) (m : Mat) : Prop := mayM m = true ∧ Pk.decR b = (itemsM m, 0, 0)
theorem isM_enc {b : List UInt8} {m : Mat} : isM b m ↔ encM m = (b, 0) := by
  constructor
  · rintro ⟨h1, h2⟩
    unfold encM
    rw [h1, if_pos rfl, (Pk.encR_ok (Pk.dec_ok h2).1).1]
  · intro h
    unfold encM at h
    split at h
    · rename_i hm
      obtain ⟨h1, h2, h3, h4⟩ := mayM_items hm
      have e := (Prod.mk.inj h).1
      rw [e] at h2
      exact ⟨hm, Pk.dec_enc h1 h2⟩
    · cases h
theorem map_nIt {s t : List Int} (h : s.map nIt = t.map nIt) : s = t := by
  induction s generalizing t with
  | nil => cases t with
    | nil => rfl
    | cons b t => cases h
  | cons a s ih => cases t with
    | nil => cases h
    | cons b t =>
      simp only [List.map_cons, List.cons.injEq, nIt, Pk.Itm.mk.injEq] at h
      rw [h.1.2.1, ih h.2]
/-- One stage's items, ahead of others. -/
theorem stage_pre {s t : List Int} {X Y : List Pk.Itm} (h : itemsS s ++ X = itemsS t ++ Y) : s = t ∧ X = Y := by
  unfold itemsS at h
  simp only [List.cons_append, List.cons.injEq, nIt, Pk.Itm.mk.injEq, Int.ofNat_inj, and_true, true_and] at h
  obtain ⟨h1, h2⟩ := h
  obtain ⟨h3, h4⟩ := List.append_inj h2 (by simp [h1])
  exact ⟨map_nIt h3, h4⟩
theorem itemsSt_inj : ∀ {a b : List (List Int)}, a.flatMap itemsS = b.flatMap itemsS → a = b
  | [], [], _ => rfl
  | [], b :: bs, h => by simp [itemsS] at h
  | a :: a', [], h => by simp [itemsS] at h
  | a :: a', b :: bs, h => by
    simp only [List.flatMap_cons] at h
    obtain ⟨h1, h2⟩ := stage_pre h
    rw [h1, itemsSt_inj h2]
theorem itemsM_inj {a b : Mat} (h : itemsM a = itemsM b) : a = b := by
  unfold itemsM at h
  simp only [List.cons.injEq] at h
  obtain ⟨h1, _, h3⟩ := h
  obtain ⟨k, s⟩ := a
  obtain ⟨k', s'⟩ := b
  have e1 : k = k' := congrArg Pk.Itm.s h1
  have e2 := itemsSt_inj h3
  simp only at e2
  rw [e1, e2]
theorem isM_one {b : List UInt8} {m m' : Mat} (h : isM b m) (h' : isM b m') : m = m' := by
  have := h.2.symm.trans h'.2
  exact itemsM_inj (Prod.mk.inj this).1
theorem isM_len {b : List UInt8} {m : Mat} (h : isM b m) : b.length ≤ 262144 := by
  obtain ⟨h1, h2⟩ := h
  obtain ⟨h3, h4, h5, h6⟩ := mayM_items h1
  have := (Pk.encR_ok (Pk.dec_ok h2).1)
  rw [this.1]; exact h5
/-- An event's bytes are no match's. -/
theorem isM_event {x : Evt} {b : List UInt8} (hx : okE x) (hn : okN x) (h : encE x = (b, 0)) (m : Mat) : ¬ isM b m := by
  rintro ⟨h1, h2⟩
  unfold encE at h
  split at h
  · rename_i hm
    have e := (Prod.mk.inj h).1
    have hE := (encR_E hx hn hm).1
    rw [e] at hE
    have := (Pk.dec_enc (itemsE_ok hx hn) hE).symm.trans h2
    have := (Prod.mk.inj this).1
    unfold itemsE itemsM nIt at this
    simp at this
  · cases h
/-- What of a match's items is left behind its first ones. -/
def left (l : List Pk.Itm) (S : List (List Int)) (a : Nat) : Prop := ∀ m : Mat, mayM m = true → l = itemsM m → ∃ T, m.st = S ++ T ∧ l.drop a = T.flatMap itemsS
theorem left_start {l : List Pk.Itm} : left l [] 2 := by
  intro m _ h
  exact ⟨m.st, rfl, by rw [h]; rfl⟩
/-- The number that stands next: of a match it is that of a stage. -/
theorem left_next {l : List Pk.Itm} {S : List (List Int)} {a : Nat} {x : Pk.Itm} (h : left l S a) (hx : l[a]? = some x) {m : Mat} (hm : mayM m = true) (hl : l = itemsM m) : 1 ≤ x.n ∧ x.n ≤ ((l.length - (a + 1) : Nat) : Int) ∧ x.t = false := by
  obtain ⟨T, h1, h2⟩ := h m hm hl
  obtain ⟨ha, hx'⟩ := List.getElem?_eq_some_iff.1 hx
  rw [List.drop_eq_getElem_cons ha, hx'] at h2
  cases T with
  | nil => cases h2
  | cons t T =>
    simp only [List.flatMap_cons, itemsS, List.cons_append, List.cons.injEq] at h2
    obtain ⟨h3, h4⟩ := h2
    have h5 := congrArg List.length h4
    simp only [List.length_drop, List.length_append, List.length_map] at h5
    have h6 := ((mayM_facts hm).2.2.2.2 t (by rw [h1]; simp)).1
    have h7 := List.length_pos_iff.2 h6
    rw [h3]
    simp only [nIt]
    exact ⟨by omega, by omega, trivial⟩
theorem left_step {l : List Pk.Itm} {S : List (List Int)} {a : Nat} {x : Pk.Itm} {n : Nat} {s : List Int} (h : left l S a) (hx : l[a]? = some x) (hn : x.n = n) (hs : s = ((l.drop (a + 1)).take n).map Pk.Itm.n) : left l (S ++ [s]) (a + 1 + n) := by
  intro m hm hl
  obtain ⟨T, h1, h2⟩ := h m hm hl
  obtain ⟨ha, hx'⟩ := List.getElem?_eq_some_iff.1 hx
  rw [List.drop_eq_getElem_cons ha, hx'] at h2
  cases T with
  | nil => cases h2
  | cons t T =>
    simp only [List.flatMap_cons, itemsS, List.cons_append, List.cons.injEq] at h2
    obtain ⟨h3, h4⟩ := h2
    have hnt : n = t.length := by rw [h3] at hn; simp only [nIt] at hn; omega
    have e1 : (l.drop (a + 1)).take n = t.map nIt := by rw [h4, hnt]; simp
    have e2 : s = t := by rw [hs, e1, List.map_map]; exact (List.map_congr_left (g := id) fun p _ => rfl).trans (List.map_id t)
    refine ⟨T, by rw [h1, e2]; simp, ?_⟩
    rw [← List.drop_drop, h4, hnt]
    simp
theorem left_end {l : List Pk.Itm} {S : List (List Int)} (h : left l S l.length) {m : Mat} (hm : mayM m = true) (hl : l = itemsM m) {x : Pk.Itm} (hx : l[0]? = some x) : m = ⟨x.s, S⟩ := by
  obtain ⟨T, h1, h2⟩ := h m hm hl
  rw [List.drop_length] at h2
  have : T = [] := by
    cases T with
    | nil => rfl
    | cons t T => simp [itemsS] at h2
  subst this
  rw [hl] at hx
  have : x = ⟨true, 0, m.key⟩ := (Option.some.inj hx).symm
  obtain ⟨k, st⟩ := m
  simp only [List.append_nil] at h1
  rw [h1, this]
def numR (l : List Pk.Itm) (a : Nat) : Int := match l[a]? with
  | none => -1
  | some x => if x.t = true ∨ x.n < 0 ∨ x.n > 1073741824 then -1 else x.n
theorem numR_none {l : List Pk.Itm} {a : Nat} (h : l.length ≤ a) : numR l a = -1 := by unfold numR; rw [List.getElem?_eq_none h]
theorem numR_some {l : List Pk.Itm} {a : Nat} {x : Pk.Itm} (h : l[a]? = some x) : numR l a = if x.t = true ∨ x.n < 0 ∨ x.n > 1073741824 then -1 else x.n := by unfold numR; rw [h]
theorem numR_bd (l : List Pk.Itm) (a : Nat) : -1 ≤ numR l a ∧ numR l a ≤ 1073741824 := by
  unfold numR
  split
  · omega
  · split <;> omega
/-- What is a number stands so in the list. -/
theorem numR_get {l : List Pk.Itm} {a : Nat} (hm : l.all Pk.may = true) (h : 0 ≤ numR l a) : l[a]? = some (nIt (numR l a)) := by
  by_cases ha : a < l.length
  · have hx := List.getElem?_eq_getElem ha
    rw [numR_some hx] at h ⊢
    split at h
    · omega
    · rename_i hc
      rw [if_neg hc, hx]
      have ht : l[a].t = false := by
        cases h' : l[a].t
        · rfl
        · exact absurd (.inl h') hc
      exact congrArg some (may_f (List.all_eq_true.1 hm _ (List.getElem_mem ha)) ht)
  · rw [numR_none (by omega)] at h; omega
theorem numR_nIt {l : List Pk.Itm} {a : Nat} {p : Int} (h : l[a]? = some (nIt p)) (h0 : 0 ≤ p) (h1 : p ≤ 1073741824) : numR l a = p := by
  rw [numR_some h]
  show (if false = true ∨ p < 0 ∨ p > 1073741824 then -1 else p) = p
  rw [if_neg]
  rintro (h | h | h)
  · cases h
  · omega
  · omega
/-- Of a match's items: the next stage. -/
theorem left_num {l : List Pk.Itm} {S : List (List Int)} {a : Nat} (h : left l S a) {m : Mat} (hm : mayM m = true) (hl : l = itemsM m) (hS : S.length < m.st.length) :
    ∃ t : List Int, numR l a = t.length ∧ t.length ≤ l.length - (a + 1) ∧ ∀ k, k < t.length → ∃ p, l[a + 1 + k]? = some (nIt p) ∧ 0 ≤ p ∧ p ≤ 1073741824 := by
  obtain ⟨T, h1, h2⟩ := h m hm hl
  cases T with
  | nil => rw [h1] at hS; simp at hS
  | cons t T =>
    obtain ⟨_, _, _, h6, h7⟩ := mayM_facts hm
    have ht : t ∈ m.st := by rw [h1]; simp
    have htl : t.length ≤ 256 := Nat.le_trans (le_sum (List.mem_map_of_mem ht)) h6
    simp only [List.flatMap_cons, itemsS, List.cons_append] at h2
    have e0 : l[a]? = some (nIt t.length) := by
      have := congrArg (fun l => l[0]?) h2
      simpa [List.getElem?_drop] using this
    have e1 : l.drop (a + 1) = t.map nIt ++ T.flatMap itemsS := by
      rw [← List.drop_drop, h2]; rfl
    refine ⟨t, numR_nIt e0 (by omega) (by omega), ?_, fun k hk => ?_⟩
    · have := congrArg List.length e1
      simp only [List.length_drop, List.length_append, List.length_map] at this
      omega
    · obtain ⟨_, h8⟩ := h7 t ht
      have h9 := h8 t[k] (List.getElem_mem hk)
      refine ⟨t[k], ?_, by omega, by omega⟩
      have := congrArg (fun l => l[k]?) e1
      rw [List.getElem?_drop, List.getElem?_append_left (by simpa using hk), List.getElem?_map, List.getElem?_eq_getElem hk] at this
      exact this
/-- Of a match's items: how many stages. -/
theorem many_num {l : List Pk.Itm} {m : Mat} (hm : mayM m = true) (hl : l = itemsM m) : numR l 1 = m.st.length ∧ ∃ x, l[0]? = some x ∧ x.t = true := by
  obtain ⟨_, _, h3, _, _⟩ := mayM_facts hm
  refine ⟨numR_nIt (p := m.st.length) (by rw [hl]; rfl) (by omega) (by omega), _, by rw [hl]; rfl, rfl⟩
theorem left_all {l : List Pk.Itm} {S : List (List Int)} {a : Nat} (h : left l S a) {m : Mat} (hm : mayM m = true) (hl : l = itemsM m) (hS : ¬ S.length < m.st.length) (ha : a ≤ l.length) : a = l.length := by
  obtain ⟨T, h1, h2⟩ := h m hm hl
  have : T = [] := by
    cases T with
    | nil => rfl
    | cons t T => rw [h1] at hS; simp at hS
  subst this
  have := congrArg List.length h2
  simp only [List.length_drop, List.flatMap_nil, List.length_nil] at this
  omega
end Go.Ev

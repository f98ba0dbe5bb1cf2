/- Gates, plainly: what goes in comes out, and barriers stand between. Own work. -/
import Derived.Test.YthimgonpkhoodaaGr
namespace Go.Gp
set_option linter.unusedVariables false
set_option linter.unusedSimpArgs false

/-- A text's bytes, of its number. -/
def codeT (v : Int) : Txt := [UInt8.ofNat (v.toNat % 256), UInt8.ofNat (v.toNat / 256 % 256)]
/-- What went in, as the gate has it: a nought is a barrier, whose number is the next. -/
def itemsOf : List Int → Int → List (Txt × Int)
  | [], _ => []
  | v :: l, b => if v = 0 then ([], b + 1) :: itemsOf l (b + 1) else (codeT v, 0) :: itemsOf l b
def zeros : List Int → Int
  | [] => 0
  | v :: l => (if v = 0 then 1 else 0) + zeros l
theorem zeros_nonneg : ∀ l, 0 ≤ zeros l
  | [] => Int.le_refl _
  | v :: l => by have := zeros_nonneg l; simp only [zeros]; split <;> omega
theorem zeros_le : ∀ l, zeros l ≤ l.length
  | [] => Int.le_refl _
  | v :: l => by have := zeros_le l; simp only [zeros, List.length_cons]; split <;> omega
theorem zeros_snoc (l : List Int) (v : Int) : zeros (l ++ [v]) = zeros l + if v = 0 then 1 else 0 := by
  induction l with
  | nil => simp [zeros]
  | cons a l ih => simp only [List.cons_append, zeros, ih]; omega
theorem zeros_app (l m : List Int) : zeros (l ++ m) = zeros l + zeros m := by
  induction l with
  | nil => simp [zeros]
  | cons a l ih => simp only [List.cons_append, zeros, ih]; omega
theorem items_snoc (l : List Int) (v b : Int) : itemsOf (l ++ [v]) b = itemsOf l b ++ (if v = 0 then [([], b + zeros l + 1)] else [(codeT v, 0)]) := by
  induction l generalizing b with
  | nil => simp only [List.nil_append, itemsOf, zeros]; split <;> simp
  | cons a l ih =>
    simp only [List.cons_append, itemsOf, zeros]
    by_cases h : a = 0
    · simp only [h, if_true, ih, List.cons_append]
      rw [show b + (1 + zeros l) = b + 1 + zeros l by omega]
    · simp only [h, if_false, ih, List.cons_append]
      rw [show b + (0 + zeros l) = b + zeros l by omega]
theorem items_len (l : List Int) (b : Int) : (itemsOf l b).length = l.length := by
  induction l generalizing b with
  | nil => rfl
  | cons a l ih => simp only [itemsOf]; split <;> simp [ih]
theorem drop_cons {l : List Int} {o : Nat} {v : Int} (h : l[o]? = some v) : l.drop o = v :: l.drop (o + 1) := by
  have ho := (List.getElem?_eq_some_iff.1 h).1
  rw [List.drop_eq_getElem_cons ho]
  congr 1
  exact (List.getElem?_eq_some_iff.1 h).2

/-- One channel: what went in, and how many came out. -/
structure InC where
  l : List Int
  o : Nat
def okIn (x : Chn) (y : InC) (told : Int) : Prop := y.o ≤ y.l.length ∧ x.items = itemsOf (y.l.drop y.o) told ∧ x.owed = 0 ∧ x.next = zeros y.l + 1 ∧ zeros (y.l.take y.o) = told ∧ (∀ v ∈ y.l, 0 ≤ v ∧ v ≤ 300) ∧ x.items.length + x.free ≤ 256
structure Al (G : AG) (I : List InC) (told : Int) : Prop where
  len : G.cs.length = I.length
  told0 : 0 ≤ told
  ok : ∀ (k : Nat) (x : Chn) (y : InC), G.cs[k]? = some x → I[k]? = some y → okIn x y told

theorem okIn_head {x : Chn} {y : InC} {told : Int} (h : okIn x y told) (ht : 0 ≤ told) {it : Txt × Int} {r : List (Txt × Int)} (hi : x.items = it :: r) :
    ∃ v, y.l[y.o]? = some v ∧ ((v = 0 ∧ it = ([], told + 1) ∧ r = itemsOf (y.l.drop (y.o + 1)) (told + 1)) ∨ (v ≠ 0 ∧ it = (codeT v, 0) ∧ r = itemsOf (y.l.drop (y.o + 1)) told)) := by
  obtain ⟨h1, h2, _⟩ := h
  rw [h2] at hi
  cases hv : y.l[y.o]? with
  | none =>
    have := List.getElem?_eq_none_iff.1 hv
    rw [List.drop_eq_nil_of_le this] at hi; cases hi
  | some v =>
    rw [drop_cons hv] at hi
    simp only [itemsOf] at hi
    refine ⟨v, rfl, ?_⟩
    by_cases e : v = 0
    · rw [if_pos e] at hi
      obtain ⟨rfl, rfl⟩ := List.cons.inj hi
      exact .inl ⟨e, rfl, rfl⟩
    · rw [if_neg e] at hi
      obtain ⟨rfl, rfl⟩ := List.cons.inj hi
      exact .inr ⟨e, rfl, rfl⟩
theorem take_succ_of {l : List Int} {o : Nat} {v : Int} (h : l[o]? = some v) : l.take (o + 1) = l.take o ++ [v] := by rw [List.take_add_one, h]; rfl
/-- A channel's barrier stands first: in what went in, there is a nought. -/
theorem okIn_blk {x : Chn} {y : InC} {told : Int} (h : okIn x y told) (ht : 0 ≤ told) (hb : blk x = true) : y.o < y.l.length ∧ y.l[y.o]? = some 0 ∧ (takeX x).1 = ([], told + 1) ∧ okIn (takeX x).2 ⟨y.l, y.o + 1⟩ (told + 1) := by
  unfold blk at hb
  cases hi : x.items with
  | nil => rw [hi] at hb; cases hb
  | cons it r =>
    rw [hi] at hb
    obtain ⟨v, hv, hor⟩ := okIn_head h ht hi
    have hol := (List.getElem?_eq_some_iff.1 hv).1
    rcases hor with ⟨rfl, rfl, rfl⟩ | ⟨hne, rfl, rfl⟩
    · obtain ⟨h1, h2, h3, h4, h5, h6, h7⟩ := h
      rw [hi] at h7
      refine ⟨hol, hv, by unfold takeX; rw [hi], ?_⟩
      unfold takeX; rw [hi]
      refine ⟨hol, rfl, h3, h4, ?_, h6, ?_⟩
      · dsimp only; rw [take_succ_of hv, zeros_snoc, h5]; simp
      · simp only [List.length_cons] at h7; dsimp only; omega
    · simp at hb
/-- A text stands first. -/
theorem okIn_ready {x : Chn} {y : InC} {told : Int} (h : okIn x y told) (ht : 0 ≤ told) (hr : ready x = true) : ∃ v, y.l[y.o]? = some v ∧ v ≠ 0 ∧ 0 ≤ v ∧ v ≤ 300 ∧ (takeX x).1 = (codeT v, 0) ∧ okIn (takeX x).2 ⟨y.l, y.o + 1⟩ told := by
  unfold ready at hr
  simp only [Bool.and_eq_true, Bool.not_eq_true', decide_eq_true_eq] at hr
  obtain ⟨hr1, hr2⟩ := hr
  cases hi : x.items with
  | nil => rw [hi] at hr1; simp at hr1
  | cons it r =>
    obtain ⟨v, hv, hor⟩ := okIn_head h ht hi
    have hol := (List.getElem?_eq_some_iff.1 hv).1
    rcases hor with ⟨rfl, rfl, rfl⟩ | ⟨hne, rfl, rfl⟩
    · exfalso
      unfold blk at hr2
      rw [hi] at hr2
      simp at hr2; omega
    · obtain ⟨h1, h2, h3, h4, h5, h6, h7⟩ := h
      rw [hi] at h7
      have hvb := h6 v (List.mem_of_getElem? hv)
      refine ⟨v, hv, hne, hvb.1, hvb.2, by unfold takeX; rw [hi], ?_⟩
      unfold takeX; rw [hi]
      refine ⟨hol, rfl, h3, h4, ?_, h6, ?_⟩
      · dsimp only; rw [take_succ_of hv, zeros_snoc, h5]; simp [hne]
      · simp only [List.length_cons] at h7; dsimp only; omega

/-- How many items there are. -/
def tot (G : AG) : Nat := (G.cs.map fun x => x.items.length).sum
theorem sum_set : ∀ (l : List Nat) (k a b : Nat), l[k]? = some a → (l.set k b).sum + a = l.sum + b
  | [], k, a, b, h => by simp at h
  | x :: l, 0, a, b, h => by simp at h; subst h; simp; omega
  | x :: l, k + 1, a, b, h => by have := sum_set l k a b (by simpa using h); simp; omega
/-- What a pull does. -/
theorem al_pull {G : AG} {I : List InC} {told : Int} (h : Al G I told) (ht : G.turn < G.cs.length) :
    (pullA G = ((0, [], 0, 5), G) ∧ ∀ x ∈ G.cs, ready x = false) ∨
    (∃ G', pullA G = ((-1, [], told + 1, 0), G') ∧ Al G' (I.map fun y => ⟨y.l, y.o + 1⟩) (told + 1) ∧ G'.cs.length = G.cs.length ∧ tot G' < tot G ∧ ∀ (k : Nat) (y : InC), I[k]? = some y → y.o < y.l.length ∧ y.l[y.o]? = some 0) ∨
    (∃ (c : Nat) (y : InC) (v : Int) (G' : AG), pullA G = (((c : Int), codeT v, 0, 0), G') ∧ I[c]? = some y ∧ y.l[y.o]? = some v ∧ v ≠ 0 ∧ 0 ≤ v ∧ v ≤ 300 ∧ Al G' (I.set c ⟨y.l, y.o + 1⟩) told ∧ G'.cs.length = G.cs.length ∧ tot G' < tot G) := by
  have hI : ∀ (k : Nat) (x : Chn), G.cs[k]? = some x → ∃ y, I[k]? = some y := fun k x hx => ⟨_, List.getElem?_eq_getElem (by rw [← h.len]; exact (List.getElem?_eq_some_iff.1 hx).1)⟩
  have hX : ∀ (k : Nat) (y : InC), I[k]? = some y → ∃ x, G.cs[k]? = some x := fun k y hy => ⟨_, List.getElem?_eq_getElem (by rw [h.len]; exact (List.getElem?_eq_some_iff.1 hy).1)⟩
  cases hall : G.cs.all blk with
  | true =>
    refine .inr (.inl ⟨⟨G.cs.map fun x => (takeX x).2, G.turn⟩, ?_, ⟨by simp [h.len], by have := h.told0; omega, fun k x y hx hy => ?_⟩, by simp, ?_, fun k y hy => ?_⟩)
    · unfold pullA
      rw [if_pos hall]
      obtain ⟨x, hx⟩ : ∃ x, G.cs.getLast? = some x := by
        cases hl : G.cs.getLast? with
        | none => rw [List.getLast?_eq_none_iff] at hl; rw [hl] at ht; simp at ht
        | some x => exact ⟨x, rfl⟩
      have hm := List.mem_of_getLast? hx
      obtain ⟨k, hk⟩ := List.mem_iff_getElem?.1 hm
      obtain ⟨y, hy⟩ := hI k x hk
      have := (okIn_blk (h.ok k x y hk hy) h.told0 (List.all_eq_true.1 hall x hm)).2.2.1
      rw [hx, Option.map_some, this]; rfl
    · rw [List.getElem?_map] at hx hy
      cases hx0 : G.cs[k]? with
      | none => rw [hx0] at hx; cases hx
      | some x0 =>
        cases hy0 : I[k]? with
        | none => rw [hy0] at hy; cases hy
        | some y0 =>
          rw [hx0] at hx
          rw [hy0] at hy
          cases hx
          cases hy
          exact (okIn_blk (h.ok k x0 y0 hx0 hy0) h.told0 (List.all_eq_true.1 hall x0 (List.mem_of_getElem? hx0))).2.2.2
    · unfold tot
      have key : ∀ l : List Chn, (∀ x ∈ l, blk x = true) → l ≠ [] → ((l.map fun x => (takeX x).2).map fun x => x.items.length).sum < (l.map fun x => x.items.length).sum := by
        have one : ∀ x : Chn, blk x = true → (takeX x).2.items.length + 1 = x.items.length := by
          intro x hb
          unfold blk at hb
          cases hi : x.items with
          | nil => rw [hi] at hb; cases hb
          | cons it r => unfold takeX; rw [hi]; rfl
        intro l
        induction l with
        | nil => intro _ hn; exact absurd rfl hn
        | cons x l ih =>
          intro hl _
          have h1 := one x (hl x (by simp))
          by_cases hn : l = []
          · subst hn; simp; omega
          · have := ih (fun z hz => hl z (by simp [hz])) hn
            simp only [List.map_cons, List.sum_cons]
            omega
      exact key G.cs (fun x hx => List.all_eq_true.1 hall x hx) (fun e => by rw [e] at ht; simp at ht)
    · obtain ⟨x, hx⟩ := hX k y hy
      have := okIn_blk (h.ok k x y hx hy) h.told0 (List.all_eq_true.1 hall x (List.mem_of_getElem? hx))
      exact ⟨this.1, this.2.1⟩
  | false =>
    by_cases hr : ∃ x ∈ G.cs, ready x = true
    · obtain ⟨x, hxm, hxr⟩ := hr
      obtain ⟨i, hi⟩ := List.mem_iff_getElem?.1 hxm
      obtain ⟨c, z, hc, hz, hp⟩ := pull_some hall hi hxr ht
      obtain ⟨y, hy⟩ := hI c z hc
      obtain ⟨v, hv, hv1, hv2, hv3, htk, hok⟩ := okIn_ready (h.ok c z y hc hy) h.told0 hz
      rw [htk] at hp
      refine .inr (.inr ⟨c, y, v, _, hp, hy, hv, hv1, hv2, hv3, ⟨by simp [h.len], h.told0, fun k x' y' hx' hy' => ?_⟩, by simp, ?_⟩)
      · dsimp only at hx'
        by_cases e : c = k
        · subst e
          rw [List.getElem?_set_self (List.getElem?_eq_some_iff.1 hc).1] at hx'
          rw [List.getElem?_set_self (List.getElem?_eq_some_iff.1 hy).1] at hy'
          cases hx'; cases hy'
          exact hok
        · rw [List.getElem?_set_ne e] at hx' hy'
          exact h.ok k x' y' hx' hy'
      · unfold tot
        dsimp only
        rw [List.map_set]
        have h1 : (G.cs.map fun x => x.items.length)[c]? = some z.items.length := by rw [List.getElem?_map, hc]; rfl
        have := sum_set _ c _ ((takeX z).2.items.length) h1
        have h2 : (takeX z).2.items.length + 1 = z.items.length := by
          unfold takeX
          cases hzi : z.items with
          | nil => unfold ready at hz; rw [hzi] at hz; cases hz
          | cons it r => rfl
        omega
    · have hno : ∀ x ∈ G.cs, ready x = false := fun x hx => by
        cases e : ready x with
        | false => rfl
        | true => exact absurd ⟨x, hx, e⟩ hr
      exact .inl ⟨pull_none hall hno, hno⟩
end Go.Gp

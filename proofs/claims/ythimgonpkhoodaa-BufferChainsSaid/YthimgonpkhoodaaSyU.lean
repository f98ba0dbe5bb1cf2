/- SY, part U: many blocks as one entry: opened for one of them, and shut again. Own work. -/
import Derived.Test.YthimgonpkhoodaaSyT
namespace Go.Sy
set_option linter.unusedVariables false
set_option linter.unusedSimpArgs false

theorem apart_of {p q : Bs × Blk} (hp : p.2.isFam = false) (hq : q.2.isFam = false) (h : ApartE p q) : Apart p q := by
  intro hh he
  rcases hh with ⟨a, b⟩ | ⟨a, b⟩
  · exact (h p.1.n).1 ⟨(solid_atom hp).2 ⟨a, rfl⟩, (own_atom hq).2 ⟨b, he.symm⟩⟩
  · exact (h p.1.n).2 ⟨(own_atom hp).2 ⟨a, rfl⟩, (solid_atom hq).2 ⟨b, he.symm⟩⟩
theorem of_apart {p q : Bs × Blk} (hp : p.2.isFam = false) (hq : q.2.isFam = false) (h : Apart p q) : ApartE p q := by
  intro k
  refine ⟨fun ⟨a, b⟩ => ?_, fun ⟨a, b⟩ => ?_⟩
  · rw [solid_atom hp] at a
    rw [own_atom hq] at b
    exact h (.inl ⟨a.1, b.1⟩) (a.2.trans b.2.symm)
  · rw [own_atom hp] at a
    rw [solid_atom hq] at b
    exact h (.inr ⟨a.1, b.1⟩) (a.2.trans b.2.symm)
theorem blkAt_fam {w : World} {p : Bs × Blk} (h : BlkAt w p) : p.2.isFam = false := by
  obtain ⟨b, bk⟩ := p
  cases bk <;> first | rfl | exact h.2.elim

/-- Two lists of entries, told anew one by one. -/
def Retells : SH → SH → Prop
  | [], [] => True
  | p :: l, q :: m => Retell p q ∧ Retells l m
  | _, _ => False
theorem Retells.len : ∀ {A B : SH}, Retells A B → A.length = B.length
  | [], [], _ => rfl
  | p :: l, q :: m, h => by simp [Retells.len h.2]
  | [], _ :: _, h => h.elim
  | _ :: _, [], h => h.elim
theorem Retells.get : ∀ {A B : SH}, Retells A B → ∀ {j : Nat} {q : Bs × Blk}, B[j]? = some q → ∃ p, A[j]? = some p ∧ Retell p q
  | [], [], _, j, q, hq => by simp at hq
  | p :: l, q0 :: m, h, 0, q, hq => by simp at hq; subst hq; exact ⟨p, rfl, h.1⟩
  | p :: l, q0 :: m, h, j + 1, q, hq => by simpa using Retells.get h.2 (by simpa using hq)
  | [], _ :: _, h, _, _, _ => h.elim
  | _ :: _, [], h, _, _, _ => h.elim

/-- Some of many are taken out. -/
theorem Tells.out {H : SH} {i : Nat} {b : Bs} {F A F' : SH} (hi : H[i]? = some (b, .fam F)) (hp : F.Perm (A ++ F')) : Tells H (H.set i (b, .fam F') ++ A) := by
  intro w hw
  have hm := List.mem_of_getElem? hi
  have hF : F.Pairwise Apart ∧ (∀ a ∈ F, BlkAt w a ∧ a.2.isWin = false) := hw.at_ _ hm
  have hpw : (A ++ F').Pairwise Apart := (hp.pairwise_iff fun h => h.symm).1 hF.1
  obtain ⟨hA, hF', hAF⟩ := List.pairwise_append.1 hpw
  have hin : ∀ a, a ∈ A ∨ a ∈ F' → a ∈ F := fun a ha => hp.mem_iff.2 (List.mem_append.2 ha)
  have hfam : ∀ a, a ∈ A ∨ a ∈ F' → a.2.isFam = false := fun a ha => blkAt_fam (hF.2 a (hin a ha)).1
  have hlt : i < H.length := (List.getElem?_eq_some_iff.1 hi).1
  have hlen : (H.set i (b, Blk.fam F')).length = H.length := List.length_set
  -- what stands where
  have hget : ∀ (n : Nat) (q : Bs × Blk), (H.set i (b, .fam F') ++ A)[n]? = some q → (n ≠ i ∧ n < H.length ∧ H[n]? = some q) ∨ (n = i ∧ q = (b, .fam F')) ∨ (H.length ≤ n ∧ A[n - H.length]? = some q) := by
    intro n q hq
    rw [List.getElem?_append] at hq
    split at hq
    · rename_i hn
      rw [hlen] at hn
      rw [List.getElem?_set] at hq
      split at hq
      · rename_i he
        try rw [if_pos hlt] at hq
        exact .inr (.inl ⟨he.symm, (Option.some.inj hq).symm⟩)
      · rename_i he; exact .inl ⟨fun e => he e.symm, hn, hq⟩
    · rename_i hn
      rw [hlen] at hn hq
      exact .inr (.inr ⟨by omega, hq⟩)
  have hsol : ∀ a, a ∈ A → ∀ k, Solid a k → Solid (b, Blk.fam F) k := fun a ha k hk => by
    rw [solid_atom (hfam a (.inl ha))] at hk
    exact ⟨a, hin a (.inl ha), hk.1, hk.2⟩
  have hown : ∀ a, a ∈ A → ∀ k, Own a k → Own (b, Blk.fam F) k := fun a ha k hk => by
    rw [own_atom (hfam a (.inl ha))] at hk
    exact ⟨a, hin a (.inl ha), hk.1, hk.2⟩
  have hsolF : ∀ k, Solid (b, Blk.fam F') k → Solid (b, Blk.fam F) k := fun k ⟨a, ha, h⟩ => ⟨a, hin a (.inr ha), h⟩
  have hownF : ∀ k, Own (b, Blk.fam F') k → Own (b, Blk.fam F) k := fun k ⟨a, ha, h⟩ => ⟨a, hin a (.inr ha), h⟩
  -- of an old one and one of the new ones
  have old : ∀ (n : Nat) (p q : Bs × Blk), n ≠ i → H[n]? = some p → (∀ k, Solid q k → Solid (b, Blk.fam F) k) → (∀ k, Own q k → Own (b, Blk.fam F) k) → ApartE p q := fun n p q hn hpn h1 h2 k =>
    ⟨fun ⟨x, y⟩ => (hw.sep n i p _ hn hpn hi k).1 ⟨x, h2 k y⟩, fun ⟨x, y⟩ => (hw.sep n i p _ hn hpn hi k).2 ⟨x, h1 k y⟩⟩
  have mid : ∀ a, a ∈ A → ApartE (b, Blk.fam F') a := fun a ha k =>
    ⟨fun ⟨⟨a', ha', h1, h2⟩, y⟩ => by
      rw [own_atom (hfam a (.inl ha))] at y
      exact hAF a ha a' ha' (.inr ⟨y.1, h1⟩) (y.2.trans h2.symm), fun ⟨⟨a', ha', h1, h2⟩, y⟩ => by
      rw [solid_atom (hfam a (.inl ha))] at y
      exact hAF a ha a' ha' (.inl ⟨y.1, h1⟩) (y.2.trans h2.symm)⟩
  refine ⟨⟨fun n m p q hnm hn hm => ?_, fun q hq => ?_⟩, fun k ⟨q, hq, ho⟩ => ?_⟩
  · rcases hget n p hn with ⟨n1, n2, n3⟩ | ⟨n1, rfl⟩ | ⟨n1, n2⟩ <;> rcases hget m q hm with ⟨m1, m2, m3⟩ | ⟨m1, rfl⟩ | ⟨m1, m2⟩
    · exact hw.sep n m p q hnm n3 m3
    · exact old n p _ n1 n3 hsolF hownF
    · exact old n p q n1 n3 (hsol q (List.mem_of_getElem? m2)) (hown q (List.mem_of_getElem? m2))
    · exact (old m q _ m1 m3 hsolF hownF).symm
    · exact absurd (n1.trans m1.symm) hnm
    · exact mid q (List.mem_of_getElem? m2)
    · exact (old m q p m1 m3 (hsol p (List.mem_of_getElem? n2)) (hown p (List.mem_of_getElem? n2))).symm
    · exact (mid p (List.mem_of_getElem? n2)).symm
    · obtain ⟨hn3, hn4⟩ := List.getElem?_eq_some_iff.1 n2
      obtain ⟨hm3, hm4⟩ := List.getElem?_eq_some_iff.1 m2
      have hfp := hfam p (.inl (List.mem_of_getElem? n2))
      have hfq := hfam q (.inl (List.mem_of_getElem? m2))
      rw [List.pairwise_iff_getElem] at hA
      by_cases hlt2 : n - H.length < m - H.length
      · have := hA _ _ hn3 hm3 hlt2
        rw [hn4, hm4] at this
        exact of_apart hfp hfq this
      · have := hA _ _ hm3 hn3 (by omega)
        rw [hn4, hm4] at this
        exact (of_apart hfq hfp this).symm
  · obtain ⟨n, hn⟩ := List.mem_iff_getElem?.1 hq
    rcases hget n q hn with ⟨n1, n2, n3⟩ | ⟨n1, rfl⟩ | ⟨n1, n2⟩
    · exact hw.at_ q (List.mem_of_getElem? n3)
    · exact ⟨hF', fun a ha => hF.2 a (hin a (.inr ha))⟩
    · have ha := List.mem_of_getElem? n2
      exact (entry_atom (hfam q (.inl ha))).2 (hF.2 q (hin q (.inl ha))).1
  · obtain ⟨n, hn⟩ := List.mem_iff_getElem?.1 hq
    rcases hget n q hn with ⟨n1, n2, n3⟩ | ⟨n1, rfl⟩ | ⟨n1, n2⟩
    · exact ⟨q, List.mem_of_getElem? n3, ho⟩
    · exact ⟨_, hm, hownF k ho⟩
    · exact ⟨_, hm, hown q (List.mem_of_getElem? n2) k ho⟩

/-- Some more are laid to the many. -/
theorem Tells.in_ {H : SH} {i : Nat} {b : Bs} {F A F' : SH} (hi : H[i]? = some (b, .fam F')) (hA : ∀ a ∈ A, a.2.isFam = false ∧ a.2.isWin = false) (hp : F.Perm (A ++ F')) : Tells (H ++ A) (H.set i (b, .fam F)) := by
  intro w hw
  have hlt : i < H.length := (List.getElem?_eq_some_iff.1 hi).1
  have hi2 : (H ++ A)[i]? = some (b, .fam F') := by rw [List.getElem?_append_left hlt]; exact hi
  have hF' : F'.Pairwise Apart ∧ (∀ a ∈ F', BlkAt w a ∧ a.2.isWin = false) := hw.at_ _ (List.mem_of_getElem? hi2)
  have hat : ∀ j a, A[j]? = some a → (H ++ A)[H.length + j]? = some a := fun j a h => by rw [List.getElem?_append_right (by omega)]; simpa using h
  have hold : ∀ n p, H[n]? = some p → (H ++ A)[n]? = some p := fun n p h => by rw [List.getElem?_append_left (List.getElem?_eq_some_iff.1 h).1]; exact h
  have hblk : ∀ a ∈ A, BlkAt w a := fun a ha => (entry_atom (hA a ha).1).1 (hw.at_ a (List.mem_append_right _ ha))
  have hpA : A.Pairwise Apart := by
    rw [List.pairwise_iff_getElem]
    intro n m hn hm hnm
    refine apart_of (hA _ (List.getElem_mem hn)).1 (hA _ (List.getElem_mem hm)).1 (hw.sep (H.length + n) (H.length + m) _ _ (by omega) (hat n _ (List.getElem?_eq_getElem hn)) (hat m _ (List.getElem?_eq_getElem hm)))
  have hpAF : ∀ a ∈ A, ∀ a' ∈ F', Apart a a' := by
    intro a ha a' ha' hh he
    obtain ⟨n, hn⟩ := List.mem_iff_getElem?.1 ha
    have hs := hw.sep (H.length + n) i a _ (by omega) (hat n a hn) hi2 a.1.n
    have hf := (hA a ha).1
    rcases hh with ⟨x, y⟩ | ⟨x, y⟩
    · exact hs.1 ⟨(solid_atom hf).2 ⟨x, rfl⟩, a', ha', y, he.symm⟩
    · exact hs.2 ⟨(own_atom hf).2 ⟨x, rfl⟩, a', ha', y, he.symm⟩
  have hF : F.Pairwise Apart := (hp.pairwise_iff fun h => h.symm).2 (List.pairwise_append.2 ⟨hpA, hF'.1, hpAF⟩)
  have hmem : ∀ a, a ∈ F → a ∈ A ∨ a ∈ F' := fun a ha => List.mem_append.1 (hp.mem_iff.1 ha)
  have hsolF : ∀ k, Solid (b, Blk.fam F) k → ∃ j q, j ≥ H.length ∧ (H ++ A)[j]? = some q ∧ Solid q k ∨ Solid (b, Blk.fam F') k := fun k ⟨a, ha, h1, h2⟩ => by
    rcases hmem a ha with h | h
    · obtain ⟨n, hn⟩ := List.mem_iff_getElem?.1 h
      exact ⟨H.length + n, a, .inl ⟨by omega, hat n a hn, (solid_atom (hA a h).1).2 ⟨h1, h2⟩⟩⟩
    · exact ⟨0, a, .inr ⟨a, h, h1, h2⟩⟩
  have hownF : ∀ k, Own (b, Blk.fam F) k → ∃ j q, j ≥ H.length ∧ (H ++ A)[j]? = some q ∧ Own q k ∨ Own (b, Blk.fam F') k := fun k ⟨a, ha, h1, h2⟩ => by
    rcases hmem a ha with h | h
    · obtain ⟨n, hn⟩ := List.mem_iff_getElem?.1 h
      exact ⟨H.length + n, a, .inl ⟨by omega, hat n a hn, (own_atom (hA a h).1).2 ⟨h1, h2⟩⟩⟩
    · exact ⟨0, a, .inr ⟨a, h, h1, h2⟩⟩
  have hget : ∀ (n : Nat) (q : Bs × Blk), (H.set i (b, .fam F))[n]? = some q → (n ≠ i ∧ n < H.length ∧ H[n]? = some q) ∨ (n = i ∧ q = (b, .fam F)) := by
    intro n q hq
    rw [List.getElem?_set] at hq
    split at hq
    · rename_i he
      try rw [if_pos hlt] at hq
      exact .inr ⟨he.symm, (Option.some.inj hq).symm⟩
    · rename_i he; exact .inl ⟨fun e => he e.symm, (List.getElem?_eq_some_iff.1 hq).1, hq⟩
  have key : ∀ (n : Nat) (p : Bs × Blk), n ≠ i → H[n]? = some p → ApartE p (b, .fam F) := by
    intro n p hn hpn k
    have hnl := (List.getElem?_eq_some_iff.1 hpn).1
    refine ⟨fun ⟨x, y⟩ => ?_, fun ⟨x, y⟩ => ?_⟩
    · obtain ⟨j, q, h | h⟩ := hownF k y
      · exact (hw.sep n j p q (by omega) (hold n p hpn) h.2.1 k).1 ⟨x, h.2.2⟩
      · exact (hw.sep n i p _ hn (hold n p hpn) hi2 k).1 ⟨x, h⟩
    · obtain ⟨j, q, h | h⟩ := hsolF k y
      · exact (hw.sep n j p q (by omega) (hold n p hpn) h.2.1 k).2 ⟨x, h.2.2⟩
      · exact (hw.sep n i p _ hn (hold n p hpn) hi2 k).2 ⟨x, h⟩
  refine ⟨⟨fun n m p q hnm hn hm => ?_, fun q hq => ?_⟩, fun k ⟨q, hq, ho⟩ => ?_⟩
  · rcases hget n p hn with ⟨n1, n2, n3⟩ | ⟨n1, rfl⟩ <;> rcases hget m q hm with ⟨m1, m2, m3⟩ | ⟨m1, rfl⟩
    · exact hw.sep n m p q hnm (hold n p n3) (hold m q m3)
    · exact key n p n1 n3
    · exact (key m q m1 m3).symm
    · exact absurd (n1.trans m1.symm) hnm
  · obtain ⟨n, hn⟩ := List.mem_iff_getElem?.1 hq
    rcases hget n q hn with ⟨n1, n2, n3⟩ | ⟨n1, rfl⟩
    · exact hw.at_ q (List.mem_of_getElem? (hold n q n3))
    · refine ⟨hF, fun a ha => ?_⟩
      rcases hmem a ha with h | h
      · exact ⟨hblk a h, (hA a h).2⟩
      · exact hF'.2 a h
  · obtain ⟨n, hn⟩ := List.mem_iff_getElem?.1 hq
    rcases hget n q hn with ⟨n1, n2, n3⟩ | ⟨n1, rfl⟩
    · exact ⟨q, List.mem_of_getElem? (hold n q n3), ho⟩
    · obtain ⟨j, q', h | h⟩ := hownF k ho
      · exact ⟨q', List.mem_of_getElem? h.2.1, h.2.2⟩
      · exact ⟨_, List.mem_of_getElem? hi2, h⟩

theorem retells_tells {H A B : SH} (h : Retells A B) : Tells (H ++ A) (H ++ B) := by
  intro w hw
  have hget : ∀ (n : Nat) (q : Bs × Blk), (H ++ B)[n]? = some q → ∃ p, (H ++ A)[n]? = some p ∧ Retell p q := by
    intro n q hq
    by_cases hn : n < H.length
    · rw [List.getElem?_append_left hn] at hq
      exact ⟨q, by rw [List.getElem?_append_left hn]; exact hq, Retell.refl _⟩
    · rw [List.getElem?_append_right (by omega)] at hq
      obtain ⟨p, hp, hr⟩ := h.get hq
      exact ⟨p, by rw [List.getElem?_append_right (by omega)]; exact hp, hr⟩
  refine ⟨⟨fun n m p q hnm hn hm => ?_, fun q hq => ?_⟩, fun k ⟨q, hq, ho⟩ => ?_⟩
  · obtain ⟨p0, hp0, r⟩ := hget n p hn
    obtain ⟨q0, hq0, r'⟩ := hget m q hm
    have hsep := hw.sep n m p0 q0 hnm hp0 hq0
    have r := r w (hw.at_ _ (List.mem_of_getElem? hp0))
    have r' := r' w (hw.at_ _ (List.mem_of_getElem? hq0))
    exact fun k => ⟨fun ⟨a, b⟩ => (hsep k).1 ⟨r.2.1 k a, r'.2.2 k b⟩, fun ⟨a, b⟩ => (hsep k).2 ⟨r.2.2 k a, r'.2.1 k b⟩⟩
  · obtain ⟨n, hn⟩ := List.mem_iff_getElem?.1 hq
    obtain ⟨p, hp, r⟩ := hget n q hn
    exact (r w (hw.at_ _ (List.mem_of_getElem? hp))).1
  · obtain ⟨n, hn⟩ := List.mem_iff_getElem?.1 hq
    obtain ⟨p, hp, r⟩ := hget n q hn
    exact ⟨p, List.mem_of_getElem? hp, (r w (hw.at_ _ (List.mem_of_getElem? hp))).2.2 k ho⟩

/-! ### many things, of each the same blocks -/
theorem flatMap_pick {α β : Type _} (g : α → List β) : ∀ (L : List α) (k : Nat) (x : α), L[k]? = some x → (L.flatMap g).Perm (g x ++ (L.eraseIdx k).flatMap g)
  | y :: L, 0, x, h => by simp at h; subst h; simp
  | y :: L, k + 1, x, h => by
    have ih := flatMap_pick g L k x (by simpa using h)
    simp only [List.flatMap_cons, List.eraseIdx_cons_succ]
    refine (ih.append_left (g y)).trans ?_
    rw [← List.append_assoc, ← List.append_assoc]
    exact List.Perm.append_right _ List.perm_append_comm
theorem eraseIdx_set {α : Type _} : ∀ (L : List α) (k : Nat) (x : α), (L.set k x).eraseIdx k = L.eraseIdx k
  | [], k, x => by simp
  | y :: L, 0, x => by simp
  | y :: L, k + 1, x => by simp [eraseIdx_set L k x]

/-- Many things: of each the blocks that 'f' tells; the number is the place of the first of them, where they are out. -/
abbrev famB {α : Type} (f : Nat → α → SH) (L : List α) : Blk := .fam (L.flatMap (f 0))
theorem Tells.openK {α : Type} {f : Nat → α → SH} {H : SH} (i : Nat) {b : Bs} {L : List α} (k : Nat) {x : α} (hi : H[i]? = some (b, famB f L)) (hx : L[k]? = some x) (hr : Retells (f 0 x) (f H.length x)) :
    Tells H (H.set i (b, famB f (L.eraseIdx k)) ++ f H.length x) :=
  (Tells.out hi (flatMap_pick (f 0) L k x hx)).trans (retells_tells hr)
theorem Tells.closeK {α : Type} {f : Nat → α → SH} {H : SH} (i : Nat) {b : Bs} {L : List α} (k : Nat) {x : α} (hi : H[i]? = some (b, famB f (L.eraseIdx k))) (hk : k < L.length) (hr : Retells (f H.length x) (f 0 x))
    (hA : ∀ a ∈ f 0 x, a.2.isFam = false ∧ a.2.isWin = false) : Tells (H ++ f H.length x) (H.set i (b, famB f (L.set k x))) := by
  refine (retells_tells hr).trans (Tells.in_ hi hA ?_)
  have := flatMap_pick (f 0) (L.set k x) k x (by rw [List.getElem?_set_self hk])
  rwa [eraseIdx_set] at this
theorem Tells.addK {α : Type} {f : Nat → α → SH} {H : SH} (i : Nat) {b : Bs} {L : List α} {x : α} (hi : H[i]? = some (b, famB f L)) (hr : Retells (f H.length x) (f 0 x))
    (hA : ∀ a ∈ f 0 x, a.2.isFam = false ∧ a.2.isWin = false) : Tells (H ++ f H.length x) (H.set i (b, famB f (L ++ [x]))) := by
  refine (retells_tells hr).trans (Tells.in_ hi hA ?_)
  rw [List.flatMap_append]
  simpa using List.perm_append_comm

/-- Its arguments are told in other words. -/
theorem FnOb.args {P : Program} {f : FuncId} {args args' : List SV} {H : SH} {K : SV → SH → Prop} (e : denL args = denL args') (h : FnOb P f args' H K) : FnOb P f args H K := ⟨fun w hw => by rw [e]; exact h.run w hw⟩
end Go.Sy

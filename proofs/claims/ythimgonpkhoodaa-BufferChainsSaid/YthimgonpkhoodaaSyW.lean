/- SY, part W: rows of slices: what came in, whose elements hold slices; windows into them. Own work. -/
import Derived.Test.YthimgonpkhoodaaSyU
import Derived.Test.YthimgonpkhoodaaSyV
import Derived.Test.YthimgonpkhoodaaSyR
namespace Go.Sy
open Go.RowKit Go.ChangeShapes Go.WideShapes Go.ChangeAt Go.Deep
set_option linter.unusedVariables false
set_option linter.unusedSimpArgs false

/-! ### many windows -/
theorem solid_wins {b : Bs} {F : SH} {k : Nat} : Solid (b, .wins F) k ↔ ∃ a ∈ F, solid a ∧ a.1.n = k := Iff.rfl
theorem entry_win {w : World} {a : Bs × Blk} (h : a.2.isWin = true) (hb : BlkAt w a) : EntryAt w a := by
  obtain ⟨b, bk⟩ := a
  cases bk with
  | win => exact hb
  | wins => exact False.elim hb.2
  | _ => cases h
theorem solid_win {a : Bs × Blk} {k : Nat} {w : World} (h : a.2.isWin = true) (hb : BlkAt w a) (hs : Solid a k) : solid a ∧ a.1.n = k := by
  obtain ⟨b, bk⟩ := a
  cases bk with
  | win => exact hs
  | wins => exact False.elim hb.2
  | _ => cases h
/-- One of many windows is laid where a window (or anything) was. -/
theorem Tells.turn {H : SH} (i j : Nat) {b : Bs} {F : SH} {a : Bs × Blk} (hi : H[i]? = some (b, .wins F)) (ha : a ∈ F) : Tells H (H.set j a) := by
  intro w hw
  have hF : ∀ a ∈ F, BlkAt w a ∧ a.2.isWin = true := hw.at_ _ (List.mem_of_getElem? hi)
  have hA := hF a ha
  have hget : ∀ (n : Nat) (q : Bs × Blk), (H.set j a)[n]? = some q → q = a ∨ (n ≠ j ∧ H[n]? = some q) := by
    intro n q hq
    rw [List.getElem?_set] at hq
    split at hq
    · split at hq
      · exact .inl (Option.some.inj hq).symm
      · cases hq
    · rename_i h; exact .inr ⟨fun e => h e.symm, hq⟩
  have hno : ∀ k, ¬ Own a k := fun k => noown_win hA.2 k
  have hsol : ∀ k, Solid a k → Solid (b, .wins F) k := fun k hk => ⟨a, ha, solid_win hA.2 hA.1 hk⟩
  have key : ∀ n q, H[n]? = some q → ApartE a q := fun n q hn k => ⟨fun ⟨x, y⟩ => by
    by_cases hni : n = i
    · subst hni
      rw [hi] at hn
      obtain rfl := Option.some.inj hn
      exact noown_win rfl k y
    · exact (hw.sep i n _ q (fun e => hni e.symm) hi hn k).1 ⟨hsol k x, y⟩, fun ⟨x, _⟩ => hno k x⟩
  refine ⟨⟨fun n m p q hnm hn hm => ?_, fun q hq => ?_⟩, fun k ⟨q, hq, ho⟩ => ?_⟩
  · rcases hget n p hn with rfl | ⟨n1, n2⟩ <;> rcases hget m q hm with rfl | ⟨m1, m2⟩
    · exact fun k => ⟨fun ⟨_, y⟩ => hno k y, fun ⟨x, _⟩ => hno k x⟩
    · exact key m q m2
    · exact (key n p n2).symm
    · exact hw.sep n m p q hnm n2 m2
  · obtain ⟨n, hn⟩ := List.mem_iff_getElem?.1 hq
    rcases hget n q hn with rfl | ⟨n1, n2⟩
    · exact entry_win hA.2 hA.1
    · exact hw.at_ q (List.mem_of_getElem? n2)
  · obtain ⟨n, hn⟩ := List.mem_iff_getElem?.1 hq
    rcases hget n q hn with rfl | ⟨n1, n2⟩
    · exact absurd ho (hno k)
    · exact ⟨q, List.mem_of_getElem? n2, ho⟩
/-- An empty window is laid anywhere. -/
theorem Tells.none_ {H : SH} {b : Bs} {α : Type} {enc : α → List SV} {wd : Nat} : Tells H (H ++ [(b, .win enc wd [])]) := by
  intro w hw
  have hns : ∀ k, ¬ Solid ((b, .win enc wd []) : Bs × Blk) k := fun k hk => by
    rcases hk.1 with h | h
    · exact h
    · exact h.2 rfl
  have hno : ∀ k, ¬ Own ((b, .win enc wd []) : Bs × Blk) k := fun k hk => hk.1
  have hget : ∀ (n : Nat) (q : Bs × Blk), (H ++ [(b, .win enc wd [])])[n]? = some q → q = (b, .win enc wd []) ∨ H[n]? = some q := by
    intro n q hq
    rw [List.getElem?_append] at hq
    split at hq
    · exact .inr hq
    · refine .inl ?_
      have := List.mem_of_getElem? hq
      simpa using this
  have key : ∀ q, ApartE (b, .win enc wd []) q := fun q k => ⟨fun ⟨x, _⟩ => hns k x, fun ⟨x, _⟩ => hno k x⟩
  refine ⟨⟨fun n m p q hnm hn hm => ?_, fun q hq => ?_⟩, fun k ⟨q, hq, ho⟩ => ?_⟩
  · rcases hget n p hn with rfl | n2
    · exact key q
    · rcases hget m q hm with rfl | m2
      · exact (key p).symm
      · exact hw.sep n m p q hnm n2 m2
  · obtain ⟨n, hn⟩ := List.mem_iff_getElem?.1 hq
    rcases hget n q hn with rfl | n2
    · exact ⟨fun x hx => by simp at hx, fun n v hv => by simp at hv⟩
    · exact hw.at_ q (List.mem_of_getElem? n2)
  · obtain ⟨n, hn⟩ := List.mem_iff_getElem?.1 hq
    rcases hget n q hn with rfl | n2
    · exact absurd ho (hno k)
    · exact ⟨q, List.mem_of_getElem? n2, ho⟩

/-- One of many windows is looked at. -/
theorem Tells.look {H : SH} (i : Nat) {b : Bs} {F : SH} {a : Bs × Blk} (hi : H[i]? = some (b, .wins F)) (ha : a ∈ F) : Tells H (H ++ [a]) := by
  refine (Tells.none_ (b := (⟨0, 0⟩ : Bs)) (enc := fun _ : Unit => []) (wd := 0)).trans ?_
  have h := Tells.turn (H := H ++ [((⟨0, 0⟩ : Bs), .win (fun _ : Unit => []) 0 [])]) i H.length (b := b) (F := F) (a := a) (by rw [List.getElem?_append_left (List.getElem?_eq_some_iff.1 hi).1]; exact hi) ha
  simpa using h

def LendsL : SH → SH → Prop
  | [], [] => True
  | p :: F, a :: F' => (p.2.isFam = false ∧ a.2.isFam = false ∧ Lends p a) ∧ LendsL F F'
  | _, _ => False
theorem LendsL.get : ∀ {F F' : SH}, LendsL F F' → ∀ a ∈ F', ∃ p ∈ F, p.2.isFam = false ∧ a.2.isFam = false ∧ Lends p a
  | [], [], _, a, ha => by simp at ha
  | p :: F, q :: F', h, a, ha => by
    rcases List.mem_cons.1 ha with rfl | ha
    · exact ⟨p, by simp, h.1⟩
    · obtain ⟨p', hp, hl⟩ := LendsL.get h.2 a ha
      exact ⟨p', by simp [hp], hl⟩
  | [], _ :: _, h, _, _ => h.elim
  | _ :: _, [], h, _, _ => h.elim
/-- Many windows into many blocks of one's own. -/
theorem Lends.famOf {b b' : Bs} {F F' : SH} (h : ∀ a ∈ F', ∃ p ∈ F, p.2.isFam = false ∧ a.2.isFam = false ∧ Lends p a) : Lends (b, .fam F) (b', .wins F') := by
  refine ⟨rfl, fun w hw => ?_⟩
  have hF : F.Pairwise Apart ∧ (∀ a ∈ F, BlkAt w a ∧ a.2.isWin = false) := hw
  refine ⟨fun a ha => ?_, fun k ⟨a, ha, hs, hk⟩ => ?_⟩
  · obtain ⟨p, hp, h1, h2, hl⟩ := h a ha
    exact ⟨(entry_atom h2).1 (hl.2 w ((entry_atom h1).2 (hF.2 p hp).1)).1, hl.1⟩
  · obtain ⟨p, hp, h1, h2, hl⟩ := h a ha
    have ho := (hl.2 w ((entry_atom h1).2 (hF.2 p hp).1)).2 k ((solid_atom h2).2 ⟨hs, hk⟩)
    have ho' := (own_atom h1).1 ho
    exact ⟨p, hp, ho'.1, ho'.2⟩
theorem Lends.fam {b b' : Bs} {F F' : SH} (h : LendsL F F') : Lends (b, .fam F) (b', .wins F') := Lends.famOf h.get
/-- Two blocks are laid together, where the first was. -/
theorem Tells.gather2 {H : SH} (i j : Nat) {p q : Bs × Blk} (hij : i ≠ j) (hi : H[i]? = some p) (hj : H[j]? = some q) (hp : p.2.isFam = false) (hq : q.2.isFam = false) (hp' : p.2.isWin = false) (hq' : q.2.isWin = false) :
    Tells H ((H.set i (⟨0, 0⟩, .fam [p, q])).set j (⟨0, 0⟩, .fam [])) := by
  intro w hw
  have hli := (List.getElem?_eq_some_iff.1 hi).1
  have hlj := (List.getElem?_eq_some_iff.1 hj).1
  have hS : ∀ k, Solid ((⟨0, 0⟩ : Bs), Blk.fam [p, q]) k → Solid p k ∨ Solid q k := by
    rintro k ⟨a, ha, h1, h2⟩
    rcases List.mem_cons.1 ha with rfl | ha
    · exact .inl ((solid_atom hp).2 ⟨h1, h2⟩)
    · obtain rfl : a = q := by simpa using ha
      exact .inr ((solid_atom hq).2 ⟨h1, h2⟩)
  have hO : ∀ k, Own ((⟨0, 0⟩ : Bs), Blk.fam [p, q]) k → Own p k ∨ Own q k := by
    rintro k ⟨a, ha, h1, h2⟩
    rcases List.mem_cons.1 ha with rfl | ha
    · exact .inl ((own_atom hp).2 ⟨h1, h2⟩)
    · obtain rfl : a = q := by simpa using ha
      exact .inr ((own_atom hq).2 ⟨h1, h2⟩)
  have hS0 : ∀ k, ¬ Solid ((⟨0, 0⟩ : Bs), Blk.fam []) k := fun k ⟨a, ha, _⟩ => by simp at ha
  have hO0 : ∀ k, ¬ Own ((⟨0, 0⟩ : Bs), Blk.fam []) k := fun k ⟨a, ha, _⟩ => by simp at ha
  have hget : ∀ (n : Nat) (x : Bs × Blk), ((H.set i (⟨0, 0⟩, .fam [p, q])).set j (⟨0, 0⟩, .fam []))[n]? = some x → (n = i ∧ x = (⟨0, 0⟩, .fam [p, q])) ∨ (n = j ∧ x = (⟨0, 0⟩, .fam [])) ∨ (n ≠ i ∧ n ≠ j ∧ H[n]? = some x) := by
    intro n x hx
    rw [List.getElem?_set] at hx
    split at hx
    · rename_i h
      split at hx
      · exact .inr (.inl ⟨h.symm, (Option.some.inj hx).symm⟩)
      · cases hx
    · rename_i h
      rw [List.getElem?_set] at hx
      split at hx
      · rename_i h'
        try rw [if_pos hli] at hx
        exact .inl ⟨h'.symm, (Option.some.inj hx).symm⟩
      · rename_i h'; exact .inr (.inr ⟨fun e => h' e.symm, fun e => h e.symm, hx⟩)
  have key : ∀ n x, n ≠ i → n ≠ j → H[n]? = some x → ApartE (⟨0, 0⟩, .fam [p, q]) x := fun n x h1 h2 hx k => by
    have a := hw.sep i n p x (fun e => h1 e.symm) hi hx k
    have b := hw.sep j n q x (fun e => h2 e.symm) hj hx k
    exact ⟨fun ⟨u, v⟩ => (hS k u).elim (fun u => a.1 ⟨u, v⟩) (fun u => b.1 ⟨u, v⟩), fun ⟨u, v⟩ => (hO k u).elim (fun u => a.2 ⟨u, v⟩) (fun u => b.2 ⟨u, v⟩)⟩
  have key0 : ∀ x, ApartE (⟨0, 0⟩, .fam []) x := fun x k => ⟨fun ⟨u, _⟩ => hS0 k u, fun ⟨u, _⟩ => hO0 k u⟩
  refine ⟨⟨fun n m x y hnm hn hm => ?_, fun x hx => ?_⟩, fun k ⟨x, hx, ho⟩ => ?_⟩
  · rcases hget n x hn with ⟨n1, rfl⟩ | ⟨n1, rfl⟩ | ⟨n1, n2, n3⟩
    · rcases hget m y hm with ⟨m1, rfl⟩ | ⟨m1, rfl⟩ | ⟨m1, m2, m3⟩
      · exact absurd (n1.trans m1.symm) hnm
      · exact (key0 _).symm
      · exact key m y m1 m2 m3
    · exact key0 _
    · rcases hget m y hm with ⟨m1, rfl⟩ | ⟨m1, rfl⟩ | ⟨m1, m2, m3⟩
      · exact (key n x n1 n2 n3).symm
      · exact (key0 _).symm
      · exact hw.sep n m x y hnm n3 m3
  · obtain ⟨n, hn⟩ := List.mem_iff_getElem?.1 hx
    rcases hget n x hn with ⟨n1, rfl⟩ | ⟨n1, rfl⟩ | ⟨n1, n2, n3⟩
    · refine ⟨List.pairwise_cons.2 ⟨fun a ha => ?_, List.pairwise_singleton _ _⟩, fun a ha => ?_⟩
      · obtain rfl : a = q := by simpa using ha
        exact apart_of hp hq (hw.sep i j p _ hij hi hj)
      · rcases List.mem_cons.1 ha with rfl | ha
        · exact ⟨(entry_atom hp).1 (hw.at_ _ (List.mem_of_getElem? hi)), hp'⟩
        · obtain rfl : a = q := by simpa using ha
          exact ⟨(entry_atom hq).1 (hw.at_ _ (List.mem_of_getElem? hj)), hq'⟩
    · exact ⟨List.Pairwise.nil, fun a ha => by simp at ha⟩
    · exact hw.at_ x (List.mem_of_getElem? n3)
  · obtain ⟨n, hn⟩ := List.mem_iff_getElem?.1 hx
    rcases hget n x hn with ⟨n1, rfl⟩ | ⟨n1, rfl⟩ | ⟨n1, n2, n3⟩
    · rcases hO k ho with h | h
      · exact ⟨p, List.mem_of_getElem? hi, h⟩
      · exact ⟨q, List.mem_of_getElem? hj, h⟩
    · exact absurd ho (hO0 k)
    · exact ⟨x, List.mem_of_getElem? n3, ho⟩

/-- One block told anew. -/
theorem Tells.one {H : SH} (i : Nat) {p q : Bs × Blk} (hi : H[i]? = some p) (hr : Retell p q) : Tells H (H.set i q) := by
  intro w hw
  have hp := hr w (hw.at_ _ (List.mem_of_getElem? hi))
  have hget : ∀ (n : Nat) (x : Bs × Blk), (H.set i q)[n]? = some x → (n = i ∧ x = q) ∨ (n ≠ i ∧ H[n]? = some x) := by
    intro n x hx
    rw [List.getElem?_set] at hx
    split at hx
    · rename_i h
      split at hx
      · exact .inl ⟨h.symm, (Option.some.inj hx).symm⟩
      · cases hx
    · rename_i h; exact .inr ⟨fun e => h e.symm, hx⟩
  have key : ∀ n x, n ≠ i → H[n]? = some x → ApartE q x := fun n x hn hx k => by
    have := hw.sep i n p x (fun e => hn e.symm) hi hx k
    exact ⟨fun ⟨a, b⟩ => this.1 ⟨hp.2.1 k a, b⟩, fun ⟨a, b⟩ => this.2 ⟨hp.2.2 k a, b⟩⟩
  refine ⟨⟨fun n m x y hnm hn hm => ?_, fun x hx => ?_⟩, fun k ⟨x, hx, ho⟩ => ?_⟩
  · rcases hget n x hn with ⟨n1, rfl⟩ | ⟨n1, n2⟩
    · rcases hget m y hm with ⟨m1, rfl⟩ | ⟨m1, m2⟩
      · exact absurd (n1.trans m1.symm) hnm
      · exact key m y m1 m2
    · rcases hget m y hm with ⟨m1, rfl⟩ | ⟨m1, m2⟩
      · exact (key n x n1 n2).symm
      · exact hw.sep n m x y hnm n2 m2
  · obtain ⟨n, hn⟩ := List.mem_iff_getElem?.1 hx
    rcases hget n x hn with ⟨n1, rfl⟩ | ⟨n1, n2⟩
    · exact hp.1
    · exact hw.at_ x (List.mem_of_getElem? n2)
  · obtain ⟨n, hn⟩ := List.mem_iff_getElem?.1 hx
    rcases hget n x hn with ⟨n1, rfl⟩ | ⟨n1, n2⟩
    · exact ⟨p, List.mem_of_getElem? hi, hp.2.2 k ho⟩
    · exact ⟨x, List.mem_of_getElem? n2, ho⟩

/-! ### slices in slices -/
structure Row (α : Type) where
  z : Bool
  b : Bs
  c : Nat
  l : List α
def Row.none {α : Type} : Row α := ⟨true, ⟨0, 0⟩, 0, []⟩
/-- Its head, of rows of so many cells; its own rows are looked for at the place h. -/
abbrev Row.enc {α : Type} (wd h : Nat) (x : Row α) : List SV := [.sl h x.z x.b wd 0 x.l.length x.c]
abbrev Row.win {α : Type} (en : α → List SV) (wd : Nat) (x : Row α) : Bs × Blk := (x.b, .win en wd x.l)
abbrev winsB {α : Type} (en : α → List SV) (wd : Nat) (L : List (Row α)) : Blk := .wins (L.map (Row.win en wd))
theorem Row.den {α : Type} {wd h h' : Nat} (L : List (Row α)) : denL (L.flatMap (Row.enc wd h)) = denL (L.flatMap (Row.enc wd h')) := by
  induction L with
  | nil => rfl
  | cons a L ih => simp only [List.flatMap_cons, denL_append, ih]; rfl
/-- The window of one of many: behind the last there is none. -/
abbrev curW {α : Type} (en : α → List SV) (wd : Nat) (L : List (Row α)) (k : Nat) : Bs × Blk := Row.win en wd (L.getD k .none)
theorem curW_eq {α : Type} {en : α → List SV} {wd : Nat} {L : List (Row α)} {k : Nat} {x : Row α} (h : L[k]? = some x) : curW en wd L k = Row.win en wd x := by
  unfold curW; rw [List.getD_eq_getElem?_getD, h]; rfl
theorem Tells.cur {α : Type} {en : α → List SV} {wd : Nat} {L : List (Row α)} {H : SH} (i j k : Nat) {b : Bs} (hi : H[i]? = some (b, winsB en wd L)) (hj : ∃ b' β, ∃ (en' : β → List SV) (wd' : Nat) (l' : List β), H[j]? = some (b', .win en' wd' l')) :
    Tells H (H.set j (curW en wd L k)) := by
  by_cases hk : k < L.length
  · have hx : L[k]? = some L[k] := List.getElem?_eq_getElem hk
    rw [curW_eq hx]
    exact Tells.turn i j hi (List.mem_map_of_mem (List.getElem_mem hk))
  · unfold curW
    rw [List.getD_eq_getElem?_getD, List.getElem?_eq_none (by omega)]
    intro w hw
    have h1 := (Tells.none_ (H := H) (b := (⟨0, 0⟩ : Bs)) (enc := en) (wd := wd)) w hw
    have hget : ∀ (n : Nat) (q : Bs × Blk), (H.set j (Row.win en wd (Row.none (α := α))))[n]? = some q → (n = j ∧ q = (⟨0, 0⟩, .win en wd [])) ∨ (n ≠ j ∧ H[n]? = some q) := by
      intro n q hq
      rw [List.getElem?_set] at hq
      split at hq
      · rename_i h
        split at hq
        · exact .inl ⟨h.symm, (Option.some.inj hq).symm⟩
        · cases hq
      · rename_i h; exact .inr ⟨fun e => h e.symm, hq⟩
    have hold : ∀ n q, H[n]? = some q → (H ++ [((⟨0, 0⟩ : Bs), .win en wd [])])[n]? = some q := fun n q h => by
      rw [List.getElem?_append_left (List.getElem?_eq_some_iff.1 h).1]; exact h
    have hnew : (H ++ [((⟨0, 0⟩ : Bs), .win en wd [])])[H.length]? = some (⟨0, 0⟩, .win en wd []) := by
      rw [List.getElem?_append_right (Nat.le_refl _)]; simp
    refine ⟨⟨fun n m p q hnm hn hm => ?_, fun q hq => ?_⟩, fun k ⟨q, hq, ho⟩ => ?_⟩
    · rcases hget n p hn with ⟨n1, rfl⟩ | ⟨n1, n2⟩ <;> rcases hget m q hm with ⟨m1, rfl⟩ | ⟨m1, m2⟩
      · exact absurd (n1.trans m1.symm) hnm
      · exact h1.1.sep H.length m _ q (by have := (List.getElem?_eq_some_iff.1 m2).1; omega) hnew (hold m q m2)
      · exact h1.1.sep n H.length p _ (by have := (List.getElem?_eq_some_iff.1 n2).1; omega) (hold n p n2) hnew
      · exact hw.sep n m p q hnm n2 m2
    · obtain ⟨n, hn⟩ := List.mem_iff_getElem?.1 hq
      rcases hget n q hn with ⟨n1, rfl⟩ | ⟨n1, n2⟩
      · exact h1.1.at_ _ (List.mem_of_getElem? hnew)
      · exact hw.at_ q (List.mem_of_getElem? n2)
    · obtain ⟨n, hn⟩ := List.mem_iff_getElem?.1 hq
      rcases hget n q hn with ⟨n1, rfl⟩ | ⟨n1, n2⟩
      · exact absurd ho.1 id
      · exact ⟨q, List.mem_of_getElem? n2, ho⟩
/-- Rows of slices, their hints turned. -/
theorem Retell.rows {α : Type} {b : Bs} {wd h h' : Nat} {L : List (Row α)} : Retell (b, .win (Row.enc wd h) 1 L) (b, .win (Row.enc wd h') 1 L) := by
  intro W hW
  have hb : Reads W b (L.flatMap (Row.enc wd h)) := (show BlkAt W (b, .win (Row.enc wd h) 1 L) from hW).2
  refine ⟨⟨fun x _ => rfl, fun n v hv => ?_⟩, fun k hk => ⟨?_, hk.2⟩, fun k hk => hk⟩
  · have e := congrArg (fun l => l[n]?) (Row.den (wd := wd) (h := h) (h' := h') L)
    simp only [denL_getElem?] at e
    rw [hv] at e
    cases hu : (L.flatMap (Row.enc wd h))[n]? with
    | none => rw [hu] at e; cases e
    | some u =>
      rw [hu] at e
      rw [hb n u hu]; exact e
  · rcases hk.1 with h | h
    · exact .inl h
    · refine .inr ⟨rfl, fun he => h.2 ?_⟩
      cases L with
      | nil => rfl
      | cons a L => cases he

/-! ### what came in -/
section
variable {H : Type} {enc : TypeId × Value → H} {P : Program} {w : World} {base : Nat} {spare : Nat → Bool} {held : Bool}

/-- A slice's cell, of elements that are so. -/
theorem open_rows_gen {t e : TypeId} {wd : Nat} {cs : List Value} {x : DataW H × List MemPlace} {fuel : Nat} (ht : P.underlying t = some (.slice e)) (hs : szOf P e = some wd) (B : Nat) (Q : List Value → Prop)
    (hQ : ∀ (n : Nat) (cs' : List Value) (y : DataW H × List MemPlace), DataW.trod enc P w base spare held n e cs' = some y → (∀ m ∈ y.1.weights P e, m ≤ B) → Q cs')
    (hspot : ∀ a len cap, cs = [.slice (some a) len cap] → a.spot = none ∨ (len = 0 ∧ cap = 0)) (hf : DataW.trod enc P w base spare held fuel t cs = some x) (hB : ∀ m ∈ x.1.weights P t, m ≤ B) :
    ∃ (z : Bool) (b : Bs) (c : Nat) (rows : List (List Value)), cs = [(SV.sl 0 z b wd 0 rows.length c).den] ∧ (∀ x ∈ rows, Q x ∧ x.length = wd) ∧ rows.length * P.bytesOf e ≤ B ∧ rows.length ≤ c ∧
      ∀ (n : Nat) (x : Value), (rows.flatten)[n]? = some x → w.cell? ⟨b.n, b.o + n, none⟩ = some x := by
  rcases open_slice ht hf with ⟨hcs, hx⟩ | ⟨a, len, cap, m, n, D, Pl, hcs, hb, hl, hm, hmm, hx, hi⟩
  · exact ⟨true, ⟨0, 0⟩, 0, [], by rw [hcs]; rfl, by simp, by simp, by simp, by simp⟩
  · rcases hspot a len cap hcs with hsp | ⟨h0, h0'⟩
    case inr =>
      subst h0; subst h0'
      exact ⟨true, { n := 0, o := 0, e := ⟨some a⟩ }, 0, [], by rw [hcs]; rfl, by simp, by simp, by simp, by simp⟩
    have hle : len ≤ m := by rw [hmm]; split <;> omega
    have hce := cellsOf_sz hs
    have hdd : x.1 = .slice ((List.range len).map D) ((List.range (m - len)).map fun j => D (len + j)) := congrArg Prod.fst hx
    have hrow : ∀ i, i < len → ∃ cs', w.cells? base (a.add (i * wd)) wd = some cs' ∧ Q cs' := by
      intro i hil
      obtain ⟨cs', h1, h2⟩ := hi i (by omega)
      rw [hce] at h1
      refine ⟨cs', h1, hQ n cs' _ h2 fun q hq => hB q ?_⟩
      rw [hdd]
      simp only [DataW.weights, ht, List.mem_cons, List.mem_append]
      refine .inr (.inl ?_)
      have aux : ∀ (l : List (DataW H)) (y : DataW H), y ∈ l → ∀ q ∈ y.weights P e, q ∈ DataW.weightsAll P e l := by
        intro l
        induction l with
        | nil => intro y hy; simp at hy
        | cons a l ihl =>
          intro y hy q hq
          simp only [DataW.weightsAll, List.mem_append]
          rcases List.mem_cons.1 hy with rfl | hy
          · exact .inl hq
          · exact .inr (ihl y hy q hq)
      exact aux _ (D i) (List.mem_map_of_mem (List.mem_range.2 hil)) q hq
    have hbytes : len * P.bytesOf e ≤ B := by
      have := hB ((((List.range len).map D).length + ((List.range (m - len)).map fun j => D (len + j)).length) * P.bytesOf e) (by rw [hdd]; simp [DataW.weights, ht])
      refine Nat.le_trans (Nat.mul_le_mul_right _ ?_) this
      simp
    obtain ⟨blk, off, spot⟩ := a
    simp only at hsp
    subst hsp
    have build : ∀ k, k ≤ len → ∃ rows : List (List Value), rows.length = k ∧ (∀ x ∈ rows, Q x ∧ x.length = wd) ∧ ∀ (q : Nat) (x : Value), (rows.flatten)[q]? = some x → w.cell? ⟨blk, off + q, none⟩ = some x := by
      intro k
      induction k with
      | zero => intro _; exact ⟨[], rfl, by simp, by simp⟩
      | succ k ih =>
        intro hk'
        obtain ⟨rows, h1, h2, h3⟩ := ih (by omega)
        obtain ⟨cs', hc, hok⟩ := hrow k (by omega)
        obtain ⟨_, hcl, hat⟩ := World.cells?_some hc
        have hfl : rows.flatten.length = k * wd := by
          have aux : ∀ l : List (List Value), (∀ x ∈ l, Q x ∧ x.length = wd) → l.flatten.length = l.length * wd := by
            intro l
            induction l with
            | nil => intro _; simp
            | cons a l ihl =>
              intro h
              rw [List.flatten_cons, List.length_append, (h a (by simp)).2, ihl (fun x hx => h x (by simp [hx])), List.length_cons, Nat.add_mul]; omega
          rw [aux rows h2, h1]
        refine ⟨rows ++ [cs'], by simp [h1], fun x hx => by rcases List.mem_append.1 hx with hx | hx; exact h2 x hx; simp at hx; subst hx; exact ⟨hok, hcl⟩, fun q x hq => ?_⟩
        rw [List.flatten_append, List.flatten_cons, List.flatten_nil, List.append_nil, List.getElem?_append] at hq
        split at hq
        · exact h3 q x hq
        · rename_i hge
          rw [hfl] at hq hge
          have hql : q - k * wd < wd := by
            have := (List.getElem?_eq_some_iff.1 hq).1
            omega
          have := hat (q - k * wd) hql
          rw [hq, addr_add, addr_add] at this
          rw [← this]
          congr 2
          omega
    obtain ⟨rows, h1, h2, h3⟩ := build len (Nat.le_refl _)
    refine ⟨false, ⟨blk, off⟩, cap, rows, ?_, h2, by rw [h1]; exact hbytes, by rw [h1]; exact hl, h3⟩
    rw [hcs, h1]; simp [SV.den, nilB_false]
/-- In a cell of what came in, with the spare read: no address but that of nothing is odd. -/
theorem spot_in {t e : TypeId} {wd : Nat} {cs : List Value} {x : DataW H × List MemPlace} {fuel : Nat} (ht : P.underlying t = some (.slice e)) (hs : szOf P e = some wd) (h0 : 0 < wd)
    (hf : DataW.trod enc P w base (fun _ => true) held fuel t cs = some x) (a : Addr) (len cap : Nat) (he : cs = [.slice (some a) len cap]) : a.spot = none ∨ (len = 0 ∧ cap = 0) := by
  rcases open_slice ht hf with ⟨hcs, hx⟩ | ⟨a', len', cap', m, n, D, Pl, hcs, hb, hl, hm, hmm, hx, hi⟩
  · rw [he] at hcs; simp at hcs
  · rw [he] at hcs
    simp at hcs
    obtain ⟨rfl, rfl, rfl⟩ := hcs
    simp only [if_true] at hmm
    by_cases hc : cap = 0
    · exact .inr ⟨by omega, hc⟩
    · left
      obtain ⟨cs', h1, _⟩ := hi 0 (by omega)
      rw [cellsOf_sz hs] at h1
      obtain ⟨_, hcl, hat⟩ := World.cells?_some h1
      have := hat 0 h0
      rw [List.getElem?_eq_getElem (by rw [hcl]; exact h0)] at this
      cases hq : a.spot with
      | none => rfl
      | some q =>
        simp only [Addr.add, Nat.zero_mul, if_true] at this
        unfold World.cell? at this
        rw [hq] at this
        split at this <;> simp at this

/-- A slice of plain elements, in a cell of what came in: as a row. -/
theorem row_in {α : Type} {en : α → List SV} {ok : α → Prop} {t e : TypeId} {d : Nat} {ks : List CK} (ht : P.underlying t = some (.slice e)) (hk : kindsT P d e = some ks) (hs : szOf P e = some ks.length) (h0 : 0 < ks.length) (B : Nat)
    (hen : ∀ r, okVs B ks r → ∃ x, r = denL (en x) ∧ ok x) (hw : ∀ x, (en x).length = ks.length)
    (n : Nat) (cs : List Value) (y : DataW H × List MemPlace) (hf : DataW.trod enc P w base (fun _ => true) held n t cs = some y) (hB : ∀ m ∈ y.1.weights P t, m ≤ B) :
    ∃ r : Row α, cs = denL (Row.enc ks.length 0 r) ∧ (∀ x ∈ r.l, ok x) ∧ r.l.length * P.bytesOf e ≤ B ∧ r.l.length ≤ r.c ∧ BlkAt w (Row.win en ks.length r) := by
  obtain ⟨z, b, c, rows, h1, h2, h3, h4, h5⟩ := open_rows_in ht hk hs h0 B hf hB
  obtain ⟨l, e1, e2⟩ := rows_as (en := en) fun r hr => hen r (h2 r hr)
  have hl : rows.length = l.length := by rw [e1, List.length_map]
  refine ⟨⟨z, b, c, l⟩, ?_, e2, ?_, ?_, ?_⟩
  · rw [h1, hl]; rfl
  · show l.length * _ ≤ B; rw [← hl]; exact h3
  · show l.length ≤ c; rw [← hl]; exact h4
  · exact blk_rows e1 (fun x _ => hw x) h5

/-- A slice of slices of plain elements, in a cell of what came in. -/
theorem rows_in {α : Type} {en : α → List SV} {ok : α → Prop} {t e q : TypeId} {d : Nat} {ks : List CK} (ht : P.underlying t = some (.slice e)) (he : P.underlying e = some (.slice q)) (hse : szOf P e = some 1) (hk : kindsT P d q = some ks) (hs : szOf P q = some ks.length) (h0 : 0 < ks.length) (B : Nat)
    (hen : ∀ r, okVs B ks r → ∃ x, r = denL (en x) ∧ ok x) (hw : ∀ x, (en x).length = ks.length)
    (n : Nat) (cs : List Value) (y : DataW H × List MemPlace) (hspot : ∀ a len cap, cs = [.slice (some a) len cap] → a.spot = none ∨ (len = 0 ∧ cap = 0)) (hf : DataW.trod enc P w base (fun _ => true) held n t cs = some y) (hB : ∀ m ∈ y.1.weights P t, m ≤ B) :
    ∃ R : Row (Row α), cs = denL (Row.enc 1 0 R) ∧ (∀ r ∈ R.l, (∀ x ∈ r.l, ok x) ∧ r.l.length * P.bytesOf q ≤ B ∧ r.l.length ≤ r.c ∧ BlkAt w (Row.win en ks.length r)) ∧ R.l.length * P.bytesOf e ≤ B ∧ R.l.length ≤ R.c ∧ BlkAt w (Row.win (Row.enc ks.length 0) 1 R) := by
  obtain ⟨z, b, c, rows, h1, h2, h3, h4, h5⟩ := open_rows_gen ht hse B (fun cs' => ∃ r : Row α, cs' = denL (Row.enc ks.length 0 r) ∧ (∀ x ∈ r.l, ok x) ∧ r.l.length * P.bytesOf q ≤ B ∧ r.l.length ≤ r.c ∧ BlkAt w (Row.win en ks.length r))
    (fun n cs' y hy hyB => row_in he hk hs h0 B hen hw n cs' y hy hyB) hspot hf hB
  obtain ⟨l, e1, e2⟩ := rows_as (en := Row.enc (α := α) ks.length 0) fun r hr => (h2 r hr).1
  have hl : rows.length = l.length := by rw [e1, List.length_map]
  refine ⟨⟨z, b, c, l⟩, ?_, e2, ?_, ?_, ?_⟩
  · rw [h1, hl]; rfl
  · show l.length * _ ≤ B; rw [← hl]; exact h3
  · show l.length ≤ c; rw [← hl]; exact h4
  · exact blk_rows e1 (fun x _ => rfl) h5

/-- A struct, the last of whose parts is one cell that is not plain. -/
theorem open_last {t : TypeId} {fs : List Field} {f : Field} {d : Nat} {ks : List CK} (ht : P.underlying t = some (.struct (fs ++ [f]).toArray)) (hk : kindsF P (kindsT P d) fs 0 = some ks) (hfo : f.offset = ks.length) (hfs : szOf P f.type = some 1) (hsz : szOf P t = some (ks.length + 1)) (B : Nat)
    {n : Nat} {cs : List Value} {x : DataW H × List MemPlace} (hx : DataW.trod enc P w base spare held n t cs = some x) (hB : ∀ m ∈ x.1.weights P t, m ≤ B) :
    ∃ (cs0 : List Value) (v : Value) (n' : Nat) (y : DataW H × List MemPlace), cs = cs0 ++ [v] ∧ okVs B ks cs0 ∧ DataW.trod enc P w base spare held n' f.type [v] = some y ∧ ∀ m ∈ y.1.weights P f.type, m ≤ B := by
  obtain ⟨xs, n', rfl, rfl, hlen, hxl, hel⟩ := DataW.trod_struct ht hx
  rw [cellsOf_sz hsz] at hlen
  have hfi : (fs ++ [f]).toArray[fs.length]? = some f := by simp
  have hwt : ∀ (i : Nat) (f' : Field), (fs ++ [f]).toArray[i]? = some f' → ∀ y, xs[i]? = some y → ∀ m ∈ y.1.weights P f'.type, m ≤ B := by
    intro i f' hf' y hy m hm
    refine hB m ?_
    simp only [DataW.weights, ht]
    exact DataW.weights_mem_each (j := i) (t := f'.type) (d := y.1) (by
      have : (fs ++ [f])[i]? = some f' := by simpa using hf'
      rw [List.getElem?_map, this]; rfl) (by rw [List.getElem?_map, hy]; rfl) m hm
  have flds : ∀ (l : List Field) (i off : Nat) (js : List CK), fs.drop i = l → kindsF P (kindsT P d) l off = some js → ks.length = off + js.length → okVs B js ((cs.take ks.length).drop off) := by
    intro l
    induction l with
    | nil =>
      intro i off js hl hk hoff
      obtain rfl := Option.some.inj hk
      rw [List.drop_eq_nil_of_le (by simp at hoff; rw [List.length_take]; omega)]
      exact trivial
    | cons g l ih =>
      intro i off js hl hk hoff
      unfold kindsF at hk
      split at hk <;> try (cases hk; done)
      rename_i ms hms
      split at hk <;> try (cases hk; done)
      rename_i hc
      obtain ⟨hname, hgo, hgs⟩ := hc
      split at hk <;> try (cases hk; done)
      rename_i rs hrs
      obtain rfl := Option.some.inj hk
      have hgi : fs[i]? = some g := by
        have := congrArg (fun l => l[0]?) hl
        simpa using this
      have hil : i < fs.length := (List.getElem?_eq_some_iff.1 hgi).1
      have hgi2 : (fs ++ [f]).toArray[i]? = some g := by
        rw [List.getElem?_toArray, List.getElem?_append_left hil]; exact hgi
      have h1 := hel i g hgi2
      rw [cellsOf_sz hgs, hgo] at h1
      have hxi : i < xs.length := by rw [hxl]; simp; omega
      have hg : xs[i]? = some xs[i] := List.getElem?_eq_getElem hxi
      rw [hg] at h1
      have := trod_plain B d g.type ms hms hgs n' _ _ h1 (hwt i g hgi2 _ hg)
      simp only [List.length_append] at hoff
      have e0 : (cs.drop off).take ms.length = ((cs.take ks.length).drop off).take ms.length := by
        rw [List.drop_take, List.take_take]
        rw [Nat.min_eq_left (by omega)]
      rw [e0] at this
      have e1 : (cs.take ks.length).drop off = ((cs.take ks.length).drop off).take ms.length ++ (cs.take ks.length).drop (off + ms.length) := by
        conv => lhs; rw [← List.take_append_drop ms.length ((cs.take ks.length).drop off)]
        rw [List.drop_drop]
      rw [e1]
      refine okVs_append _ _ _ _ this (ih (i + 1) (off + ms.length) rs ?_ hrs (by omega))
      rw [← List.drop_drop, hl]; rfl
  have h0 := flds fs 0 0 ks (by simp) hk (by omega)
  rw [List.drop_zero] at h0
  have h1 := hel fs.length f hfi
  rw [cellsOf_sz hfs, hfo] at h1
  have hxi : fs.length < xs.length := by rw [hxl]; simp
  have hg : xs[fs.length]? = some xs[fs.length] := List.getElem?_eq_getElem hxi
  rw [hg] at h1
  have hv : ks.length < cs.length := by omega
  have e2 : (cs.drop ks.length).take 1 = [cs[ks.length]] := by
    rw [List.drop_eq_getElem_cons hv]; rfl
  rw [e2] at h1
  refine ⟨cs.take ks.length, cs[ks.length], n', xs[fs.length], ?_, h0, h1, hwt fs.length f hfi _ hg⟩
  conv => lhs; rw [← List.take_append_drop ks.length cs]
  congr 1
  rw [List.drop_eq_getElem_cons hv, List.drop_eq_nil_of_le (by omega)]
end
end Go.Sy

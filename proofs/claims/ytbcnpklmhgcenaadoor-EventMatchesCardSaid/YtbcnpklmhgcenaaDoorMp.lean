/- Matches, plainly: which may be, and their order. Own work. -/
import Derived.Test.YtbcnpklmhgcenaaDoorS1
import Derived.Test.YtbcnpklmhgcenaaDoorSyW
import Derived.Lib.Bytealg
namespace Go.Ev
open Go Go.Sy Go.Sp Go.Lib
set_option linter.unusedVariables false
set_option linter.unusedSimpArgs false
structure Mat where
  key : List UInt8
  st : List (List Int)
deriving DecidableEq
def goIn (last : Int) : List Int → Option Int
  | [] => some last
  | p :: ps => if p ≤ last ∨ p > 1073741824 then none else goIn p ps
def goSt (last : Int) (many : Nat) : List (List Int) → Bool
  | [] => true
  | s :: ss => if s.length = 0 ∨ many + s.length > 256 then false else match goIn last s with
    | none => false
    | some l => goSt l (many + s.length) ss
def goIn2 (last : Int) (many : Nat) : List Int → Option (Int × Nat)
  | [] => some (last, many)
  | p :: ps => if p ≤ last ∨ p > 1073741824 ∨ many + 1 > 256 then none else goIn2 p (many + 1) ps
def goSt2 (last : Int) (many : Nat) : List (List Int) → Bool
  | [] => true
  | s :: ss => if s.length = 0 then false else match goIn2 last many s with
    | none => false
    | some (l, m) => goSt2 l m ss
def mayM (x : Mat) : Bool := nameOk x.key && (decide (1 ≤ x.st.length) && (decide (x.st.length ≤ 8) && goSt (-1) 0 x.st))
def mayM2 (x : Mat) : Bool := nameOk x.key && (decide (1 ≤ x.st.length) && (decide (x.st.length ≤ 8) && goSt2 (-1) 0 x.st))
theorem goIn2_eq (s : List Int) : ∀ (last : Int) (many : Nat), many ≤ 256 → goIn2 last many s = if many + s.length ≤ 256 then (goIn last s).map fun l => (l, many + s.length) else none := by
  induction s with
  | nil => intro last many h; simp [goIn2, goIn, h]
  | cons p ps ih =>
    intro last many h
    unfold goIn2 goIn
    by_cases h1 : p ≤ last ∨ p > 1073741824
    · rw [if_pos (by rcases h1 with h | h; exact .inl h; exact .inr (.inl h)), if_pos h1]
      simp
    · rw [if_neg h1]
      by_cases h2 : many + 1 > 256
      · rw [if_pos (.inr (.inr h2)), if_neg (by simp; omega)]
      · rw [if_neg (by rintro (h | h | h); exact h1 (.inl h); exact h1 (.inr h); exact h2 h), ih p (many + 1) (by omega)]
        simp only [List.length_cons, show many + 1 + ps.length = many + (ps.length + 1) by omega]
theorem goSt2_eq (ss : List (List Int)) : ∀ (last : Int) (many : Nat), many ≤ 256 → goSt2 last many ss = goSt last many ss := by
  induction ss with
  | nil => intro last many h; rfl
  | cons s ss ih =>
    intro last many h
    unfold goSt2 goSt
    rw [goIn2_eq s last many h]
    by_cases h1 : s.length = 0
    · rw [if_pos h1, if_pos (.inl h1)]
    · rw [if_neg h1]
      by_cases h2 : many + s.length > 256
      · rw [if_neg (by omega), if_pos (.inr h2)]
      · rw [if_pos (by omega), if_neg (by rintro (h | h); exact h1 h; exact h2 h)]
        cases goIn last s with
        | none => rfl
        | some l => exact ih l (many + s.length) (by omega)
theorem mayM2_eq (x : Mat) : mayM2 x = mayM x := by unfold mayM2 mayM; rw [goSt2_eq _ _ _ (by omega)]

def lastM (st : List (List Int)) : Int := (st.getLast?.getD []).getLast?.getD 0
def cmpI (a b : Int) : Int := if a < b then -1 else if a > b then 1 else 0
def cmpS : List Int → List Int → Int
  | [], [] => 0
  | [], _ :: _ => -1
  | _ :: _, [] => 1
  | x :: xs, y :: ys => if cmpI x y ≠ 0 then cmpI x y else cmpS xs ys
def cmpT : List (List Int) → List (List Int) → Int
  | [], [] => 0
  | [], _ :: _ => -1
  | _ :: _, [] => 1
  | x :: xs, y :: ys => if cmpS x y ≠ 0 then cmpS x y else cmpT xs ys
def cmpM (x y : Mat) : Int :=
  if cmpI (lastM x.st) (lastM y.st) ≠ 0 then cmpI (lastM x.st) (lastM y.st) else if cmpT x.st y.st ≠ 0 then cmpT x.st y.st else compareBytes x.key y.key
theorem mayM_ne {x : Mat} (h : mayM x = true) : x.st ≠ [] ∧ ∀ s ∈ x.st, s ≠ [] := by
  unfold mayM at h
  simp only [Bool.and_eq_true, decide_eq_true_eq] at h
  obtain ⟨_, h1, _, h2⟩ := h
  refine ⟨fun he => by rw [he] at h1; simp at h1, ?_⟩
  have aux : ∀ (ss : List (List Int)) (last : Int) (many : Nat), goSt last many ss = true → ∀ s ∈ ss, s ≠ [] := by
    intro ss
    induction ss with
    | nil => intro _ _ _ s hs; simp at hs
    | cons s0 ss ih =>
      intro last many h s hs
      unfold goSt at h
      split at h
      · cases h
      · rename_i hn
        split at h
        · cases h
        · rcases List.mem_cons.1 hs with rfl | hs
          · intro he; exact hn (.inl (by rw [he]; rfl))
          · exact ih _ _ h s hs
  exact aux _ _ _ h2
theorem compareBytes_less (a b : List UInt8) : compareBytes a b = if Op.bytesLess a b then -1 else if !(Op.bytesLess a b || decide (a = b)) then 1 else 0 := by
  induction a generalizing b with
  | nil => cases b <;> simp [compareBytes, Op.bytesLess]
  | cons x a ih =>
    cases b with
    | nil => simp [compareBytes, Op.bytesLess]
    | cons y b =>
      unfold compareBytes Op.bytesLess
      by_cases h1 : x < y
      · simp [h1]
      · by_cases h2 : y < x
        · have hne : x ≠ y := by rintro rfl; exact h1 h2
          simp [h1, h2, hne]
        · have he : x = y := UInt8.le_antisymm (UInt8.not_lt.1 h2) (UInt8.not_lt.1 h1)
          subst he
          simp [h1, ih b]
theorem cmpS_drop {a b : List Int} {i : Nat} {x y : Int} (ha : a[i]? = some x) (hb : b[i]? = some y) : cmpS (a.drop i) (b.drop i) = if cmpI x y ≠ 0 then cmpI x y else cmpS (a.drop (i + 1)) (b.drop (i + 1)) := by
  obtain ⟨h1, rfl⟩ := List.getElem?_eq_some_iff.1 ha
  obtain ⟨h2, rfl⟩ := List.getElem?_eq_some_iff.1 hb
  rw [List.drop_eq_getElem_cons h1, List.drop_eq_getElem_cons h2]; rfl
theorem cmpT_drop {a b : List (List Int)} {i : Nat} {x y : List Int} (ha : a[i]? = some x) (hb : b[i]? = some y) : cmpT (a.drop i) (b.drop i) = if cmpS x y ≠ 0 then cmpS x y else cmpT (a.drop (i + 1)) (b.drop (i + 1)) := by
  obtain ⟨h1, rfl⟩ := List.getElem?_eq_some_iff.1 ha
  obtain ⟨h2, rfl⟩ := List.getElem?_eq_some_iff.1 hb
  rw [List.drop_eq_getElem_cons h1, List.drop_eq_getElem_cons h2]; rfl
theorem cmpS_right {a b : List Int} {i : Nat} {x : Int} (ha : a[i]? = some x) (hb : b.length ≤ i) : cmpS (a.drop i) (b.drop i) = 1 := by
  obtain ⟨h1, rfl⟩ := List.getElem?_eq_some_iff.1 ha
  rw [List.drop_eq_getElem_cons h1, List.drop_eq_nil_of_le hb]; rfl
theorem cmpT_right {a b : List (List Int)} {i : Nat} {x : List Int} (ha : a[i]? = some x) (hb : b.length ≤ i) : cmpT (a.drop i) (b.drop i) = 1 := by
  obtain ⟨h1, rfl⟩ := List.getElem?_eq_some_iff.1 ha
  rw [List.drop_eq_getElem_cons h1, List.drop_eq_nil_of_le hb]; rfl
theorem cmpS_end {a b : List Int} : cmpS (a.drop a.length) (b.drop a.length) = if a.length < b.length then -1 else 0 := by
  rw [List.drop_length]
  by_cases h : a.length < b.length
  · rw [List.drop_eq_getElem_cons h, if_pos h]; rfl
  · rw [List.drop_eq_nil_of_le (by omega), if_neg h]; rfl
theorem cmpT_end {a b : List (List Int)} : cmpT (a.drop a.length) (b.drop a.length) = if a.length < b.length then -1 else 0 := by
  rw [List.drop_length]
  by_cases h : a.length < b.length
  · rw [List.drop_eq_getElem_cons h, if_pos h]; rfl
  · rw [List.drop_eq_nil_of_le (by omega), if_neg h]; rfl

/-- A match as it came. -/
structure WM where
  key : List UInt8
  s : Row (Row Int)
def WM.st (m : WM) : List (List Int) := m.s.l.map Row.l
def WM.pl (m : WM) : Mat := ⟨m.key, m.st⟩
def okI (n : Int) : Prop := -9223372036854775808 ≤ n ∧ n ≤ 9223372036854775807
def okW (m : WM) : Prop := m.key.length ≤ 140737488351232 ∧ m.s.l.length ≤ 5864062014805 ∧ ∀ r ∈ m.s.l, r.l.length ≤ 17592186044416 ∧ ∀ x ∈ r.l, okI x
abbrev argM (h : Nat) (m : WM) : SV := .agg [.str m.key, .sl h m.s.z m.s.b 1 0 m.s.l.length m.s.c]
abbrev memA (h : Nat) (m : WM) : Bs × Blk := (m.s.b, .win (Row.enc 1 h) 1 m.s.l)
abbrev memB (b0 : Bs) (m : WM) : Bs × Blk := (b0, winsB (encInt .i64) 1 m.s.l)
end Go.Ev

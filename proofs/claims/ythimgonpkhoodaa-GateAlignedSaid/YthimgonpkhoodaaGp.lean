/- Gates, plainly: channels of items, and what each call answers. Own work. -/
import Derived.WalkKit
namespace Go.Gp
set_option linter.unusedVariables false
set_option linter.unusedSimpArgs false

abbrev Txt := List UInt8
/-- A channel: credits not given, those owed, items, the next barrier's number. -/
structure Chn where
  free : Nat
  owed : Nat
  items : List (Txt × Int)
  next : Int
instance : Inhabited Chn := ⟨⟨0, 0, [], 0⟩⟩
structure AG where
  cs : List Chn
  turn : Nat

def okC (x : Chn) : Prop := x.items.length + x.free + x.owed ≤ 256
def upd (G : AG) (k : Nat) (x : Chn) : AG := { G with cs := G.cs.set k x }
def chAt (G : AG) (c : Int) : Option Chn := if c < 0 then none else G.cs[c.toNat]?
theorem chAt_none {G : AG} {c : Int} (h : chAt G c = none) : c < 0 ∨ (G.cs.length : Int) ≤ c := by
  unfold chAt at h
  split at h
  · exact .inl (by assumption)
  · have := List.getElem?_eq_none_iff.1 h; omega
theorem chAt_some {G : AG} {c : Int} {x : Chn} (h : chAt G c = some x) : 0 ≤ c ∧ c < G.cs.length ∧ G.cs[c.toNat]? = some x := by
  unfold chAt at h
  split at h
  · cases h
  · have := (List.getElem?_eq_some_iff.1 h).1
    exact ⟨by omega, by omega, h⟩

def giveA (G : AG) (c most : Int) : (Int × Int) × AG := match chAt G c with
  | none => ((0, 210), G)
  | some x => if most < 0 then ((0, 1), G) else ((min most x.free, 0), upd G c.toNat { x with free := x.free - (min most x.free).toNat, owed := x.owed + (min most x.free).toNat })
def textA (G : AG) (c : Int) (t : Txt) : Int × AG := match chAt G c with
  | none => (210, G)
  | some x => if 60000 < t.length then (2, G) else if x.owed = 0 then (200, G) else (0, upd G c.toNat { x with owed := x.owed - 1, items := x.items ++ [(t, 0)] })
def barrierA (G : AG) (c n : Int) : Int × AG := match chAt G c with
  | none => (210, G)
  | some x => if n ≠ x.next then (1, G) else if x.owed = 0 then (200, G) else (0, upd G c.toNat { x with owed := x.owed - 1, items := x.items ++ [([], n)], next := IntKind.i64.wrap (x.next + 1) })
def lenA (G : AG) (c : Int) : Int × Int := match chAt G c with
  | none => (0, 210)
  | some x => (x.items.length, 0)
def blk (x : Chn) : Bool := match x.items with
  | [] => false
  | it :: _ => decide (0 < it.2)
def takeX (x : Chn) : (Txt × Int) × Chn := match x.items with
  | [] => (([], 0), x)
  | it :: l => (it, { x with items := l, free := x.free + 1 })
def ready (x : Chn) : Bool := decide (0 < x.items.length) && !blk x
/-- Where the next text is: so many channels on from the turn. -/
def lookG (G : AG) : Option Nat := (List.range G.cs.length).find? fun k => ready (G.cs[(G.turn + k) % G.cs.length]!)
def pullA (G : AG) : (Int × Txt × Int × Int) × AG :=
  if G.cs.all blk = true then ((-1, [], ((G.cs.getLast?.map fun x => (takeX x).1.2).getD 0), 0), { G with cs := G.cs.map fun x => (takeX x).2 })
  else match lookG G with
    | none => ((0, [], 0, 5), G)
    | some k => let c := (G.turn + k) % G.cs.length
      ((c, (takeX (G.cs[c]!)).1.1, 0, 0), { cs := G.cs.set c (takeX (G.cs[c]!)).2, turn := (c + 1) % G.cs.length })
def newA (channels capacity first : Int) : Option AG := if channels < 1 ∨ 64 < channels ∨ capacity < 1 ∨ 256 < capacity ∨ first < 1 ∨ 1073741824 < first then none else some ⟨List.replicate channels.toNat ⟨capacity.toNat, 0, [], first⟩, 0⟩
theorem set_same {α : Type _} {l : List α} {k : Nat} {x : α} (h : l[k]? = some x) : l.set k x = l := by
  apply List.ext_getElem?
  intro j
  rw [List.getElem?_set]
  split
  · rename_i e; subst e
    split
    · exact h.symm
    · rename_i hn; exact absurd (List.getElem?_eq_some_iff.1 h).1 hn
  · rfl
end Go.Gp

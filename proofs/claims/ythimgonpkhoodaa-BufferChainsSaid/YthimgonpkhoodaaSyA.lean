/- SY, part A: symbolic values and symbolic memory: what they stand for in a world of the model, and how a load, a store and a new block look there. Own work. -/
import Derived.WalkKit
import Derived.KernelRfl
namespace Go.Sy
set_option linter.unusedVariables false
set_option linter.unusedSimpArgs false

/-- What a slice without room that may be nil is: nil, or any address (of what came in). -/
class Emp where
  a : Option Addr
instance : Emp := ⟨none⟩

/-- Where a row begins: a block's number, and an offset; and what stands there, if nothing does. -/
structure Bs where
  n : Nat
  o : Nat
  [e : Emp]

/-- A value as the executor sees it. A pointer or a slice bears its block's place in the list of blocks (a hint) and its number. A slice: 'z': it may be nil (it is, if its length and room are 0). -/
inductive SV where
  | bool (b : Bool)
  | int (k : IntKind) (n : Int)
  | str (s : List UInt8)
  | nilp
  | ptr (i : Nat) (b : Bs) (w j f : Nat)
  | nils
  | sl (i : Nat) (z : Bool) (b : Bs) (w j l c : Nat)
  | mp (i : Nat) (b : Bs)
  | agg (cs : List SV)
  | tup (vs : List SV)
  | clo (fn : Fn) (fs cs : List SV)
  | ifc (t : TypeId) (v : SV)
  | nifc
  | raw (v : Value)

def nilB (z : Bool) (l c : Nat) : Bool := z && (Nat.beq l 0 && Nat.beq c 0)

mutual
def SV.den : SV → Value
  | .bool b => .bool b
  | .int k n => .int k n
  | .str s => .string ⟨s.toArray⟩
  | .nilp => .pointer none
  | .ptr _ b w j f => .pointer (some ⟨b.n, b.o + j * w + f, none⟩)
  | .nils => .slice none 0 0
  | .sl _ z b w j l c => bif nilB z l c then .slice b.e.a 0 0 else .slice (some ⟨b.n, b.o + j * w, none⟩) l c
  | .mp _ b => .map (some b.n)
  | .agg cs => .agg (denL cs).toArray
  | .tup vs => .tuple (denL vs).toArray
  | .clo fn fs cs => .func fn (denL fs).toArray (denL cs).toArray
  | .ifc t v => .iface t v.den
  | .nifc => .nilIface
  | .raw v => v
  termination_by structural x => x
def denL : List SV → List Value
  | [] => []
  | v :: vs => v.den :: denL vs
  termination_by structural x => x
end

theorem denL_eq (l : List SV) : denL l = l.map SV.den := by
  induction l with
  | nil => simp [denL]
  | cons v l ih => simp [denL, ih]
theorem denL_append (a b : List SV) : denL (a ++ b) = denL a ++ denL b := by simp [denL_eq]
theorem denL_length (l : List SV) : (denL l).length = l.length := by rw [denL_eq, List.length_map]

/-- A block: cells written out; or rows of cells, one row an element of a list (an array); a window into what came in, which is only read; the rows of a slice that alone has them (with room, or nil); any other object; many of them. -/
inductive Blk : Type 1 where
  | lit (cs : List SV)
  | tab {α : Type} (enc : α → List SV) (w : Nat) (l : List α)
  | win {α : Type} (enc : α → List SV) (w : Nat) (l : List α)
  | vec {α : Type} (z : Bool) (c : Nat) (enc : α → List SV) (w : Nat) (l : List α)
  | obj (Q : Obj → Prop)
  | fam (F : List (Bs × Blk))
  | wins (F : List (Bs × Blk))

abbrev SH := List (Bs × Blk)

def Blk.cells : Blk → List SV
  | .lit cs => cs
  | .tab enc _ l => l.flatMap enc
  | .win enc _ l => l.flatMap enc
  | .vec _ _ enc _ l => l.flatMap enc
  | _ => []

/-- The rows of a table have its width. -/
def Blk.ok : Blk → Prop
  | .tab enc w l => ∀ x ∈ l, (enc x).length = w
  | .win enc w l => ∀ x ∈ l, (enc x).length = w
  | .vec _ c enc w l => (∀ x ∈ l, (enc x).length = w) ∧ l.length ≤ c ∧ c ≤ 9223372036854775807
  | _ => True

def Blk.isWin : Blk → Bool
  | .win .. => true
  | .wins _ => true
  | _ => false

/-- It has its block for itself. -/
def Blk.own : Blk → Prop
  | .lit _ => True
  | .tab .. => True
  | .obj _ => True
  | .vec z c _ _ _ => ¬ (z = true ∧ c = 0)
  | .win .. => False
  | .fam _ => False
  | .wins _ => False

/-- No cell of so many is frozen. -/
def Thaw (fz : Nat × Nat) (n : Nat) : Prop := fz = (0, 0) ∨ n ≤ fz.1

/-- What a block holds, cells alone. -/
def CellsAt (w : World) (b : Nat) (cs : List SV) : Prop := ∃ e fz, w.heap[b]? = some (.cells (denL cs).toArray e fz) ∧ Thaw fz cs.length

/-- What is read there. -/
def Reads (w : World) (b : Bs) (cs : List SV) : Prop := ∀ (n : Nat) (v : SV), cs[n]? = some v → w.cell? ⟨b.n, b.o + n, none⟩ = some v.den

def Holds (w : World) (b : Bs) : Blk → Prop
  | .lit cs => b.o = 0 ∧ CellsAt w b.n cs
  | .tab enc _ l => b.o = 0 ∧ CellsAt w b.n (l.flatMap enc)
  | .win enc _ l => Reads w b (l.flatMap enc)
  | .vec z c enc wd l => ¬ (z = true ∧ c = 0) → ∃ pre post, pre.length = b.o ∧ c * wd ≤ (l.flatMap enc).length + post.length ∧ CellsAt w b.n (pre ++ l.flatMap enc ++ post)
  | .obj Q => b.o = 0 ∧ ∃ o, w.heap[b.n]? = some o ∧ Q o
  | .fam _ => False
  | .wins _ => False

def BlkAt (w : World) (p : Bs × Blk) : Prop := p.2.ok ∧ Holds w p.1 p.2

theorem reads_of_cells {w : World} {b : Nat} {cs : List SV} (h : CellsAt w b cs) : Reads w ⟨b, 0⟩ cs := by
  obtain ⟨e, fz, h, _⟩ := h
  intro n v hv
  simp only [World.cell?, h, Nat.zero_add]
  simp [denL_eq, hv]

theorem reads_of_mid {w : World} {b : Bs} {pre cs post : List SV} (h : CellsAt w b.n (pre ++ cs ++ post)) (hp : pre.length = b.o) : Reads w b cs := by
  obtain ⟨e, fz, h, _⟩ := h
  intro n v hv
  have hn := (List.getElem?_eq_some_iff.1 hv).1
  simp only [World.cell?, h]
  simp only [List.getElem?_toArray, denL_eq, List.getElem?_map, List.append_assoc]
  rw [List.getElem?_append_right (by omega), List.getElem?_append_left (by omega), show b.o + n - pre.length = n from by omega, hv]
  rfl

theorem BlkAt.reads {w : World} {p : Bs × Blk} (h : BlkAt w p) : Reads w p.1 p.2.cells := by
  obtain ⟨b, bk⟩ := p
  obtain ⟨hok, h⟩ := h
  cases bk with
  | lit cs => obtain ⟨h0, h⟩ := h; have := reads_of_cells h; obtain ⟨n, o⟩ := b; simp only at h0; subst h0; exact this
  | tab enc wd l => obtain ⟨h0, h⟩ := h; have := reads_of_cells h; obtain ⟨n, o⟩ := b; simp only at h0; subst h0; exact this
  | win enc wd l => exact h
  | vec z c enc wd l =>
    by_cases hz : z = true ∧ c = 0
    · have : l = [] := by
        have := hok.2
        rw [hz.2] at this
        exact List.length_eq_zero_iff.1 (by omega)
      subst this
      intro n v hv
      simp [Blk.cells] at hv
    · obtain ⟨pre, post, h1, h2, h3⟩ := h hz
      exact reads_of_mid h3 h1
  | obj Q => intro n v hv; simp [Blk.cells] at hv
  | fam F => exact h.elim
  | wins F => exact h.elim

/-- What lies in memory at all. -/
def solid (p : Bs × Blk) : Prop := p.2.own ∨ (p.2.isWin = true ∧ p.2.cells ≠ [])

/-- Of two one of which owns its block, the blocks are two. -/
def Apart (p q : Bs × Blk) : Prop := ((solid p ∧ q.2.own) ∨ (p.2.own ∧ solid q)) → p.1.n ≠ q.1.n
theorem Apart.symm {p q : Bs × Blk} (h : Apart p q) : Apart q p := fun hh he => h (by rcases hh with ⟨a, b⟩ | ⟨a, b⟩; exact .inr ⟨b, a⟩; exact .inl ⟨b, a⟩) he.symm

def Solid (p : Bs × Blk) (k : Nat) : Prop := match p.2 with
  | .fam F => ∃ a ∈ F, solid a ∧ a.1.n = k
  | .wins F => ∃ a ∈ F, solid a ∧ a.1.n = k
  | _ => solid p ∧ p.1.n = k
def Own (p : Bs × Blk) (k : Nat) : Prop := match p.2 with
  | .fam F => ∃ a ∈ F, a.2.own ∧ a.1.n = k
  | .wins _ => False
  | _ => p.2.own ∧ p.1.n = k
theorem Own.solid {p : Bs × Blk} {k : Nat} (h : Own p k) : Solid p k := by
  obtain ⟨b, bk⟩ := p
  cases bk <;> first
    | exact ⟨.inl h.1, h.2⟩
    | exact False.elim h
    | (obtain ⟨a, ha, h1, h2⟩ := h; exact ⟨a, ha, .inl h1, h2⟩)

def ApartE (p q : Bs × Blk) : Prop := ∀ k, ¬ (Solid p k ∧ Own q k) ∧ ¬ (Own p k ∧ Solid q k)
theorem ApartE.symm {p q : Bs × Blk} (h : ApartE p q) : ApartE q p := fun k => ⟨fun ⟨a, b⟩ => (h k).2 ⟨b, a⟩, fun ⟨a, b⟩ => (h k).1 ⟨b, a⟩⟩

def EntryAt (w : World) (p : Bs × Blk) : Prop := match p.2 with
  | .fam F => F.Pairwise Apart ∧ (∀ a ∈ F, BlkAt w a ∧ a.2.isWin = false)
  | .wins F => ∀ a ∈ F, BlkAt w a ∧ a.2.isWin = true
  | _ => BlkAt w p

def Blk.isFam : Blk → Bool
  | .fam _ => true
  | .wins _ => true
  | _ => false
theorem entry_atom {w : World} {p : Bs × Blk} (h : p.2.isFam = false) : EntryAt w p ↔ BlkAt w p := by
  obtain ⟨b, bk⟩ := p; cases bk <;> first | exact Iff.rfl | cases h
theorem solid_atom {p : Bs × Blk} {k : Nat} (h : p.2.isFam = false) : Solid p k ↔ solid p ∧ p.1.n = k := by
  obtain ⟨b, bk⟩ := p; cases bk <;> first | exact Iff.rfl | cases h
theorem own_atom {p : Bs × Blk} {k : Nat} (h : p.2.isFam = false) : Own p k ↔ p.2.own ∧ p.1.n = k := by
  obtain ⟨b, bk⟩ := p; cases bk <;> first | exact Iff.rfl | cases h

structure HSat (w : World) (H : SH) : Prop where
  sep : ∀ (i j : Nat) (p q : Bs × Blk), i ≠ j → H[i]? = some p → H[j]? = some q → ApartE p q
  at_ : ∀ p ∈ H, EntryAt w p

/-- Is it one of the blocks that are written? -/
def Wr (H : SH) (k : Nat) : Prop := ∃ p ∈ H, Own p k

/-- What may have turned: the blocks of H, and new ones. -/
structure Ext (w : World) (H : SH) (w' : World) (H' : SH) : Prop where
  os : w'.os = w.os
  tape : w'.tape = w.tape
  output : w'.output = w.output
  size : w.heap.size ≤ w'.heap.size
  block : ∀ k, k < w.heap.size → ¬ Wr H k → w'.heap[k]? = w.heap[k]?
  sub : ∀ k, Wr H' k → Wr H k ∨ w.heap.size ≤ k

theorem Ext.refl (w : World) (H : SH) : Ext w H w H := ⟨rfl, rfl, rfl, Nat.le_refl _, fun _ _ _ => rfl, fun _ h => .inl h⟩

theorem Ext.trans {w w1 w2 : World} {H H1 H2 : SH} (a : Ext w H w1 H1) (b : Ext w1 H1 w2 H2) : Ext w H w2 H2 := by
  refine ⟨b.os.trans a.os, b.tape.trans a.tape, b.output.trans a.output, Nat.le_trans a.size b.size, fun k hk hn => ?_, fun k hk => ?_⟩
  · rw [b.block k (Nat.lt_of_lt_of_le hk a.size) (fun h => ?_), a.block k hk hn]
    rcases a.sub k h with h | h
    · exact hn h
    · omega
  · rcases b.sub k hk with h | h
    · exact a.sub k h
    · exact .inr (Nat.le_trans a.size h)

theorem BlkAt.lt {w : World} {p : Bs × Blk} (h : BlkAt w p) (hs : solid p) : p.1.n < w.heap.size := by
  have hr := h.reads
  obtain ⟨b, bk⟩ := p
  obtain ⟨hok, hw⟩ := h
  have win : ∀ (cs : List SV), cs ≠ [] → Reads w b cs → b.n < w.heap.size := fun cs hc hr => by
    cases cs with
    | nil => exact absurd rfl hc
    | cons v cs => exact World.block_lt_of_cell? w _ (hr 0 v rfl)
  have cel : ∀ (cs : List SV), CellsAt w b.n cs → b.n < w.heap.size := fun cs ⟨e, fz, he, _⟩ => (Array.getElem?_eq_some_iff.1 he).1
  cases bk with
  | lit cs => exact cel _ hw.2
  | tab enc wd l => exact cel _ hw.2
  | win enc wd l => exact win _ (by rcases hs with h | h; exact h.elim; exact h.2) hr
  | vec z c enc wd l =>
    rcases hs with h | h
    · obtain ⟨pre, post, _, _, h3⟩ := hw h
      exact cel _ h3
    · cases h.1
  | obj Q => obtain ⟨_, o, ho, _⟩ := hw; exact (Array.getElem?_eq_some_iff.1 ho).1
  | fam F => exact hw.elim
  | wins F => exact hw.elim

theorem EntryAt.lt {w : World} {p : Bs × Blk} (h : EntryAt w p) {k : Nat} (hs : Solid p k) : k < w.heap.size := by
  obtain ⟨b, bk⟩ := p
  cases bk <;> first
    | (obtain ⟨h1, rfl⟩ := hs; exact BlkAt.lt h h1)
    | (obtain ⟨a, ha, h1, rfl⟩ := hs; exact (h.2 a ha).1.lt h1)
    | (obtain ⟨a, ha, h1, rfl⟩ := hs; exact (h a ha).1.lt h1)

theorem HSat.lt {w : World} {H : SH} (h : HSat w H) {p : Bs × Blk} (hp : p ∈ H) {k : Nat} (hs : Solid p k) : k < w.heap.size := (h.at_ p hp).lt hs

theorem HSat.drew {w : World} {H : SH} (h : HSat w H) : HSat { w with drawn := w.drawn + 1 } H := ⟨h.sep, h.at_⟩
theorem Ext.drew (w : World) (H : SH) : Ext w H { w with drawn := w.drawn + 1 } H := ⟨rfl, rfl, rfl, Nat.le_refl _, fun _ _ _ => rfl, fun _ h => .inl h⟩

/-- A block that has not been touched. -/
theorem BlkAt.keep {w w' : World} {p : Bs × Blk} (h : BlkAt w p) (hh : solid p → w'.heap[p.1.n]? = w.heap[p.1.n]?) : BlkAt w' p := by
  obtain ⟨b, bk⟩ := p
  obtain ⟨hok, hw⟩ := h
  refine ⟨hok, ?_⟩
  have cel : ∀ (cs : List SV), w'.heap[b.n]? = w.heap[b.n]? → CellsAt w b.n cs → CellsAt w' b.n cs := fun cs he ⟨e, fz, h1, h2⟩ => ⟨e, fz, by rw [he]; exact h1, h2⟩
  cases bk with
  | lit cs => exact ⟨hw.1, cel _ (hh (.inl trivial)) hw.2⟩
  | tab enc wd l => exact ⟨hw.1, cel _ (hh (.inl trivial)) hw.2⟩
  | win enc wd l =>
    intro n v hv
    have hs : solid (b, Blk.win enc wd l) := .inr ⟨rfl, fun e => by simp only [Blk.cells] at e; rw [e] at hv; simp at hv⟩
    have := hw n v hv
    rw [World.cell?_of_block (w := w) (w' := w') (a := ⟨b.n, b.o + n, none⟩) (hh hs)]
    exact this
  | vec z c enc wd l =>
    intro hz
    obtain ⟨pre, post, h1, h2, h3⟩ := hw hz
    exact ⟨pre, post, h1, h2, cel _ (hh (.inl hz)) h3⟩
  | obj Q => obtain ⟨h0, o, h1, h2⟩ := hw; exact ⟨h0, o, by rw [hh (.inl trivial)]; exact h1, h2⟩
  | fam F => exact hw.elim
  | wins F => exact hw.elim

theorem EntryAt.keep {w w' : World} {p : Bs × Blk} (h : EntryAt w p) (hh : ∀ k, Solid p k → w'.heap[k]? = w.heap[k]?) : EntryAt w' p := by
  obtain ⟨b, bk⟩ := p
  cases bk <;> first
    | exact BlkAt.keep h fun hs => hh _ ⟨hs, rfl⟩
    | exact ⟨h.1, fun a ha => ⟨(h.2 a ha).1.keep fun hs => hh _ ⟨a, ha, hs, rfl⟩, (h.2 a ha).2⟩⟩
    | exact fun a ha => ⟨(h a ha).1.keep fun hs => hh _ ⟨a, ha, hs, rfl⟩, (h a ha).2⟩

/-- An entry is another one now: the same block, or a new one. -/
theorem HSat.upd {w w' : World} {H : SH} (h : HSat w H) {i : Nat} {p p' : Bs × Blk} (hi : H[i]? = some p) (hat : EntryAt w' p') (hwin : p'.2.isWin = false) (hsz : w.heap.size ≤ w'.heap.size)
    (hsame : ∀ k, k < w.heap.size → ¬ Own p k → w'.heap[k]? = w.heap[k]?) (hown : ∀ k, Solid p' k → Own p k ∨ w.heap.size ≤ k) : HSat w' (H.set i p') := by
  have hlt : i < H.length := (List.getElem?_eq_some_iff.1 hi).1
  have hget : ∀ (n : Nat) (q : Bs × Blk), (H.set i p')[n]? = some q → (n = i ∧ q = p') ∨ (n ≠ i ∧ H[n]? = some q) := by
    intro n q hq
    rw [List.getElem?_set] at hq
    split at hq
    · rename_i hn
      try rw [if_pos hlt] at hq
      exact .inl ⟨hn.symm, (Option.some.inj hq).symm⟩
    · rename_i hn; exact .inr ⟨fun e => hn e.symm, hq⟩
  have key : ∀ (n : Nat) (q : Bs × Blk), n ≠ i → H[n]? = some q → ApartE p' q := by
    intro n q hn hq k
    have ha := h.sep i n p q (fun e => hn e.symm) hi hq k
    refine ⟨fun ⟨a, b⟩ => ?_, fun ⟨a, b⟩ => ?_⟩
    · rcases hown k a with hh | hh
      · exact ha.1 ⟨hh.solid, b⟩
      · have := h.lt (List.mem_of_getElem? hq) b.solid; omega
    · rcases hown k a.solid with hh | hh
      · exact ha.2 ⟨hh, b⟩
      · have := h.lt (List.mem_of_getElem? hq) b; omega
  constructor
  · intro n m q r hnm hn hm
    rcases hget n q hn with ⟨rfl, rfl⟩ | ⟨hn1, hn2⟩ <;> rcases hget m r hm with ⟨rfl, rfl⟩ | ⟨hm1, hm2⟩
    · exact absurd rfl hnm
    · exact key m r hm1 hm2
    · exact (key n q hn1 hn2).symm
    · exact h.sep n m q r hnm hn2 hm2
  · intro q hq
    obtain ⟨n, hn⟩ := List.mem_iff_getElem?.1 hq
    rcases hget n q hn with ⟨rfl, rfl⟩ | ⟨hn1, hn2⟩
    · exact hat
    · refine (h.at_ q (List.mem_of_getElem? hn2)).keep fun k hk => hsame k (h.lt (List.mem_of_getElem? hn2) hk) fun ho => ?_
      exact (h.sep i n p q (fun e => hn1 e.symm) hi hn2 k).2 ⟨ho, hk⟩

theorem Ext.upd {w w' : World} {H : SH} {i : Nat} {p p' : Bs × Blk} (hi : H[i]? = some p) (hos : w'.os = w.os) (htape : w'.tape = w.tape) (hout : w'.output = w.output) (hsz : w.heap.size ≤ w'.heap.size)
    (hsame : ∀ k, k < w.heap.size → ¬ Own p k → w'.heap[k]? = w.heap[k]?) (hown : ∀ k, Own p' k → Own p k ∨ w.heap.size ≤ k) : Ext w H w' (H.set i p') := by
  have hm : p ∈ H := List.mem_of_getElem? hi
  refine ⟨hos, htape, hout, hsz, fun k hk hn => hsame k hk (fun ho => hn ⟨p, hm, ho⟩), fun k hk => ?_⟩
  obtain ⟨q, hq, ho⟩ := hk
  rcases List.mem_or_eq_of_mem_set hq with hq | rfl
  · exact .inl ⟨q, hq, ho⟩
  · rcases hown k ho with h | h
    · exact .inl ⟨p, hm, h⟩
    · exact .inr h

/-- A new entry. -/
theorem HSat.add {w w' : World} {H : SH} (h : HSat w H) {p' : Bs × Blk} (hat : EntryAt w' p') (hsame : ∀ k, k < w.heap.size → w'.heap[k]? = w.heap[k]?) (hown : ∀ k, Solid p' k → w.heap.size ≤ k) : HSat w' (H ++ [p']) := by
  have hget : ∀ (i : Nat) (p : Bs × Blk), (H ++ [p'])[i]? = some p → (i < H.length ∧ H[i]? = some p) ∨ (i = H.length ∧ p = p') := by
    intro i p h
    rw [List.getElem?_append] at h
    split at h
    · exact .inl ⟨by assumption, h⟩
    · have : i - H.length = 0 := by
        have := (List.getElem?_eq_some_iff.1 h).1
        simp at this; omega
      rw [this] at h
      simp at h
      exact .inr ⟨by omega, h.symm⟩
  have key : ∀ (q : Bs × Blk), q ∈ H → ApartE p' q := by
    intro q hq k
    refine ⟨fun ⟨a, b⟩ => ?_, fun ⟨a, b⟩ => ?_⟩
    · have := hown k a; have := h.lt hq b.solid; omega
    · have := hown k a.solid; have := h.lt hq b; omega
  constructor
  · intro n m q r hnm hn hm
    rcases hget n q hn with ⟨hn1, hn2⟩ | ⟨hn1, rfl⟩ <;> rcases hget m r hm with ⟨hm1, hm2⟩ | ⟨hm1, rfl⟩
    · exact h.sep n m q r hnm hn2 hm2
    · exact (key q (List.mem_of_getElem? hn2)).symm
    · exact key r (List.mem_of_getElem? hm2)
    · exact absurd (hn1.trans hm1.symm) hnm
  · intro q hq
    rcases List.mem_append.1 hq with hq | hq
    · exact (h.at_ q hq).keep fun k hk => hsame k (h.lt hq hk)
    · simp at hq; subst hq; exact hat

theorem Ext.add {w w' : World} {H : SH} {p' : Bs × Blk} (hos : w'.os = w.os) (htape : w'.tape = w.tape) (hout : w'.output = w.output) (hsz : w.heap.size ≤ w'.heap.size)
    (hsame : ∀ k, k < w.heap.size → w'.heap[k]? = w.heap[k]?) (hown : ∀ k, Own p' k → w.heap.size ≤ k) : Ext w H w' (H ++ [p']) := by
  refine ⟨hos, htape, hout, hsz, fun k hk _ => hsame k hk, fun k hk => ?_⟩
  obtain ⟨q, hq, ho⟩ := hk
  rcases List.mem_append.1 hq with hq | hq
  · exact .inl ⟨q, hq, ho⟩
  · simp at hq; subst hq; exact .inr (hown k ho)

/-- A new block: an entry more. -/
theorem HSat.push {w : World} {H : SH} (h : HSat w H) (bk : Blk) (hf : bk.isFam = false) (hw : bk.isWin = false) (o : Obj) (hat : BlkAt { w with heap := w.heap.push o } (⟨w.heap.size, 0⟩, bk)) :
    HSat { w with heap := w.heap.push o } (H ++ [(⟨w.heap.size, 0⟩, bk)]) ∧ Ext w H { w with heap := w.heap.push o } (H ++ [(⟨w.heap.size, 0⟩, bk)]) := by
  have hsame : ∀ k, k < w.heap.size → ({ w with heap := w.heap.push o } : World).heap[k]? = w.heap[k]? := fun k hk => by
    show (w.heap.push o)[k]? = _
    rw [Array.getElem?_push, if_neg (by omega)]
  have hs : ∀ k, Solid ((⟨w.heap.size, 0⟩, bk) : Bs × Blk) k → w.heap.size ≤ k := fun k hk => by
    rw [solid_atom hf] at hk; exact Nat.le_of_eq hk.2
  exact ⟨h.add ((entry_atom hf).2 hat) hsame hs, Ext.add rfl rfl rfl (by simp) hsame fun k hk => hs k hk.solid⟩

theorem cellsAt_push (w : World) (cs : List SV) (e : TypeId) (fz : Nat × Nat) (hf : Thaw fz cs.length) : CellsAt { w with heap := w.heap.push (.cells (denL cs).toArray e fz) } w.heap.size cs :=
  ⟨e, fz, by simp, hf⟩

theorem nodup_inj {l : List Nat} (h : l.Nodup) {i j : Nat} (hi : i < l.length) (hj : j < l.length) (he : l[i] = l[j]) : i = j := by
  induction l generalizing i j with
  | nil => simp at hi
  | cons a l ih =>
    rw [List.nodup_cons] at h
    cases i <;> cases j
    · rfl
    · simp at he; exact absurd (he ▸ List.getElem_mem _) h.1
    · simp at he; exact absurd (he ▸ List.getElem_mem _) h.1
    · simp at he; rw [ih h.2 _ _ he]

/-! ### cells -/

theorem denL_getElem? (l : List SV) (n : Nat) : (denL l)[n]? = (l[n]?).map SV.den := by rw [denL_eq, List.getElem?_map]

theorem HSat.blk {w : World} {H : SH} (h : HSat w H) {i : Nat} {b : Bs} {bk : Blk} (hi : H[i]? = some (b, bk)) (hf : bk.isFam = false) : BlkAt w (b, bk) := (entry_atom hf).1 (h.at_ _ (List.mem_of_getElem? hi))

theorem famCells {bk : Blk} (h : bk.isFam = true) : bk.cells = [] := by cases bk <;> first | rfl | cases h

theorem HSat.reads {w : World} {H : SH} (h : HSat w H) {i : Nat} {b : Bs} {bk : Blk} (hi : H[i]? = some (b, bk)) : Reads w b bk.cells := by
  cases hf : bk.isFam with
  | true => rw [famCells hf]; intro n v hv; simp at hv
  | false => exact (h.blk hi hf).reads

theorem HSat.cell {w : World} {H : SH} (h : HSat w H) {i : Nat} {b : Bs} {bk : Blk} (hi : H[i]? = some (b, bk)) {n : Nat} {v : SV} (hv : bk.cells[n]? = some v) :
    w.cell? ⟨b.n, b.o + n, none⟩ = some v.den := h.reads hi n v hv

/-- In rows of one width, element j's cell f lies at j * w + f. -/
theorem flatMap_getElem? {α : Type} (enc : α → List SV) (w : Nat) : ∀ (l : List α), (∀ x ∈ l, (enc x).length = w) → ∀ (j f : Nat) (x : α), l[j]? = some x → f < w →
    (l.flatMap enc)[j * w + f]? = (enc x)[f]?
  | [], _, j, _, x, h, _ => by simp at h
  | y :: l, hok, 0, f, x, h, hf => by
    simp at h; subst h
    have := hok y (by simp)
    rw [List.flatMap_cons, List.getElem?_append_left (by simp; omega)]; simp
  | y :: l, hok, j + 1, f, x, h, hf => by
    have hy := hok y (by simp)
    rw [List.flatMap_cons, List.getElem?_append_right (by rw [hy, Nat.add_mul]; omega), hy]
    rw [show (j + 1) * w + f - w = j * w + f from by rw [Nat.add_mul]; omega]
    exact flatMap_getElem? enc w l (fun x hx => hok x (by simp [hx])) j f x (by simpa using h) hf

theorem flatMap_length {α : Type} (enc : α → List SV) (w : Nat) : ∀ (l : List α), (∀ x ∈ l, (enc x).length = w) → (l.flatMap enc).length = l.length * w
  | [], _ => by simp
  | y :: l, hok => by
    rw [List.flatMap_cons, List.length_append, hok y (by simp), flatMap_length enc w l (fun x hx => hok x (by simp [hx])), List.length_cons, Nat.add_mul]; omega

/-- Cells written one behind the other. -/
def setMany : List SV → Nat → List SV → List SV
  | cs, _, [] => cs
  | cs, n, v :: vs => setMany (cs.set n v) (n + 1) vs

theorem setMany_length : ∀ (vs cs : List SV) (n : Nat), (setMany cs n vs).length = cs.length
  | [], _, _ => rfl
  | _ :: vs, _, _ => by rw [setMany, setMany_length vs]; simp

theorem CellsAt.set {w : World} {b : Nat} {cs : List SV} (h : CellsAt w b cs) (n : Nat) (v : SV) : CellsAt (w.setCell ⟨b, n, none⟩ v.den) b (cs.set n v) := by
  obtain ⟨e, fz, he, hf⟩ := h
  refine ⟨e, fz, ?_, by simpa using hf⟩
  simp only [World.setCell, Array.getElem?_modify, he, denL_eq]
  simp [List.map_set]

theorem setCell_other (w : World) (b n : Nat) (v : Value) (k : Nat) (hk : k ≠ b) : (w.setCell ⟨b, n, none⟩ v).heap[k]? = w.heap[k]? := by
  simp only [World.setCell, Array.getElem?_modify]
  rw [if_neg (fun hh => hk hh.symm)]

/-- One cell's value. -/
def SV.one : SV → Bool
  | .agg _ | .tup _ => false
  | .raw (.agg _) | .raw (.tuple _) => false
  | _ => true

theorem run_store_one {P : Program} {w : World} {b n : Nat} {cs : List SV} (h : CellsAt w b cs) (hn : n < cs.length) (v : SV) (hv : v.one = true) (k : Sem Unit) (m : Mode) :
    (Sem.store m ⟨b, n, none⟩ v.den k).run P w = k.run P (w.setCell ⟨b, n, none⟩ v.den) := by
  obtain ⟨e, fz, he, hf⟩ := h
  have hc : w.cell? ⟨b, n, none⟩ = some (cs[n].den) := by simp [World.cell?, he, denL_getElem?, hn]
  have hfr : w.frozen? ⟨b, n, none⟩ = false := by
    rcases hf with rfl | hf
    · simp [World.frozen?, he]
    · obtain ⟨lo, hi⟩ := fz
      simp only at hf
      simp only [World.frozen?, he, Bool.and_eq_false_imp, decide_eq_true_eq, decide_eq_false_iff_not]
      omega
  cases v with
  | agg _ => simp [SV.one] at hv
  | tup _ => simp [SV.one] at hv
  | raw x => cases x <;> simp [SV.one] at hv <;> simp [SV.den, Sem.run, hc, hfr]
  | sl i z bb wd j l c => simp only [SV.den]; cases nilB z l c <;> simp [Sem.run, hc, hfr]
  | _ => simp [SV.den, Sem.run, hc, hfr]

theorem run_storeCells {P : Program} {b off : Nat} : ∀ (vs : List SV) (i : Nat) (w : World) (cs : List SV), CellsAt w b cs → off + i + vs.length ≤ cs.length → (vs.all SV.one = true) →
    ∃ w', (storeCells ⟨b, off, none⟩ (denL vs) i).run P w = .ok () w' ∧ CellsAt w' b (setMany cs (off + i) vs) ∧ w'.os = w.os ∧ w'.tape = w.tape ∧ w'.output = w.output ∧ w'.heap.size = w.heap.size ∧ (∀ k, k ≠ b → w'.heap[k]? = w.heap[k]?)
  | [], i, w, cs, h, _, _ => ⟨w, by simp [denL, storeCells], h, rfl, rfl, rfl, rfl, fun _ _ => rfl⟩
  | v :: vs, i, w, cs, h, hl, ho => by
    simp only [List.all_cons, Bool.and_eq_true] at ho
    simp only [List.length_cons] at hl
    obtain ⟨w', h1, h2, h3, h4, h5, h6, h7⟩ := run_storeCells (P := P) (off := off) vs (i + 1) (w.setCell ⟨b, off + i, none⟩ v.den) (cs.set (off + i) v) (h.set _ _) (by simp; omega) ho.2
    refine ⟨w', ?_, h2, h3, h4, h5, by rw [h6]; simp [World.setCell], fun k hk => by rw [h7 k hk, setCell_other _ _ _ _ _ hk]⟩
    have ha : (Addr.add ⟨b, off, none⟩ i) = ⟨b, off + i, none⟩ := by
      unfold Addr.add; split <;> simp_all
    simp only [denL, storeCells, ha, store, bind, Sem.bind]
    rw [run_store_one h (by omega) v ho.1]
    exact h1

theorem run_loadCells {P : Program} {w : World} {b : Bs} {off : Nat} {cs : List SV} (h : Reads w b cs) : ∀ (n i : Nat) (acc : Array Value), off + i + n ≤ cs.length →
    (loadCellsFrom ⟨b.n, b.o + off, none⟩ i n acc).run P w = .ok (acc ++ (denL ((cs.drop (off + i)).take n)).toArray) w
  | 0, i, acc, _ => by simp [loadCellsFrom, denL, Sem.run]
  | n + 1, i, acc, hl => by
    have ha : (Addr.add ⟨b.n, b.o + off, none⟩ i) = ⟨b.n, b.o + (off + i), none⟩ := by
      unfold Addr.add; split <;> simp_all [Nat.add_assoc]
    have hn : off + i < cs.length := by omega
    have hc := h (off + i) cs[off + i] (List.getElem?_eq_getElem hn)
    simp only [loadCellsFrom, ha, load, bind, Sem.bind, Sem.run, hc]
    rw [run_loadCells h n (i + 1) _ (by omega)]
    rw [List.drop_eq_getElem_cons hn, List.take_succ_cons, denL]
    simp [Nat.add_assoc]
end Go.Sy

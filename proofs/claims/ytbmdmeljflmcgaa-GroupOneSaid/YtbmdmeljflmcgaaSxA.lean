/- SX, part A: symbolic values and symbolic memory: what they stand for in a world of the model, and how a load, a store and a new block look there. Own work. -/
import Derived.WalkKit
import Derived.KernelRfl
namespace Go.Sx
set_option linter.unusedVariables false
set_option linter.unusedSimpArgs false

/-- Where a row begins: a block's number, and an offset (0 but for a window into what came in). -/
structure Bs where
  n : Nat
  o : Nat

/-- A value as the executor sees it. A pointer or a slice bears its block's place in the list of blocks (a hint) and its number. -/
inductive SV where
  | bool (b : Bool)
  | int (k : IntKind) (n : Int)
  | str (s : List UInt8)
  | nilp
  | ptr (i : Nat) (b : Bs) (w j f : Nat)
  | nils
  | sl (i : Nat) (b : Bs) (w j l c : Nat)
  | agg (cs : List SV)
  | tup (vs : List SV)
  | clo (fn : Fn) (fs cs : List SV)
  | ifc (t : TypeId) (v : SV)
  | raw (v : Value)

mutual
def SV.den : SV → Value
  | .bool b => .bool b
  | .int k n => .int k n
  | .str s => .string ⟨s.toArray⟩
  | .nilp => .pointer none
  | .ptr _ b w j f => .pointer (some ⟨b.n, b.o + j * w + f, none⟩)
  | .nils => .slice none 0 0
  | .sl _ b w j l c => .slice (some ⟨b.n, b.o + j * w, none⟩) l c
  | .agg cs => .agg (denL cs).toArray
  | .tup vs => .tuple (denL vs).toArray
  | .clo fn fs cs => .func fn (denL fs).toArray (denL cs).toArray
  | .ifc t v => .iface t v.den
  | .raw v => v
  termination_by structural x => x
def denL : List SV → List Value
  | [] => []
  | v :: vs => v.den :: denL vs
  termination_by structural x => x
end

theorem denL_eq (l : List SV) : denL l = l.map SV.den := by
  induction l with
  | nil => simp [denL]
  | cons v l ih => simp [denL, ih]

/-- A block: cells written out, or rows of cells, one row an element of a list; or a window into what came in, which is only read. -/
inductive Blk : Type 1 where
  | lit (cs : List SV)
  | tab {α : Type} (enc : α → List SV) (w : Nat) (l : List α)
  | win {α : Type} (enc : α → List SV) (w : Nat) (l : List α)

def Blk.cells : Blk → List SV
  | .lit cs => cs
  | .tab enc _ l => l.flatMap enc
  | .win enc _ l => l.flatMap enc

/-- The rows of a table have its width. -/
def Blk.ok : Blk → Prop
  | .lit _ => True
  | .tab enc w l => ∀ x ∈ l, (enc x).length = w
  | .win enc w l => ∀ x ∈ l, (enc x).length = w

def Blk.wr : Blk → Bool
  | .win .. => false
  | _ => true

abbrev SH := List (Bs × Blk)

/-- No cell of so many is frozen. -/
def Thaw (fz : Nat × Nat) (n : Nat) : Prop := fz = (0, 0) ∨ n ≤ fz.1

/-- What is read there. -/
def Reads (w : World) (b : Bs) (cs : List SV) : Prop := ∀ (n : Nat) (v : SV), cs[n]? = some v → w.cell? ⟨b.n, b.o + n, none⟩ = some v.den

def BlkAt (w : World) (p : Bs × Blk) : Prop := p.2.ok ∧ Reads w p.1 p.2.cells ∧
  (p.2.wr = true → p.1.o = 0 ∧ ∃ e fz, w.heap[p.1.n]? = some (.cells (denL p.2.cells).toArray e fz) ∧ Thaw fz p.2.cells.length)

theorem reads_of_cells {w : World} {b : Nat} {cs : List SV} {e : TypeId} {fz : Nat × Nat} (h : w.heap[b]? = some (.cells (denL cs).toArray e fz)) : Reads w ⟨b, 0⟩ cs := by
  intro n v hv
  simp only [World.cell?, h, Nat.zero_add]
  simp [denL_eq, hv]

/-- What lies in memory at all. -/
def solid (p : Bs × Blk) : Prop := p.2.wr = true ∨ p.2.cells ≠ []

structure HSat (w : World) (H : SH) : Prop where
  inj : ∀ (i j : Nat) (p q : Bs × Blk), H[i]? = some p → H[j]? = some q → solid p → q.2.wr = true → p.1.n = q.1.n → i = j
  at_ : ∀ p ∈ H, BlkAt w p

/-- Is it one of the blocks that are written? -/
def Wr (H : SH) (k : Nat) : Prop := ∃ p ∈ H, p.2.wr = true ∧ p.1.n = k

/-- What may have turned: the blocks of H, and new ones. -/
structure Ext (w : World) (H : SH) (w' : World) (H' : SH) : Prop where
  os : w'.os = w.os
  tape : w'.tape = w.tape
  output : w'.output = w.output
  size : w.heap.size ≤ w'.heap.size
  block : ∀ k, k < w.heap.size → ¬ Wr H k → w'.heap[k]? = w.heap[k]?
  sub : ∀ k, Wr H' k → Wr H k ∨ w.heap.size ≤ k
  form : ∀ (k : Nat) (c : Array Value) (e : TypeId) (fz : Nat × Nat), w.heap[k]? = some (.cells c e fz) → ∃ c', w'.heap[k]? = some (.cells c' e fz)

theorem Ext.refl (w : World) (H : SH) : Ext w H w H := ⟨rfl, rfl, rfl, Nat.le_refl _, fun _ _ _ => rfl, fun _ h => .inl h, fun _ c _ _ h => ⟨c, h⟩⟩

theorem Ext.trans {w w1 w2 : World} {H H1 H2 : SH} (a : Ext w H w1 H1) (b : Ext w1 H1 w2 H2) : Ext w H w2 H2 := by
  refine ⟨b.os.trans a.os, b.tape.trans a.tape, b.output.trans a.output, Nat.le_trans a.size b.size, fun k hk hn => ?_, fun k hk => ?_, fun k c e fz h => let ⟨c1, h1⟩ := a.form k c e fz h; b.form k c1 e fz h1⟩
  · rw [b.block k (Nat.lt_of_lt_of_le hk a.size) (fun h => ?_), a.block k hk hn]
    rcases a.sub k h with h | h
    · exact hn h
    · omega
  · rcases b.sub k hk with h | h
    · exact a.sub k h
    · exact .inr (Nat.le_trans a.size h)

theorem BlkAt.lt {w : World} {p : Bs × Blk} (h : BlkAt w p) (hs : solid p) : p.1.n < w.heap.size := by
  obtain ⟨_, hr, hw⟩ := h
  rcases hs with hs | hs
  · obtain ⟨_, e, fz, he, _⟩ := hw hs
    exact (Array.getElem?_eq_some_iff.1 he).1
  · cases hc : p.2.cells with
    | nil => exact absurd hc hs
    | cons v cs =>
      have := hr 0 v (by rw [hc]; rfl)
      exact World.block_lt_of_cell? w _ this

theorem HSat.lt {w : World} {H : SH} (h : HSat w H) {p : Bs × Blk} (hp : p ∈ H) (hs : solid p) : p.1.n < w.heap.size := (h.at_ p hp).lt hs

theorem HSat.drew {w : World} {H : SH} (h : HSat w H) : HSat { w with drawn := w.drawn + 1 } H := ⟨h.inj, h.at_⟩
theorem Ext.drew (w : World) (H : SH) : Ext w H { w with drawn := w.drawn + 1 } H := ⟨rfl, rfl, rfl, Nat.le_refl _, fun _ _ _ => rfl, fun _ h => .inl h, fun _ c _ _ h => ⟨c, h⟩⟩

/-- A block that has not been touched. -/
theorem BlkAt.keep {w w' : World} {p : Bs × Blk} (h : BlkAt w p) (hh : solid p → w'.heap[p.1.n]? = w.heap[p.1.n]?) : BlkAt w' p := by
  obtain ⟨hok, hr, hw⟩ := h
  refine ⟨hok, fun n v hv => ?_, fun hwr => ?_⟩
  · have hs : solid p := .inr (fun e => by rw [e] at hv; simp at hv)
    have := hr n v hv
    rw [World.cell?_of_block (w := w) (w' := w') (a := ⟨p.1.n, p.1.o + n, none⟩) (hh hs)]
    exact this
  · obtain ⟨ho, e, fz, he, hf⟩ := hw hwr
    exact ⟨ho, e, fz, by rw [hh (.inl hwr)]; exact he, hf⟩

/-- A new block. -/
theorem HSat.push {w : World} {H : SH} (h : HSat w H) (bk : Blk) (hb : bk.ok) (hwr : bk.wr = true) (e : TypeId) (fz : Nat × Nat) (hfz : Thaw fz bk.cells.length) :
    HSat { w with heap := w.heap.push (.cells (denL bk.cells).toArray e fz) } (H ++ [(⟨w.heap.size, 0⟩, bk)]) := by
  constructor
  · intro i j p q hi hj hs hq hn
    have hget : ∀ (i : Nat) (p : Bs × Blk), (H ++ [(⟨w.heap.size, 0⟩, bk)])[i]? = some p → (i < H.length ∧ H[i]? = some p) ∨ (i = H.length ∧ p = (⟨w.heap.size, 0⟩, bk)) := by
      intro i p h
      rw [List.getElem?_append] at h
      split at h
      · exact .inl ⟨by assumption, h⟩
      · have : i - H.length = 0 := by
          have := (List.getElem?_eq_some_iff.1 h).1
          simp at this; omega
        rw [this] at h
        simp at h
        exact .inr ⟨by omega, h.symm⟩
    rcases hget i p hi with ⟨hi1, hi2⟩ | ⟨hi1, rfl⟩ <;> rcases hget j q hj with ⟨hj1, hj2⟩ | ⟨hj1, rfl⟩
    · exact h.inj i j p q hi2 hj2 hs hq hn
    · have := h.lt (List.mem_of_getElem? hi2) hs
      simp only at hn; omega
    · have := h.lt (List.mem_of_getElem? hj2) (.inl hq)
      simp only at hn; omega
    · omega
  · intro p hp
    rcases List.mem_append.1 hp with hp | hp
    · exact (h.at_ p hp).keep fun hs => by
        show (w.heap.push _)[p.1.n]? = _
        rw [Array.getElem?_push, if_neg (by have := h.lt hp hs; omega)]
    · simp at hp
      subst hp
      have hheap : ({ w with heap := w.heap.push (.cells (denL bk.cells).toArray e fz) } : World).heap[w.heap.size]? = some (.cells (denL bk.cells).toArray e fz) := by simp
      exact ⟨hb, reads_of_cells hheap, fun _ => ⟨rfl, e, fz, hheap, hfz⟩⟩

theorem wr_append {H : SH} {p : Bs × Blk} {k : Nat} (h : Wr (H ++ [p]) k) : Wr H k ∨ p.1.n = k := by
  obtain ⟨q, hq, h1, h2⟩ := h
  rcases List.mem_append.1 hq with hq | hq
  · exact .inl ⟨q, hq, h1, h2⟩
  · simp at hq; subst hq; exact .inr h2

theorem Ext.push (w : World) (H : SH) (o : Obj) (bk : Blk) : Ext w H { w with heap := w.heap.push o } (H ++ [(⟨w.heap.size, 0⟩, bk)]) := by
  refine ⟨rfl, rfl, rfl, by simp, fun k hk _ => by rw [Array.getElem?_push, if_neg (by omega)], fun k hk => ?_, fun k c e fz h => ⟨c, by rw [Array.getElem?_push, if_neg (by have := (Array.getElem?_eq_some_iff.1 h).1; omega)]; exact h⟩⟩
  rcases wr_append hk with h | h
  · exact .inl h
  · exact .inr (by simp only at h; omega)

theorem nodup_inj {l : List Nat} (h : l.Nodup) {i j : Nat} (hi : i < l.length) (hj : j < l.length) (he : l[i] = l[j]) : i = j := by
  induction l generalizing i j with
  | nil => simp at hi
  | cons a l ih =>
    rw [List.nodup_cons] at h
    cases i <;> cases j
    · rfl
    · simp at he; exact absurd (he ▸ List.getElem_mem _) h.1
    · simp at he; exact absurd (he ▸ List.getElem_mem _) h.1
    · simp at he; rw [ih h.2 _ _ he]

/-- A block of H is given other cells. -/
theorem HSat.set {w w' : World} {H : SH} (h : HSat w H) {i : Nat} {b : Bs} {bk bk' : Blk} (hi : H[i]? = some (b, bk)) (hwr : bk.wr = true) (hwr' : bk'.wr = true) (hb : bk'.ok) {e : TypeId} {fz : Nat × Nat}
    (hw : w'.heap[b.n]? = some (.cells (denL bk'.cells).toArray e fz)) (hfz : Thaw fz bk'.cells.length) (ho : ∀ k, k ≠ b.n → w'.heap[k]? = w.heap[k]?) : HSat w' (H.set i (b, bk')) := by
  have hlt : i < H.length := (List.getElem?_eq_some_iff.1 hi).1
  have hget : ∀ (n : Nat) (p : Bs × Blk), (H.set i (b, bk'))[n]? = some p → (n = i ∧ p = (b, bk')) ∨ (n ≠ i ∧ H[n]? = some p) := by
    intro n p hp
    rw [List.getElem?_set] at hp
    split at hp
    · rename_i hn
      try rw [if_pos hlt] at hp
      exact .inl ⟨hn.symm, (Option.some.inj hp).symm⟩
    · rename_i hn; exact .inr ⟨fun e => hn e.symm, hp⟩
  constructor
  · intro n m p q hn hm hs hq he
    rcases hget n p hn with ⟨rfl, rfl⟩ | ⟨hn1, hn2⟩ <;> rcases hget m q hm with ⟨rfl, rfl⟩ | ⟨hm1, hm2⟩
    · rfl
    · exact h.inj _ _ (b, bk) q hi hm2 (.inl hwr) hq he
    · exact h.inj _ _ p (b, bk) hn2 hi hs hwr he
    · exact h.inj _ _ p q hn2 hm2 hs hq he
  · intro p hp
    obtain ⟨n, hn⟩ := List.mem_iff_getElem?.1 hp
    rcases hget n p hn with ⟨rfl, rfl⟩ | ⟨hn1, hn2⟩
    · have hbo := ((h.at_ _ (List.mem_of_getElem? hi)).2.2 hwr).1
      simp only at hbo
      have hb0 : b = ⟨b.n, 0⟩ := by cases b; simp_all
      refine ⟨hb, ?_, fun _ => ⟨hbo, e, fz, hw, hfz⟩⟩
      show Reads w' b bk'.cells
      rw [hb0]; exact reads_of_cells hw
    · refine (h.at_ p (List.mem_of_getElem? hn2)).keep fun hs => ho _ fun he => ?_
      exact hn1 (h.inj n i p (b, bk) hn2 hi hs hwr he)

theorem Ext.set {w w' : World} {H : SH} {i : Nat} {b : Bs} {bk bk' : Blk} (hi : H[i]? = some (b, bk)) (hwr : bk.wr = true) (hos : w'.os = w.os) (htape : w'.tape = w.tape) (hout : w'.output = w.output)
    (hsz : w'.heap.size = w.heap.size) (ho : ∀ k, k ≠ b.n → w'.heap[k]? = w.heap[k]?)
    (hform : ∀ (c : Array Value) (e : TypeId) (fz : Nat × Nat), w.heap[b.n]? = some (.cells c e fz) → ∃ c', w'.heap[b.n]? = some (.cells c' e fz)) : Ext w H w' (H.set i (b, bk')) := by
  have hm : (b, bk) ∈ H := List.mem_of_getElem? hi
  refine ⟨hos, htape, hout, by omega, fun k _ hn => ho k (fun e => hn ⟨_, hm, hwr, e.symm⟩), fun k hk => .inl ?_, fun k c e fz h => ?_⟩
  · obtain ⟨p, hp, h1, h2⟩ := hk
    rcases List.mem_or_eq_of_mem_set hp with h | rfl
    · exact ⟨p, h, h1, h2⟩
    · exact ⟨_, hm, hwr, h2⟩
  · by_cases hk : k = b.n
    · subst hk; exact hform c e fz h
    · exact ⟨c, by rw [ho k hk]; exact h⟩

/-! ### cells -/

theorem denL_getElem? (l : List SV) (n : Nat) : (denL l)[n]? = (l[n]?).map SV.den := by rw [denL_eq, List.getElem?_map]

theorem HSat.cell {w : World} {H : SH} (h : HSat w H) {i : Nat} {b : Bs} {bk : Blk} (hi : H[i]? = some (b, bk)) {n : Nat} {v : SV} (hv : bk.cells[n]? = some v) :
    w.cell? ⟨b.n, b.o + n, none⟩ = some v.den := (h.at_ _ (List.mem_of_getElem? hi)).2.1 n v hv

/-- In rows of one width, element j's cell f lies at j * w + f. -/
theorem flatMap_getElem? {α : Type} (enc : α → List SV) (w : Nat) : ∀ (l : List α), (∀ x ∈ l, (enc x).length = w) → ∀ (j f : Nat) (x : α), l[j]? = some x → f < w →
    (l.flatMap enc)[j * w + f]? = (enc x)[f]?
  | [], _, j, _, x, h, _ => by simp at h
  | y :: l, hok, 0, f, x, h, hf => by
    simp at h; subst h
    have := hok y (by simp)
    rw [List.flatMap_cons, List.getElem?_append_left (by simp; omega)]; simp
  | y :: l, hok, j + 1, f, x, h, hf => by
    have hy := hok y (by simp)
    rw [List.flatMap_cons, List.getElem?_append_right (by rw [hy, Nat.add_mul]; omega), hy]
    rw [show (j + 1) * w + f - w = j * w + f from by rw [Nat.add_mul]; omega]
    exact flatMap_getElem? enc w l (fun x hx => hok x (by simp [hx])) j f x (by simpa using h) hf

theorem flatMap_length {α : Type} (enc : α → List SV) (w : Nat) : ∀ (l : List α), (∀ x ∈ l, (enc x).length = w) → (l.flatMap enc).length = l.length * w
  | [], _ => by simp
  | y :: l, hok => by
    rw [List.flatMap_cons, List.length_append, hok y (by simp), flatMap_length enc w l (fun x hx => hok x (by simp [hx])), List.length_cons, Nat.add_mul]; omega

theorem flatMap_set {α : Type} (enc : α → List SV) (w : Nat) : ∀ (l : List α), (∀ x ∈ l, (enc x).length = w) → ∀ (j f : Nat) (x x' : α) (v : SV), l[j]? = some x → f < w → enc x' = (enc x).set f v →
    (l.set j x').flatMap enc = (l.flatMap enc).set (j * w + f) v
  | [], _, j, _, x, _, _, h, _, _ => by simp at h
  | y :: l, hok, 0, f, x, x', v, h, hf, he => by
    simp at h; subst h
    have := hok y (by simp)
    rw [List.set_cons_zero, List.flatMap_cons, List.flatMap_cons, he, Nat.zero_mul, Nat.zero_add, List.set_append_left _ _ (by omega)]
  | y :: l, hok, j + 1, f, x, x', v, h, hf, he => by
    have hy := hok y (by simp)
    rw [List.set_cons_succ, List.flatMap_cons, List.flatMap_cons, List.set_append_right _ _ (by rw [hy, Nat.add_mul]; omega), hy,
      show (j + 1) * w + f - w = j * w + f from by rw [Nat.add_mul]; omega,
      flatMap_set enc w l (fun x hx => hok x (by simp [hx])) j f x x' v (by simpa using h) hf he]

/-- Cells written one behind the other. -/
def setMany : List SV → Nat → List SV → List SV
  | cs, _, [] => cs
  | cs, n, v :: vs => setMany (cs.set n v) (n + 1) vs

theorem setMany_length : ∀ (vs cs : List SV) (n : Nat), (setMany cs n vs).length = cs.length
  | [], _, _ => rfl
  | _ :: vs, _, _ => by rw [setMany, setMany_length vs]; simp

/-- What a block holds, cells alone. -/
def CellsAt (w : World) (b : Nat) (cs : List SV) : Prop := ∃ e fz, w.heap[b]? = some (.cells (denL cs).toArray e fz) ∧ Thaw fz cs.length

theorem CellsAt.set {w : World} {b : Nat} {cs : List SV} (h : CellsAt w b cs) (n : Nat) (v : SV) : CellsAt (w.setCell ⟨b, n, none⟩ v.den) b (cs.set n v) := by
  obtain ⟨e, fz, he, hf⟩ := h
  refine ⟨e, fz, ?_, by simpa using hf⟩
  simp only [World.setCell, Array.getElem?_modify, he, denL_eq]
  simp [List.map_set]

theorem setCell_other (w : World) (b n : Nat) (v : Value) (k : Nat) (hk : k ≠ b) : (w.setCell ⟨b, n, none⟩ v).heap[k]? = w.heap[k]? := by
  simp only [World.setCell, Array.getElem?_modify]
  rw [if_neg (fun hh => hk hh.symm)]

/-- One cell's value. -/
def SV.one : SV → Bool
  | .agg _ | .tup _ => false
  | .raw (.agg _) | .raw (.tuple _) => false
  | _ => true

theorem run_store_one {P : Program} {w : World} {b n : Nat} {cs : List SV} (h : CellsAt w b cs) (hn : n < cs.length) (v : SV) (hv : v.one = true) (k : Sem Unit) :
    (Sem.store .plain ⟨b, n, none⟩ v.den k).run P w = k.run P (w.setCell ⟨b, n, none⟩ v.den) := by
  obtain ⟨e, fz, he, hf⟩ := h
  have hc : w.cell? ⟨b, n, none⟩ = some (cs[n].den) := by simp [World.cell?, he, denL_getElem?, hn]
  have hfr : w.frozen? ⟨b, n, none⟩ = false := by
    rcases hf with rfl | hf
    · simp [World.frozen?, he]
    · obtain ⟨lo, hi⟩ := fz
      simp only at hf
      simp only [World.frozen?, he, Bool.and_eq_false_imp, decide_eq_true_eq, decide_eq_false_iff_not]
      omega
  cases v with
  | agg _ => simp [SV.one] at hv
  | tup _ => simp [SV.one] at hv
  | raw x => cases x <;> simp [SV.one] at hv <;> simp [SV.den, Sem.run, hc, hfr]
  | _ => simp [SV.den, Sem.run, hc, hfr]

theorem run_storeCells {P : Program} {b off : Nat} : ∀ (vs : List SV) (i : Nat) (w : World) (cs : List SV), CellsAt w b cs → off + i + vs.length ≤ cs.length → (vs.all SV.one = true) →
    ∃ w', (storeCells ⟨b, off, none⟩ (denL vs) i).run P w = .ok () w' ∧ CellsAt w' b (setMany cs (off + i) vs) ∧ w'.os = w.os ∧ w'.tape = w.tape ∧ w'.output = w.output ∧ w'.heap.size = w.heap.size ∧ (∀ k, k ≠ b → w'.heap[k]? = w.heap[k]?) ∧
      ∀ (c : Array Value) (e : TypeId) (fz : Nat × Nat), w.heap[b]? = some (.cells c e fz) → ∃ c', w'.heap[b]? = some (.cells c' e fz)
  | [], i, w, cs, h, _, _ => ⟨w, by simp [denL, storeCells], h, rfl, rfl, rfl, rfl, fun _ _ => rfl, fun c _ _ h => ⟨c, h⟩⟩
  | v :: vs, i, w, cs, h, hl, ho => by
    simp only [List.all_cons, Bool.and_eq_true] at ho
    simp only [List.length_cons] at hl
    obtain ⟨w', h1, h2, h3, h4, h5, h6, h7, h8⟩ := run_storeCells (P := P) (off := off) vs (i + 1) (w.setCell ⟨b, off + i, none⟩ v.den) (cs.set (off + i) v) (h.set _ _) (by simp; omega) ho.2
    refine ⟨w', ?_, h2, h3, h4, h5, by rw [h6]; simp [World.setCell], fun k hk => by rw [h7 k hk, setCell_other _ _ _ _ _ hk], fun c e fz hc => h8 (c.setIfInBounds (off + i) v.den) e fz (by simp [World.setCell, Array.getElem?_modify, hc])⟩
    have ha : (Addr.add ⟨b, off, none⟩ i) = ⟨b, off + i, none⟩ := by
      unfold Addr.add; split <;> simp_all
    simp only [denL, storeCells, ha, store, bind, Sem.bind]
    rw [run_store_one h (by omega) v ho.1]
    exact h1

theorem run_loadCells {P : Program} {w : World} {b : Bs} {off : Nat} {cs : List SV} (h : Reads w b cs) : ∀ (n i : Nat) (acc : Array Value), off + i + n ≤ cs.length →
    (loadCellsFrom ⟨b.n, b.o + off, none⟩ i n acc).run P w = .ok (acc ++ (denL ((cs.drop (off + i)).take n)).toArray) w
  | 0, i, acc, _ => by simp [loadCellsFrom, denL, Sem.run]
  | n + 1, i, acc, hl => by
    have ha : (Addr.add ⟨b.n, b.o + off, none⟩ i) = ⟨b.n, b.o + (off + i), none⟩ := by
      unfold Addr.add; split <;> simp_all [Nat.add_assoc]
    have hn : off + i < cs.length := by omega
    have hc := h (off + i) cs[off + i] (List.getElem?_eq_getElem hn)
    simp only [loadCellsFrom, ha, load, bind, Sem.bind, Sem.run, hc]
    rw [run_loadCells h n (i + 1) _ (by omega)]
    rw [List.drop_eq_getElem_cons hn, List.take_succ_cons, denL]
    simp [Nat.add_assoc]
end Go.Sx

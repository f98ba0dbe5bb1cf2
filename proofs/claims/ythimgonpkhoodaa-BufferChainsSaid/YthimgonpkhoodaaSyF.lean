/- SY, part F: 'doOp': every operation that turns memory; calls. Own work. -/
import Derived.Test.YthimgonpkhoodaaSyE
namespace Go.Sy
open Go.RowKit
set_option linter.unusedVariables false
set_option linter.unusedSimpArgs false

def rowsOf (zc : List SV) (n : Nat) : List SV := (List.replicate n zc).flatten

theorem range_rows (zc : List SV) (n : Nat) : ((Array.range (n * zc.length)).map (fun i => (denL zc).toArray[i % zc.length]!)) = (denL (rowsOf zc n)).toArray := by
  have := zeroCells_den zc n
  have hl : (denL zc).length = zc.length := by rw [denL_eq, List.length_map]
  simp only [Builtin.zeroCells, List.size_toArray, hl] at this
  exact this

def bsK (P : Program) (t : TypeId) (len : Nat) (parts : List (Nat × SV)) (H : SH) (K : SV → SH → Prop) : Prop :=
  match P.underlying t with
  | some (.slice e) => match szOf P e, zrOf P e with
    | some (s + 1), some z =>
      if len * (s + 1) ≤ 65536 then
        z.cooked = true ∧ (cellsOf z).length = s + 1 ∧
        match fillS (fun i => some (i * (s + 1), s + 1)) (rowsOf (cellsOf z) len) parts with
        | some cells => forceL cells fun cells => ∀ b : Nat, K (.sl H.length false ⟨b, 0⟩ (s + 1) 0 len len) (H ++ [(⟨b, 0⟩, .lit cells)])
        | none => False
      else False
    | _, _ => False
  | _ => False

theorem bsK_run {P : Program} {t : TypeId} {len : Nat} {parts : List (Nat × SV)} {H : SH} {K : SV → SH → Prop} {w : World} (hw : HSat w H) (h : bsK P t len parts H K) :
    ∃ v H' w', (Instr.buildSlice t len (parts.map fun p => (p.1, p.2.den)).toArray).run P w = .ok v.den w' ∧ HSat w' H' ∧ Ext w H w' H' ∧ K v H' := by
  unfold bsK at h
  simp only [forceL_eq] at h
  split at h <;> try exact h.elim
  rename_i e hu
  split at h <;> try exact h.elim
  rename_i s z hs hz
  split at h <;> try exact h.elim
  rename_i hle
  obtain ⟨hck, hzl, h⟩ := h
  split at h <;> try exact h.elim
  rename_i cells hf
  have hp := hw.push (.lit cells) rfl rfl (.cells (denL cells).toArray e (0, 0)) ⟨trivial, rfl, cellsAt_push w cells e (0, 0) (.inl rfl)⟩
  refine ⟨_, _, { w with heap := w.heap.push (.cells (denL cells).toArray e (0, 0)) }, ?_, hp.1, hp.2, h w.heap.size⟩
  have h2 := fillS_fill _ _ _ _ hf
  have hcd := cellsOf_den z (SV.cooked_ne hck)
  have ha : z.den.cells = (denL (cellsOf z)).toArray := by rw [hcd]
  unfold Instr.buildSlice
  refine (bind_run' (run_underlying hu w)).trans ?_
  simp only []
  refine (bind_run' (run_sizeOf hs w)).trans ?_
  rw [if_neg (by simp; omega)]
  have fin : ∀ (zz : Array Value), (Array.range (len * (s + 1))).map (fun i => zz[i % zz.size]!) = (denL (rowsOf (cellsOf z) len)).toArray →
      (match Instr.fill (fun i => some (i * (s + 1), s + 1)) ((Array.range (len * (s + 1))).map (fun x => zz[x % zz.size]!)) (parts.map fun (p : Nat × SV) => (p.1, p.2.den)) with
        | some cells => (do let a ← newRow e cells; pure (Value.slice (some a) len len) : Sem Value)
        | _ => stuck "buildSlice: a part of the wrong size").run P w = .ok (SV.sl H.length false ⟨w.heap.size, 0⟩ (s + 1) 0 len len).den { w with heap := w.heap.push (.cells (denL cells).toArray e (0, 0)) } := by
    intro zz hz
    rw [hz, h2]
    simp [newRow, newObj, Sem.run, bind, Sem.bind, pure, SV.den, nilB_false]
  by_cases h0 : len * (s + 1) = 0
  · rw [if_pos h0]
    refine (bind_run' (a := #[]) (w' := w) rfl).trans ?_
    refine fin #[] ?_
    have : len = 0 := by
      rcases Nat.mul_eq_zero.1 h0 with h | h
      · exact h
      · omega
    subst this
    simp [rowsOf, denL]
  · rw [if_neg h0]
    refine (bind_run' (run_zero hz w)).trans ?_
    refine (bind_run' (a := z.den.cells) (w' := w) rfl).trans ?_
    refine fin _ ?_
    rw [ha]
    have := range_rows (cellsOf z) len
    rw [hzl] at this
    have hsz : (denL (cellsOf z)).toArray.size = s + 1 := by simp [denL_eq, hzl]
    rw [hsz]
    exact this

/-- make([]T, len, cap): rows of the zero value. -/
def mkK (P : Program) (t : TypeId) (len cap : SV) (H : SH) (K : SV → SH → Prop) : Prop :=
  match len, cap with
  | .int .i64 l, .int .i64 c => match P.underlying t with
    | some (.slice e) => match szOf P e, zrOf P e, (P.info? e).map (·.bytes) with
      | some (s + 1), some z, some by_ =>
        (0 ≤ l ∧ l ≤ c ∧ c ≤ 9223372036854775807 ∧ natK by_ (fun by_ => by_ * c ≤ 281474976710656)) ∧ z.cooked = true ∧ (cellsOf z).length = s + 1 ∧
        match z with
        | .int k zn => ∀ b : Nat, K (.sl H.length false ⟨b, 0⟩ 1 0 l.toNat c.toNat) (H ++ [(⟨b, 0⟩, .vec false c.toNat (encInt k) 1 (List.replicate l.toNat zn))])
        | .str zs => ∀ b : Nat, K (.sl H.length false ⟨b, 0⟩ 1 0 l.toNat c.toNat) (H ++ [(⟨b, 0⟩, .vec false c.toNat encStr 1 (List.replicate l.toNat zs))])
        | .bool zb => ∀ b : Nat, K (.sl H.length false ⟨b, 0⟩ 1 0 l.toNat c.toNat) (H ++ [(⟨b, 0⟩, .vec false c.toNat encBool 1 (List.replicate l.toNat zb))])
        | z => ∃ (α : Type) (enc : α → List SV) (z0 : α), enc z0 = cellsOf z ∧ ∀ b : Nat, K (.sl H.length false ⟨b, 0⟩ (s + 1) 0 l.toNat c.toNat) (H ++ [(⟨b, 0⟩, .vec false c.toNat enc (s + 1) (List.replicate l.toNat z0))])
      | _, _, _ => False
    | _ => False
  | _, _ => False

theorem wrap_in {n : Int} (h0 : 0 ≤ n) (h : n ≤ 9223372036854775807) : IntKind.i64.wrap n = n := by
  simp [IntKind.wrap, IntKind.bits, IntKind.signed]; omega

theorem mkK_run {P : Program} {t : TypeId} {len cap : SV} {H : SH} {K : SV → SH → Prop} {w : World} (hw : HSat w H) (h : mkK P t len cap H K) :
    ∃ v H' w', (Instr.makeSlice t len.den cap.den).run P w = .ok v.den w' ∧ HSat w' H' ∧ Ext w H w' H' ∧ K v H' := by
  unfold mkK at h
  simp only [natK_eq] at h
  split at h <;> try exact h.elim
  rename_i l c
  split at h <;> try exact h.elim
  rename_i e hu
  split at h <;> try exact h.elim
  rename_i s z by_ hs hz hby
  obtain ⟨⟨h0, hlc, hc63, hb⟩, hck, hzl, h⟩ := h
  have hcd := cellsOf_den z (SV.cooked_ne hck)
  have ha : z.den.cells = (denL (cellsOf z)).toArray := by rw [hcd]
  have hbyi : ∃ i, P.info? e = some i ∧ i.bytes = by_ := by
    cases hi : P.info? e with
    | none => simp [hi] at hby
    | some i => simp [hi] at hby; exact ⟨i, rfl, hby⟩
  obtain ⟨inf, hinf, hinfb⟩ := hbyi
  have hbytes : ∀ w', (typeInfo e).run P w' = .ok inf w' := fun w' => by simp [typeInfo, program, bind, Sem.bind, Sem.run, hinf, pure]
  have hrun : (Instr.makeSlice t (.int .i64 l) (.int .i64 c)).run P w = .ok (.slice (some ⟨w.heap.size, 0, none⟩) l.toNat c.toNat) { w with heap := w.heap.push (.cells (denL (rowsOf (cellsOf z) c.toNat)).toArray e (0, 0)) } := by
    have hwl := wrap_in h0 (by omega)
    have hwc := wrap_in (n := c) (by omega) hc63
    have hask : ∀ m w', (askRoom m).run P w' = .ok () w' := fun m w' => by unfold askRoom; split <;> rfl
    have hnew : ∀ (o : Obj) w', (newObj o).run P w' = .ok w'.heap.size { w' with heap := w'.heap.push o } := fun o w' => rfl
    have hn1 : ¬ (c < 0) := by omega
    have hn2 : ¬ (281474976710656 < (by_ : Int) * c) := by omega
    have hn3 : ¬ (l < 0) := by omega
    have hn4 : ¬ (c < l) := by omega
    have fin : ∀ (zz : Array Value), (Array.range (c.toNat * (s + 1))).map (fun i => zz[i % zz.size]!) = (denL (rowsOf (cellsOf z) c.toNat)).toArray →
        (do let a ← newRow e ((Array.range (c.toNat * (s + 1))).map (fun i => zz[i % zz.size]!)); pure (Value.slice (some a) l.toNat c.toNat) : Sem Value).run P w =
          .ok (.slice (some ⟨w.heap.size, 0, none⟩) l.toNat c.toNat) { w with heap := w.heap.push (.cells (denL (rowsOf (cellsOf z) c.toNat)).toArray e (0, 0)) } := by
      intro zz hz
      rw [hz]
      simp [newRow, newObj, Sem.run, bind, Sem.bind, pure]
    unfold Instr.makeSlice
    refine (bind_run' (run_underlying hu w)).trans ?_
    simp only []
    refine (bind_run' (a := l) (w' := w) rfl).trans ?_
    refine (bind_run' (a := c) (w' := w) rfl).trans ?_
    refine (bind_run' (hbytes w)).trans ?_
    simp only [hwl, hwc, hinfb]
    rw [if_neg (by simp [hn1, hn2, hn3, hn4])]
    refine (bind_run' (hask _ w)).trans ?_
    refine (bind_run' (run_sizeOf hs w)).trans ?_
    by_cases h0 : c.toNat * (s + 1) = 0
    · rw [if_pos h0]
      refine (bind_run' (a := #[]) (w' := w) rfl).trans ?_
      refine fin #[] ?_
      have : c.toNat = 0 := by
        rcases Nat.mul_eq_zero.1 h0 with h | h
        · exact h
        · omega
      rw [this]
      simp [rowsOf, denL]
    · rw [if_neg h0]
      refine (bind_run' (run_zero hz w)).trans ?_
      refine (bind_run' (a := z.den.cells) (w' := w) rfl).trans ?_
      refine fin _ ?_
      rw [ha]
      have := range_rows (cellsOf z) c.toNat
      rw [hzl] at this
      have hsz : (denL (cellsOf z)).toArray.size = s + 1 := by simp [denL_eq, hzl]
      rw [hsz]
      exact this
  have main : ∀ {α : Type} (enc : α → List SV) (z0 : α), enc z0 = cellsOf z →
      K (.sl H.length false ⟨w.heap.size, 0⟩ (s + 1) 0 l.toNat c.toNat) (H ++ [(⟨w.heap.size, 0⟩, .vec false c.toNat enc (s + 1) (List.replicate l.toNat z0))]) →
      ∃ v H' w', (Instr.makeSlice t (SV.int .i64 l).den (SV.int .i64 c).den).run P w = .ok v.den w' ∧ HSat w' H' ∧ Ext w H w' H' ∧ K v H' := by
    intro α enc z0 hz0 hk
    have hrow : rowsOf (cellsOf z) c.toNat = (List.replicate l.toNat z0).flatMap enc ++ rowsOf (cellsOf z) (c.toNat - l.toNat) := by
      rw [flatMap_replicate, hz0]
      unfold rowsOf
      rw [← List.flatten_append, List.replicate_append_replicate]
      congr 2; omega
    have hp := hw.push (.vec false c.toNat enc (s + 1) (List.replicate l.toNat z0)) rfl rfl (.cells (denL (rowsOf (cellsOf z) c.toNat)).toArray e (0, 0))
      ⟨⟨fun y hy => by rw [List.eq_of_mem_replicate hy, hz0, hzl], by simp; omega⟩, fun _ => ⟨[], rowsOf (cellsOf z) (c.toNat - l.toNat), rfl, by
        rw [← List.length_append, ← hrow]; simp [rowsOf, hzl], by
        rw [List.nil_append, ← hrow]; exact cellsAt_push w _ e (0, 0) (.inl rfl)⟩⟩
    exact ⟨_, _, _, by simpa [SV.den, nilB_false] using hrun, hp.1, hp.2, hk⟩
  split at h
  · rename_i k zn
    have e1 : s + 1 = 1 := hzl.symm.trans rfl
    rw [e1] at main
    exact main (encInt k) zn rfl (h _)
  · rename_i zs
    have e1 : s + 1 = 1 := hzl.symm.trans rfl
    rw [e1] at main
    exact main encStr zs rfl (h _)
  · rename_i zb
    have e1 : s + 1 = 1 := hzl.symm.trans rfl
    rw [e1] at main
    exact main encBool zb rfl (h _)
  · obtain ⟨α, enc, z0, hz0, hk⟩ := h
    exact main enc z0 hz0 (hk _)

theorem modify_push {α : Type} (a : Array α) (x : α) (f : α → α) : (a.push x).modify a.size f = a.push (f x) := by
  apply Array.ext
  · simp
  · intro i h1 h2
    simp only [Array.getElem_modify, Array.getElem_push]
    simp at h2
    by_cases hi : i = a.size
    · subst hi; simp
    · rw [if_neg (fun h => hi h.symm), dif_pos (by omega), dif_pos (by omega)]

/-- []byte(s) -/
def sbK (P : Program) (src dst : TypeId) (x : SV) (H : SH) (K : SV → SH → Prop) : Prop :=
  match P.underlying src, P.underlying dst, x with
  | some .string, some (.slice e), .str s => match P.underlying e with
    | some (.int .u8) => s.length ≤ 9223372036854775807 ∧ ∀ b c : Nat, s.length ≤ c → K (.sl H.length false ⟨b, 0⟩ 1 0 s.length c) (H ++ [(⟨b, 0⟩, .vec false c encByte 1 s)])
    | _ => False
  | some (.slice _), some (.slice e), .sl i z b _ _ l c => match P.underlying e with
    | some (.int .u8) => src = dst ∧ nilB z l c = false ∧ (match H[i]? with
      | some (b', .lit _) => b' = b ∧ K x H
      | _ => False)
    | _ => False
  | _, _, _ => False

/-- A block marked: its cells stay. -/
theorem mark_run {P : Program} {w : World} {H : SH} (hw : HSat w H) {i : Nat} {b : Bs} {cs : List SV} (hi : H[i]? = some (b, .lit cs)) (off : Nat) :
    ∃ w', (markStringish ⟨b.n, off, none⟩).run P w = .ok () w' ∧ HSat w' H ∧ Ext w H w' H := by
  have hb := hw.blk hi rfl
  obtain ⟨_, h0, e, fz, h1, h2⟩ := hb
  let n := (denL cs).toArray.size
  have hn : n = cs.length := by simp [n, denL_length]
  let w1 : World := w.freeze { block := b.n, off := n } 1
  have hset : H.set i (b, .lit cs) = H := by
    apply List.ext_getElem?
    intro j
    rw [List.getElem?_set]
    split
    · rename_i hj; subst hj
      split
      · exact hi.symm
      · rename_i hlt; rw [List.getElem?_eq_none (by omega)]
    · rfl
  have hrun : (markStringish ⟨b.n, off, none⟩).run P w = .ok () w1 := by
    simp only [markStringish, shape, Sem.run_bind, Sem.run, World.shape?, h1, Result.andThen, freeze]
    rfl
  have hsz : w1.heap.size = w.heap.size := by simp [w1, World.freeze]
  have hother : ∀ k, k ≠ b.n → w1.heap[k]? = w.heap[k]? := fun k hk => by
    simp only [w1, World.freeze, Nat.one_ne_zero, if_false, Array.getElem?_modify]
    rw [if_neg (fun h => hk h.symm)]
  obtain ⟨fz', hfz', hth⟩ : ∃ fz', w1.heap[b.n]? = some (.cells (denL cs).toArray e fz') ∧ Thaw fz' cs.length := by
    obtain ⟨lo, hi'⟩ := fz
    refine ⟨if lo == hi' then (n, n + 1) else (min lo n, max hi' (n + 1)), ?_, ?_⟩
    · simp only [w1, World.freeze, Nat.one_ne_zero, if_false, Array.getElem?_modify, h1]
      rfl
    · rcases h2 with h2 | h2
      · cases h2
        exact .inr (by simp [hn])
      · simp only at h2
        split
        · exact .inr (by simp [hn])
        · exact .inr (by simp only; omega)
  have hat : BlkAt w1 (b, .lit cs) := ⟨trivial, h0, e, fz', hfz', hth⟩
  have ho : ∀ k, Own ((b, .lit cs) : Bs × Blk) k ↔ b.n = k := fun k => by rw [own_atom rfl]; exact ⟨fun h => h.2, fun h => ⟨trivial, h⟩⟩
  have hsm : ∀ k, k < w.heap.size → ¬ Own ((b, .lit cs) : Bs × Blk) k → w1.heap[k]? = w.heap[k]? := fun k _ hk => hother k (fun e => hk ((ho k).2 e.symm))
  have r1 := hw.upd (w' := w1) hi ((entry_atom (p := (b, .lit cs)) rfl).2 hat) rfl (by omega) hsm (fun k hk => by rw [solid_atom rfl] at hk; exact .inl ((ho k).2 hk.2))
  have r2 := Ext.upd (w := w) (w' := w1) (p' := (b, .lit cs)) hi rfl rfl rfl (by omega) hsm (fun k hk => by rw [own_atom rfl] at hk; exact .inl ((ho k).2 hk.2))
  rw [hset] at r1 r2
  exact ⟨w1, hrun, r1, r2⟩

theorem sbK_run {P : Program} {src dst : TypeId} {x : SV} {H : SH} {K : SV → SH → Prop} {w : World} (hw : HSat w H) (h : sbK P src dst x H K) :
    ∃ v H' w', (convert src dst x.den).run P w = .ok v.den w' ∧ HSat w' H' ∧ Ext w H w' H' ∧ K v H' := by
  unfold sbK at h
  split at h <;> try exact h.elim
  rotate_left
  · rename_i e0 e i z b wd j l c hs hd
    split at h <;> try exact h.elim
    rename_i he
    obtain ⟨rfl, hz, h⟩ := h
    split at h <;> try exact h.elim
    rename_i b' cs hi
    obtain ⟨rfl, hk⟩ := h
    obtain ⟨w1, h1, h2, h3⟩ := mark_run (P := P) hw hi (b'.o + j * wd)
    refine ⟨_, _, w1, ?_, h2, h3, hk⟩
    have hee : e0 = e := by rw [hs] at hd; simpa using hd
    subst hee
    simp only [SV.den, hz, cond_false, convert, Sem.run_bind, run_underlying hs, run_underlying hd, Result.andThen, run_underlying he, beq_self_eq_true, h1, Sem.run_pure]
  rename_i e s hs hd
  split at h <;> try exact h.elim
  rename_i he
  let c := Question.cut (.appendCap s.length 0 e) (w.tape w.drawn (.appendCap s.length 0 e))
  have hc : s.length ≤ c := by simp [c, Question.cut]
  have hcB : c ≤ 9223372036854775807 := by
    have hm : ∀ t : Nat, s.length + t % (2 ^ 63 - s.length) ≤ 9223372036854775807 := fun t => by
      have := Nat.mod_lt t (show 0 < 2 ^ 63 - s.length by have := h.1; omega)
      have := h.1
      omega
    exact hm _
  let cells := (denL ((s ++ List.replicate (c - s.length) (0 : UInt8)).flatMap encByte)).toArray
  have hlen : cells.size = c := by
    simp only [cells, List.size_toArray, denL_eq, List.length_map]
    rw [flatMap_length encByte 1 _ (fun _ _ => rfl)]
    simp; omega
  let w1 : World := { w with drawn := w.drawn + 1, heap := w.heap.push (.cells cells e (cells.size, cells.size + 1)) }
  have hp := hw.drew.push (.vec false c encByte 1 s) rfl rfl (.cells cells e (cells.size, cells.size + 1)) ⟨⟨fun _ _ => rfl, hc, hcB⟩, fun _ => ⟨[], (List.replicate (c - s.length) (0 : UInt8)).flatMap encByte, rfl, by
      rw [flatMap_length encByte 1 _ (fun _ _ => rfl), flatMap_length encByte 1 _ (fun _ _ => rfl)]; simp; omega, by
      have := cellsAt_push { w with drawn := w.drawn + 1 } ((s ++ List.replicate (c - s.length) (0 : UInt8)).flatMap encByte) e (cells.size, cells.size + 1) (.inr (by simp [cells, denL_eq]))
      rw [List.nil_append, ← List.flatMap_append]
      exact this⟩⟩
  refine ⟨_, _, w1, ?_, hp.1, (Ext.drew w H).trans hp.2, h.2 w.heap.size c hc⟩
  have hch : (choose (.appendCap s.length 0 e)).run P w = .ok c { w with drawn := w.drawn + 1 } := by
    simp [choose, Sem.run, Question.forced, c]
  have hcells : (ByteArray.mk s.toArray).data.map (fun b => Value.int .u8 b.toNat) ++ Array.replicate (c - s.length) (.int .u8 0) = cells := by
    have key : ∀ (l : List UInt8), denL (l.flatMap encByte) = l.map fun b => Value.int .u8 b.toNat := fun l => by
      induction l with
      | nil => simp [denL]
      | cons a l ih => simp only [List.flatMap_cons, encByte, List.singleton_append, denL, List.map_cons, SV.den]; rw [← ih]
    apply Array.ext'
    simp only [cells, key, List.map_append]
    simp
  have hsz : (ByteArray.mk s.toArray).size = s.length := rfl
  have hnew : ∀ (o : Obj) w', (newObj o).run P w' = .ok w'.heap.size { w' with heap := w'.heap.push o } := fun o w' => rfl
  have hmark : (markStringish ⟨w.heap.size, 0, none⟩).run P { w with drawn := w.drawn + 1, heap := w.heap.push (.cells cells e (0, 0)) } = .ok () w1 := by
    simp only [markStringish, shape, Sem.run_bind, Sem.run, World.shape?, Array.getElem?_push_size, Result.andThen, freeze, World.freeze, Nat.one_ne_zero, if_false, modify_push]
    rfl
  simp only [SV.den, nilB_false, cond_false, convert, Sem.run_bind, run_underlying hs, run_underlying hd, Result.andThen, run_underlying he, Conv.stringToBytes, hsz, hch, hcells, newRow, hnew, Sem.run_pure, hmark, Nat.zero_mul]

/-! ### all of them -/
/-- Any operation, a call among them. -/
structure AnyOb (P : Program) (o : Oper) (e : Operand → SV) (H : SH) (K : SV → SH → Prop) : Prop where
  run : ∀ w, HSat w H → Did P o e w H K
def isIntV : SV → Bool
  | .int _ _ => true
  | _ => false
def doOp (P : Program) (o : Oper) (e : Operand → SV) (H : SH) (K : SV → SH → Prop) : Prop :=
  match o.op with
  | .assign x => forceV (e x) fun v => K v H
  | .alloc t => match zrOf P t with
    | some z => z.cooked = true ∧ newK P t (cellsOf z) H K
    | none => False
  | .box t v => forceV (e v) fun v => v.cooked = true ∧ newK P t (cellsOf v) H K
  | .store t a v => forceV (e v) fun v => stK P t (e a) v H K
  | .buildSlice t n ps => bsK P t n (ps.toList.map fun p => (p.1, e p.2)) H K
  | .makeSlice t l c => mkK P t (e l) (e c) H K
  | .convert s d x => sbK P s d (e x) H K
  | .call c => match c.callee with
    | .builtin .append => match c.args.toList with
      | [s, x] => match isIntV (e x) with
        | true => OpOb P o e H K
        | false => forceV (e s) fun s => forceV (e x) fun x => appK P c.argTypes.toList s x H K
      | _ => False
    | .builtin _ => OpOb P o e H K
    | .value f => match e f with
      | .clo (.func f) fs cs => forceL (fs ++ c.args.toList.map e ++ cs) fun as => FnOb P f as H K
      | _ => False
    | .invoke _ _ => AnyOb P o e H K
  | _ => OpOb P o e H K

theorem fnOb_did {P : Program} {o : Oper} {e : Operand → SV} {H : SH} {K : SV → SH → Prop} {w : World} {f : FuncId} {args : List SV} (hw : HSat w H) (h : FnOb P f args H K)
    (hr : (execOp (fun x => (e x).den) o).run P w = (callFunc f (denL args).toArray).run P w) : Did P o e w H K := by
  rcases h.run w hw with ⟨v, w', h1, r, H', rfl, h2, h3, h4⟩ | ⟨h1, h2⟩
  · exact .inl ⟨r, H', w', .inl (hr.trans h1), h2, h3, h4⟩
  · exact .inr ⟨f, (denL args).toArray, hr.trans h1, h2.mono fun en w' ⟨v, he, r, H', hv, h3⟩ => ⟨r, H', by rw [he, hv], h3⟩⟩

theorem doOp_did {P : Program} {o : Oper} {e : Operand → SV} {H : SH} {K : SV → SH → Prop} {w : World} (hw : HSat w H) (h : doOp P o e H K) : Did P o e w H K := by
  have fin : ∀ {s : Sem Value}, (execOp (fun x => (e x).den) o = (do pure (.value (← s)))) → (∃ v H' w', s.run P w = .ok (SV.den v) w' ∧ HSat w' H' ∧ Ext w H w' H' ∧ K v H') → Did P o e w H K := by
    intro s hs ⟨v, H', w', hr, h1, h2, h3⟩
    exact .inl ⟨v, H', w', .inl (by rw [hs, bind_run' hr]; rfl), h1, h2, h3⟩
  have other : OpOb P o e H K → Did P o e w H K := fun h => by
    obtain ⟨v, H', w', hr, h1, h2, h3⟩ := h.run w hw
    exact .inl ⟨v, H', w', hr, h1, h2, h3⟩
  obtain ⟨dst, op, ty, pos, after, guard⟩ := o
  simp only [doOp, forceV_eq, forceL_eq] at h
  cases op with
  | assign x => exact .inl ⟨_, _, w, .inl rfl, hw, Ext.refl _ _, h⟩
  | alloc t =>
    simp only at h
    split at h <;> try exact h.elim
    rename_i z hz
    obtain ⟨hck, h⟩ := h
    refine new_did hw h ?_
    have hcd := cellsOf_den z (SV.cooked_ne hck)
    have ha : z.den.cells = (denL (cellsOf z)).toArray := by rw [hcd]
    simp only [execOp, Instr.alloc]
    refine (bind_run' (a := .pointer (some ⟨w.heap.size, 0, none⟩)) (w' := { w with heap := w.heap.push (.cells (denL (cellsOf z)).toArray t (0, 0)) }) ?_).trans rfl
    refine (bind_run' (run_zero hz w)).trans ?_
    simp [newVar, newRow, newObj, bind, Sem.bind, Sem.run, pure, ha]
  | box t v =>
    obtain ⟨hck, h⟩ := h
    refine new_did hw h ?_
    have hcd := cellsOf_den (e v) (SV.cooked_ne hck)
    have ha : (e v).den.cells = (denL (cellsOf (e v))).toArray := by rw [hcd]
    simp [execOp, Instr.box, newVar, newRow, newObj, bind, Sem.bind, Sem.run, pure, ha]
  | store t a v =>
    obtain ⟨H', w', hr, h1, h2, h3⟩ := stK_spec hw h
    refine .inl ⟨_, H', w', .inr ⟨?_, rfl⟩, h1, h2, h3⟩
    simp only [execOp]
    exact (bind_run' hr).trans rfl
  | buildSlice t n ps =>
    obtain ⟨v, H', w', r, h1, h2, h3⟩ := bsK_run hw h
    refine .inl ⟨v, H', w', .inl ?_, h1, h2, h3⟩
    simp only [execOp]
    refine (bind_run' (a := v.den) (w' := w') ?_).trans rfl
    rw [← r]
    congr 2
    apply Array.ext'
    simp
  | makeSlice t l c => exact fin rfl (mkK_run hw h)
  | convert s d x => exact fin rfl (sbK_run hw h)
  | call c =>
    obtain ⟨callee, args, argTypes⟩ := c
    have hargs := map_ofFn e args
    cases callee with
    | invoke r m => exact h.run w hw
    | value f =>
      simp only at h
      split at h <;> try exact h.elim
      rename_i f' fs cs hf
      have h1 : (denL fs).toArray ++ (denL (args.toList.map e)).toArray ++ (denL cs).toArray = (denL (fs ++ args.toList.map e ++ cs)).toArray := by
        simp [denL_append]
      have hr : execOp (fun x => (e x).den) ⟨dst, .call ⟨.value f, args, argTypes⟩, ty, pos, after, guard⟩ = callFunc f' (denL (fs ++ args.toList.map e ++ cs)).toArray := by
        rw [← h1, ← hargs]
        show (do let d ← Deferred.ofValue (e f).den (args.map fun x => (e x).den); invoke d.target d.args : Sem Next) = _
        rw [hf]
        rfl
      exact fnOb_did hw h (by rw [hr])
    | builtin b =>
      cases b with
      | append =>
        simp only at h
        split at h <;> try exact h.elim
        rename_i s x ha
        split at h
        · exact other h
        have hargs' : args.map (fun x => (e x).den) = #[(e s).den, (e x).den] := by rw [hargs, ha]; simp [denL]
        have hr : execOp (fun x => (e x).den) ⟨dst, .call ⟨.builtin .append, args, argTypes⟩, ty, pos, after, guard⟩ = (do pure (.value (← Builtin.append_ argTypes ty #[(e s).den, (e x).den])) : Sem Next) := by
          rw [← hargs']
          rfl
        obtain ⟨v, H', w', r, h1, h2, h3⟩ := appK_run (ty := ty) hw h
        rw [Array.toArray_toList] at r
        exact fin hr ⟨v, H', w', r, h1, h2, h3⟩
      | _ => exact other h
  | _ => exact other h
end Go.Sy

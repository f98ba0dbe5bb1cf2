/- SY, part R: what a row's arguments are, in symbolic memory. Own work. -/
import Derived.Test.YthimgonpkhoodaaSyN
import Derived.ProofKit
import Derived.OpenShut
import Derived.SliceStrings
import Derived.SizedLaws
import Derived.ChangeArms
import Derived.Deep.Slices
namespace Go.Sy
open Go.RowKit Go.ChangeShapes Go.WideShapes Go.ChangeAt Go.Deep
set_option linter.unusedVariables false
set_option linter.unusedSimpArgs false

theorem okWide_sl {P : Program} {w : World} {r : Reach} {base : Nat} {t e : TypeId} {v : Value} (ht : P.underlying t = some (.slice e)) (h : Value.okWide P w r base t v) :
    v = .slice none 0 0 ∨ ∃ (b off len cap : Nat), v = .slice (some ⟨b, off, none⟩) len cap ∧ len ≤ cap := by
  simp only [Value.okWide, ht, Cell.okWide] at h
  cases v with
  | slice a len cap =>
    cases a with
    | none =>
      cases len <;> cases cap <;> simp_all [Cell.ok]
    | some a =>
      right
      obtain ⟨b, off, spot⟩ := a
      simp only [Cell.ok, ht, World.has] at h
      obtain ⟨h1, _, _, h2, _⟩ := h
      exact ⟨b, off, len, cap, by subst h2; rfl, h1⟩
  | _ => simp_all [Cell.ok]

/-- What a plain cell holds, with strings of at most so many bytes. -/
def okV (B : Nat) : CK → Value → Prop
  | .b, .bool _ => True
  | .i k, .int k' n => k' = k ∧ k.min ≤ n ∧ n ≤ k.max
  | .s, .string s => s.size ≤ B
  | _, _ => False
def okVs (B : Nat) : List CK → List Value → Prop
  | [], [] => True
  | k :: ks, v :: vs => okV B k v ∧ okVs B ks vs
  | _, _ => False
theorem okVs_append {B : Nat} : ∀ (ks js : List CK) (vs us : List Value), okVs B ks vs → okVs B js us → okVs B (ks ++ js) (vs ++ us)
  | [], js, [], us, _, h => h
  | [], js, v :: vs, us, h, _ => h.elim
  | k :: ks, js, [], us, h, _ => h.elim
  | k :: ks, js, v :: vs, us, h, h' => ⟨h.1, okVs_append ks js vs us h.2 h'⟩
theorem okVs_length {B : Nat} : ∀ (ks : List CK) (vs : List Value), okVs B ks vs → vs.length = ks.length
  | [], [], _ => rfl
  | [], v :: vs, h => h.elim
  | k :: ks, [], h => h.elim
  | k :: ks, v :: vs, h => by simp [okVs_length ks vs h.2]

theorem wf_int {k : IntKind} {n : Int} (h : (Lit.int k n).wf = true) : k.min ≤ n ∧ n ≤ k.max := by simpa [Lit.wf] using h

section
variable {H : Type} {enc : TypeId × Value → H} {P : Program} {w : World} {base : Nat} {spare : Nat → Bool} {held : Bool}

theorem cellsOf_sz {t : TypeId} {n : Nat} (h : szOf P t = some n) : P.cellsOf t = n := by
  obtain ⟨i, hi, hn⟩ := underlying_of_info h
  simp [Program.cellsOf, hi, hn]

theorem trod_plain (B : Nat) : ∀ (d : Nat) (t : TypeId) (ks : List CK), kindsT P d t = some ks → szOf P t = some ks.length → ∀ (n : Nat) (cs : List Value) (x : DataW H × List MemPlace), DataW.trod enc P w base spare held n t cs = some x →
    (∀ m ∈ x.1.weights P t, m ≤ B) → okVs B ks cs
  | 0, t, ks, h, _, _, _, _, _, _ => by simp [kindsT] at h
  | d + 1, t, ks, h, hsz, n, cs, x, hx, hB => by
    unfold kindsT at h
    cases hun : P.underlying t with
    | none => rw [hun] at h; cases h
    | some u =>
      rw [hun] at h
      cases u with
      | bool =>
        obtain rfl := Option.some.inj h
        obtain ⟨b, rfl, rfl⟩ := DataW.trod_bool hun hx
        exact ⟨trivial, trivial⟩
      | int k =>
        obtain rfl := Option.some.inj h
        obtain ⟨b, rfl, rfl, hw⟩ := DataW.trod_int hun hx
        exact ⟨⟨rfl, wf_int hw⟩, trivial⟩
      | string =>
        obtain rfl := Option.some.inj h
        obtain ⟨s, rfl, rfl, hw⟩ := DataW.trod_string hun hx
        have := hB s.data.toList.length (by simp [DataW.weights])
        refine ⟨?_, trivial⟩
        rw [Array.length_toList] at this
        exact this
      | array m e =>
        simp only at h
        split at h <;> try (cases h; done)
        rename_i js hjs
        split at h <;> try (cases h; done)
        rename_i hse
        obtain rfl := Option.some.inj h
        obtain ⟨xs, n', rfl, rfl, hlen, hxl, hel⟩ := DataW.trod_array hun hx
        have hce := cellsOf_sz hse
        rw [cellsOf_sz hsz] at hlen
        have items : ∀ (r i : Nat), i + r = m → okVs B (List.replicate r js).flatten (cs.drop (i * js.length)) := by
          intro r
          induction r with
          | zero =>
            intro i hi
            rw [List.drop_eq_nil_of_le (by rw [hlen]; simp; rw [← hi]; simp)]
            exact trivial
          | succ r ih =>
            intro i hi
            have h1 := hel i (by omega)
            rw [hce] at h1
            have hg : xs[i]? = some xs[i] := List.getElem?_eq_getElem (by omega)
            rw [hg] at h1
            have := trod_plain B d e js hjs hse n' _ _ h1 (fun m' hm' => hB m' (by
              simp only [DataW.weights, hun]
              have aux : ∀ (l : List (DataW H)) (y : DataW H), y ∈ l → ∀ q ∈ y.weights P e, q ∈ DataW.weightsAll P e l := by
                intro l
                induction l with
                | nil => intro y hy; simp at hy
                | cons a l ihl =>
                  intro y hy q hq
                  simp only [DataW.weightsAll, List.mem_append]
                  rcases List.mem_cons.1 hy with rfl | hy
                  · exact .inl hq
                  · exact .inr (ihl y hy q hq)
              exact aux _ xs[i].1 (List.mem_map_of_mem (List.getElem_mem _)) m' hm'))
            rw [List.replicate_succ, List.flatten_cons]
            have e1 : cs.drop (i * js.length) = (cs.drop (i * js.length)).take js.length ++ cs.drop ((i + 1) * js.length) := by
              conv => lhs; rw [← List.take_append_drop js.length (cs.drop (i * js.length))]
              rw [List.drop_drop, Nat.add_mul, Nat.one_mul]
            rw [e1]
            exact okVs_append _ _ _ _ this (ih (i + 1) (by omega))
        have := items m 0 (by omega)
        simpa using this
      | struct fs =>
        simp only at h
        split at h <;> try (cases h; done)
        rename_i hst
        obtain ⟨xs, n', rfl, rfl, hlen, hxl, hel⟩ := DataW.trod_struct hun hx
        rw [cellsOf_sz hsz] at hlen
        have flds : ∀ (l : List Field) (i off : Nat) (js : List CK), fs.toList.drop i = l → kindsF P (kindsT P d) l off = some js → cs.length = off + js.length → okVs B js (cs.drop off) := by
          intro l
          induction l with
          | nil =>
            intro i off js hl hk hoff
            obtain rfl := Option.some.inj hk
            rw [List.drop_eq_nil_of_le (by simp at hoff; omega)]
            exact trivial
          | cons f l ih =>
            intro i off js hl hk hoff
            unfold kindsF at hk
            split at hk <;> try (cases hk; done)
            rename_i ms hms
            split at hk <;> try (cases hk; done)
            rename_i hc
            obtain ⟨hname, hfo, hfs⟩ := hc
            split at hk <;> try (cases hk; done)
            rename_i rs hrs
            obtain rfl := Option.some.inj hk
            have hfi : fs[i]? = some f := by
              have := congrArg (fun l => l[0]?) hl
              simpa using this
            have hil : i < fs.size := (Array.getElem?_eq_some_iff.1 hfi).1
            have h1 := hel i f hfi
            rw [cellsOf_sz hfs, hfo] at h1
            have hg : xs[i]? = some xs[i] := List.getElem?_eq_getElem (by omega)
            rw [hg] at h1
            have := trod_plain B d f.type ms hms hfs n' _ _ h1 (fun m' hm' => hB m' (by
              simp only [DataW.weights, hun]
              exact DataW.weights_mem_each (j := i) (t := f.type) (d := xs[i].1) (by
                have : fs.toList[i]? = some f := by simpa using hfi
                simp [this]) (by simp [hg]) m' hm'))
            have e1 : cs.drop off = (cs.drop off).take ms.length ++ cs.drop (off + ms.length) := by
              conv => lhs; rw [← List.take_append_drop ms.length (cs.drop off)]
              rw [List.drop_drop]
            rw [e1]
            refine okVs_append _ _ _ _ this (ih (i + 1) (off + ms.length) rs ?_ hrs (by simp at hoff; omega))
            rw [← List.drop_drop, hl]; rfl
        have := flds fs.toList 0 0 ks (by simp) h (by omega)
        simpa using this
      | _ => cases h

/-- A slice's cell, of elements of plain cells: its rows. -/
theorem open_rows_cell {t e : TypeId} {d : Nat} {ks : List CK} {cs : List Value} {x : DataW H × List MemPlace} {fuel : Nat} (ht : P.underlying t = some (.slice e)) (hk : kindsT P d e = some ks) (hs : szOf P e = some ks.length) (B : Nat)
    (hspot : ∀ a len cap, cs = [.slice (some a) len cap] → a.spot = none ∨ (len = 0 ∧ cap = 0)) (hf : DataW.trod enc P w base spare held fuel t cs = some x) (hB : ∀ m ∈ x.1.weights P t, m ≤ B) :
    ∃ (z : Bool) (b : Bs) (c : Nat) (rows : List (List Value)), cs = [(SV.sl 0 z b ks.length 0 rows.length c).den] ∧ (∀ x ∈ rows, okVs B ks x) ∧ rows.length * P.bytesOf e ≤ B ∧ rows.length ≤ c ∧
      ∀ (n : Nat) (x : Value), (rows.flatten)[n]? = some x → w.cell? ⟨b.n, b.o + n, none⟩ = some x := by
  rcases open_slice ht hf with ⟨hcs, hx⟩ | ⟨a, len, cap, m, n, D, Pl, hcs, hb, hl, hm, hmm, hx, hi⟩
  · exact ⟨true, ⟨0, 0⟩, 0, [], by rw [hcs]; rfl, by simp, by simp, by simp, by simp⟩
  · rcases hspot a len cap hcs with hsp | ⟨h0, h0'⟩
    case inr =>
      subst h0; subst h0'
      exact ⟨true, { n := 0, o := 0, e := ⟨some a⟩ }, 0, [], by rw [hcs]; rfl, by simp, by simp, by simp, by simp⟩
    have hle : len ≤ m := by rw [hmm]; split <;> omega
    have hce := cellsOf_sz hs
    have hdd : x.1 = .slice ((List.range len).map D) ((List.range (m - len)).map fun j => D (len + j)) := congrArg Prod.fst hx
    have hrow : ∀ i, i < len → ∃ cs', w.cells? base (a.add (i * ks.length)) ks.length = some cs' ∧ okVs B ks cs' := by
      intro i hil
      obtain ⟨cs', h1, h2⟩ := hi i (by omega)
      rw [hce] at h1
      refine ⟨cs', h1, trod_plain B d e ks hk hs n cs' _ h2 fun q hq => hB q ?_⟩
      rw [hdd]
      simp only [DataW.weights, ht, List.mem_cons, List.mem_append]
      refine .inr (.inl ?_)
      have aux : ∀ (l : List (DataW H)) (y : DataW H), y ∈ l → ∀ q ∈ y.weights P e, q ∈ DataW.weightsAll P e l := by
        intro l
        induction l with
        | nil => intro y hy; simp at hy
        | cons a l ihl =>
          intro y hy q hq
          simp only [DataW.weightsAll, List.mem_append]
          rcases List.mem_cons.1 hy with rfl | hy
          · exact .inl hq
          · exact .inr (ihl y hy q hq)
      exact aux _ (D i) (List.mem_map_of_mem (List.mem_range.2 hil)) q hq
    have hbytes : len * P.bytesOf e ≤ B := by
      have := hB ((((List.range len).map D).length + ((List.range (m - len)).map fun j => D (len + j)).length) * P.bytesOf e) (by rw [hdd]; simp [DataW.weights, ht])
      refine Nat.le_trans (Nat.mul_le_mul_right _ ?_) this
      simp
    obtain ⟨blk, off, spot⟩ := a
    simp only at hsp
    subst hsp
    have build : ∀ k, k ≤ len → ∃ rows : List (List Value), rows.length = k ∧ (∀ x ∈ rows, okVs B ks x) ∧ ∀ (q : Nat) (x : Value), (rows.flatten)[q]? = some x → w.cell? ⟨blk, off + q, none⟩ = some x := by
      intro k
      induction k with
      | zero => intro _; exact ⟨[], rfl, by simp, by simp⟩
      | succ k ih =>
        intro hk'
        obtain ⟨rows, h1, h2, h3⟩ := ih (by omega)
        obtain ⟨cs', hc, hok⟩ := hrow k (by omega)
        obtain ⟨_, hcl, hat⟩ := World.cells?_some hc
        have hfl : rows.flatten.length = k * ks.length := by
          have aux : ∀ l : List (List Value), (∀ x ∈ l, okVs B ks x) → l.flatten.length = l.length * ks.length := by
            intro l
            induction l with
            | nil => intro _; simp
            | cons a l ihl =>
              intro h
              rw [List.flatten_cons, List.length_append, okVs_length _ _ (h a (by simp)), ihl (fun x hx => h x (by simp [hx])), List.length_cons, Nat.add_mul]; omega
          rw [aux rows h2, h1]
        refine ⟨rows ++ [cs'], by simp [h1], fun x hx => by rcases List.mem_append.1 hx with hx | hx; exact h2 x hx; simp at hx; subst hx; exact hok, fun q x hq => ?_⟩
        rw [List.flatten_append, List.flatten_cons, List.flatten_nil, List.append_nil, List.getElem?_append] at hq
        split at hq
        · exact h3 q x hq
        · rename_i hge
          rw [hfl] at hq hge
          have hql : q - k * ks.length < ks.length := by
            have := (List.getElem?_eq_some_iff.1 hq).1
            omega
          have := hat (q - k * ks.length) hql
          rw [hq, addr_add, addr_add] at this
          rw [← this]
          congr 2
          omega
    obtain ⟨rows, h1, h2, h3⟩ := build len (Nat.le_refl _)
    refine ⟨false, ⟨blk, off⟩, cap, rows, ?_, h2, by rw [h1]; exact hbytes, by rw [h1]; exact hl, h3⟩
    rw [hcs, h1]; simp [SV.den, nilB_false]
/-- A slice that came in, of elements of plain cells: its rows. -/
theorem open_rows_room {t e : TypeId} {d : Nat} {ks : List CK} {v : Value} {dd : DataW H} {ps : List MemPlace} {r : Reach} {b0 : Nat} (ht : P.underlying t = some (.slice e)) (hk : kindsT P d e = some ks) (hs : szOf P e = some ks.length) (B : Nat)
    (hval : Value.okWide P w r b0 t v) (hd : DataW.Trod enc P w base spare held t v dd ps) (hB : ∀ m ∈ dd.weights P t, m ≤ B) :
    ∃ (z : Bool) (b : Bs) (c : Nat) (rows : List (List Value)), v = (SV.sl 0 z b ks.length 0 rows.length c).den ∧ (∀ x ∈ rows, okVs B ks x) ∧ rows.length * P.bytesOf e ≤ B ∧ rows.length ≤ c ∧
      ∀ (n : Nat) (x : Value), (rows.flatten)[n]? = some x → w.cell? ⟨b.n, b.o + n, none⟩ = some x := by
  obtain ⟨fuel, hf⟩ := hd
  have hv : v.cells.toList = [v] := by
    rcases okWide_sl ht hval with rfl | ⟨_, _, _, _, rfl, _⟩ <;> rfl
  rw [hv] at hf
  obtain ⟨z, b, c, rows, h1, h2⟩ := open_rows_cell ht hk hs B (fun a len cap he => by
    left
    obtain rfl := (List.cons.inj he).1
    simp only [Value.okWide, ht, Cell.okWide, Cell.ok, World.has] at hval
    exact hval.2.2.2.1) hf hB
  exact ⟨z, b, c, rows, (List.cons.inj h1).1, h2⟩
/-- .. a slice in a cell of what came in. -/
theorem open_rows_in {t e : TypeId} {d : Nat} {ks : List CK} {cs : List Value} {x : DataW H × List MemPlace} {fuel : Nat} (ht : P.underlying t = some (.slice e)) (hk : kindsT P d e = some ks) (hs : szOf P e = some ks.length) (h0 : 0 < ks.length) (B : Nat)
    (hf : DataW.trod enc P w base (fun _ => true) held fuel t cs = some x) (hB : ∀ m ∈ x.1.weights P t, m ≤ B) :
    ∃ (z : Bool) (b : Bs) (c : Nat) (rows : List (List Value)), cs = [(SV.sl 0 z b ks.length 0 rows.length c).den] ∧ (∀ x ∈ rows, okVs B ks x) ∧ rows.length * P.bytesOf e ≤ B ∧ rows.length ≤ c ∧
      ∀ (n : Nat) (x : Value), (rows.flatten)[n]? = some x → w.cell? ⟨b.n, b.o + n, none⟩ = some x := by
  refine open_rows_cell ht hk hs B (fun a len cap he => ?_) hf hB
  rcases open_slice ht hf with ⟨hcs, hx⟩ | ⟨a', len', cap', m, n, D, Pl, hcs, hb, hl, hm, hmm, hx, hi⟩
  · rw [he] at hcs; simp at hcs
  · rw [he] at hcs
    simp at hcs
    obtain ⟨rfl, rfl, rfl⟩ := hcs
    simp only [if_true] at hmm
    by_cases hc : cap = 0
    · exact .inr ⟨by omega, hc⟩
    · left
      obtain ⟨cs', h1, _⟩ := hi 0 (by omega)
      rw [cellsOf_sz hs] at h1
      obtain ⟨_, hcl, hat⟩ := World.cells?_some h1
      have := hat 0 h0
      rw [List.getElem?_eq_getElem (by rw [hcl]; exact h0)] at this
      cases hq : a.spot with
      | none => rfl
      | some q =>
        simp only [Addr.add, Nat.zero_mul, if_true] at this
        unfold World.cell? at this
        rw [hq] at this
        split at this <;> simp at this
/-- A struct or an array of plain cells that came in. -/
theorem open_agg {t : TypeId} {d : Nat} {ks : List CK} {v : Value} {dd : DataW H} {ps : List MemPlace} {r : Reach} {b0 : Nat} (ha : isAggT P t = true) (hk : kindsT P d t = some ks) (hs : szOf P t = some ks.length) (B : Nat)
    (hval : Value.okWide P w r b0 t v) (hd : DataW.Trod enc P w base spare held t v dd ps) (hB : ∀ m ∈ dd.weights P t, m ≤ B) :
    ∃ cs : List Value, v = .agg cs.toArray ∧ okVs B ks cs := by
  obtain ⟨fuel, hf⟩ := hd
  have hv : ∃ cs, v = .agg cs := by
    unfold Value.okWide at hval
    unfold isAggT at ha
    split at ha
    · rename_i fs hu; rw [hu] at hval; obtain ⟨cs, h, _⟩ := hval; exact ⟨cs, h⟩
    · rename_i n e hu; rw [hu] at hval; obtain ⟨cs, h, _⟩ := hval; exact ⟨cs, h⟩
    · cases ha
  obtain ⟨cs, rfl⟩ := hv
  refine ⟨cs.toList, by simp, ?_⟩
  exact trod_plain B d t ks hk hs _ _ _ hf hB
theorem open_rows {t e : TypeId} {d : Nat} {ks : List CK} {v : Value} {dd : DataW H} {ps : List MemPlace} {r : Reach} {b0 : Nat} (ht : P.underlying t = some (.slice e)) (hk : kindsT P d e = some ks) (hs : szOf P e = some ks.length) (B : Nat)
    (hval : Value.okWide P w r b0 t v) (hd : DataW.Trod enc P w base spare held t v dd ps) (hB : ∀ m ∈ dd.weights P t, m ≤ B) :
    ∃ (z : Bool) (b : Bs) (c : Nat) (rows : List (List Value)), v = (SV.sl 0 z b ks.length 0 rows.length c).den ∧ (∀ x ∈ rows, okVs B ks x) ∧ rows.length * P.bytesOf e ≤ B ∧
      ∀ (n : Nat) (x : Value), (rows.flatten)[n]? = some x → w.cell? ⟨b.n, b.o + n, none⟩ = some x :=
  let ⟨z, b, c, rows, h1, h2, h3, _, h5⟩ := open_rows_room (base := base) (enc := enc) ht hk hs B hval hd hB
  ⟨z, b, c, rows, h1, h2, h3, h5⟩
end

theorem den_str (s : ByteArray) : (SV.str s.data.toList).den = .string s := by
  simp only [SV.den]

/-- Windows alone hold. -/
theorem hsat_nil (w : World) : HSat w [] := ⟨fun i j p q _ hi => by simp at hi, by simp⟩
theorem noown_win {p : Bs × Blk} (h : p.2.isWin = true) (k : Nat) : ¬ Own p k := by
  obtain ⟨b, bk⟩ := p
  cases bk with
  | win => intro ho; exact ho.1
  | wins => intro ho; exact ho
  | _ => cases h
theorem hsat_ents {w : World} {H : SH} (h : ∀ p ∈ H, p.2.isWin = true ∧ EntryAt w p) : HSat w H :=
  ⟨fun i j p q hij hi hj k => ⟨fun ⟨_, b⟩ => noown_win (h q (List.mem_of_getElem? hj)).1 k b, fun ⟨a, _⟩ => noown_win (h p (List.mem_of_getElem? hi)).1 k a⟩, fun p hp => (h p hp).2⟩
theorem hsat_wins {w : World} {H : SH} (h : ∀ p ∈ H, p.2.isWin = true ∧ BlkAt w p) : HSat w H := by
  refine ⟨fun i j p q hij hi hj k => ⟨fun ⟨_, b⟩ => noown_win (h q (List.mem_of_getElem? hj)).1 k b, fun ⟨a, _⟩ => noown_win (h p (List.mem_of_getElem? hi)).1 k a⟩, fun p hp => ?_⟩
  have := h p hp
  refine (entry_atom ?_).2 this.2
  obtain ⟨b, bk⟩ := p
  cases bk with
  | fam => cases this.1
  | wins => exact False.elim this.2.2
  | _ => rfl
theorem nowr_wins {H : SH} (h : ∀ p ∈ H, p.2.isWin = true) (k : Nat) : ¬ Wr H k := fun ⟨p, hp, hw⟩ => noown_win (h p hp) k hw

/-- Rows that came in, as an element's own cells. -/
theorem blk_rows {w : World} {b : Bs} {α : Type} {en : α → List SV} {wd : Nat} {rows : List (List Value)} {l : List α} (hrows : rows = l.map fun x => denL (en x)) (hw : ∀ x ∈ l, (en x).length = wd)
    (hc : ∀ (n : Nat) (x : Value), (rows.flatten)[n]? = some x → w.cell? ⟨b.n, b.o + n, none⟩ = some x) : BlkAt w (b, .win en wd l) := by
  refine ⟨hw, fun n v hv => hc n v.den ?_⟩
  rw [hrows]
  have e : (l.map fun x => denL (en x)).flatten = denL (l.flatMap en) := by
    clear hrows hw hc hv
    induction l with
    | nil => rfl
    | cons a l ih => rw [List.map_cons, List.flatten_cons, ih, List.flatMap_cons, denL_append]
  rw [e, denL_getElem?, hv]; rfl

/-- Rows read as elements, if each of them does. -/
theorem rows_as {α : Type} {en : α → List SV} {ok : α → Prop} {rows : List (List Value)} (h : ∀ r ∈ rows, ∃ x, r = denL (en x) ∧ ok x) : ∃ l : List α, rows = l.map (fun x => denL (en x)) ∧ ∀ x ∈ l, ok x := by
  induction rows with
  | nil => exact ⟨[], rfl, by simp⟩
  | cons r rows ih =>
    obtain ⟨l, h1, h2⟩ := ih fun r hr => h r (by simp [hr])
    obtain ⟨x, hx, hok⟩ := h r (by simp)
    exact ⟨x :: l, by rw [List.map_cons, ← hx, ← h1], fun y hy => by rcases List.mem_cons.1 hy with rfl | hy; exact hok; exact h2 y hy⟩

/-- What a law that returns true leaves behind. -/
theorem law_run {P : Program} {f : FuncId} {fn : Func} (hf : P.funcs[f]? = some fn) (hb : fn.body.isNone = false) (hnm : (fn.name == "runtime.NumGoroutine") = false) {args : List SV} {H : SH} {vals : Array Value} (h : FnOb P f args H fun r _ => r = .bool true) {w : World} (hw : HSat w H) (hn : ∀ k, ¬ Wr H k) (hv : vals = (denL args).toArray) :
    Calls P f vals w fun e w' => e = .returned (.bool true) ∧ Below w.heap.size w w' := by
  subst hv
  rcases h.run w hw with ⟨v, w', hr, _⟩ | ⟨_, h⟩
  · exfalso
    have : (callFunc f (denL args).toArray).run P w = .ok (.enter f (denL args).toArray) w := by
      unfold callFunc
      refine (bind_run' (a := P) (w' := w) rfl).trans ?_
      simp only [hf, hnm, hb, Bool.false_eq_true, if_false]
      rfl
    rw [this] at hr; cases hr
  · refine h.mono fun e w' ⟨v, he, r, H', hv, _, hx, hr⟩ => ?_
    subst hr
    exact ⟨by rw [he, hv]; rfl, hx.below hn⟩
end Go.Sy

/- SY, part V: maps with plain keys: looked up, written, shrunk, told how long. Own work. -/
import Derived.Test.YthimgonpkhoodaaSyU
import Derived.MapKept
namespace Go.Sy
open Go Go.MapKept
set_option linter.unusedVariables false
set_option linter.unusedSimpArgs false

/-- The first place of a key. -/
def idxM {κ ν : Type} [DecidableEq κ] : List (κ × ν) → κ → Option Nat
  | [], _ => none
  | p :: L, k => if p.1 = k then some 0 else (idxM L k).map (· + 1)
def getM {κ ν : Type} [DecidableEq κ] : List (κ × ν) → κ → Option ν
  | [], _ => none
  | p :: L, k => if p.1 = k then some p.2 else getM L k
def putM {κ ν : Type} [DecidableEq κ] : List (κ × ν) → κ → ν → List (κ × ν)
  | [], k, v => [(k, v)]
  | p :: L, k, v => if p.1 = k then (k, v) :: L else p :: putM L k v
def delM {κ ν : Type} [DecidableEq κ] : List (κ × ν) → κ → List (κ × ν)
  | [], _ => []
  | p :: L, k => if p.1 = k then L else p :: delM L k
theorem idxM_none {κ ν : Type} [DecidableEq κ] {k : κ} : ∀ {L : List (κ × ν)}, idxM L k = none → getM L k = none ∧ (∀ v, putM L k v = L ++ [(k, v)]) ∧ delM L k = L
  | [], _ => ⟨rfl, fun _ => rfl, rfl⟩
  | p :: L, h => by
    unfold idxM at h
    by_cases e : p.1 = k
    · rw [if_pos e] at h; cases h
    · rw [if_neg e, Option.map_eq_none_iff] at h
      obtain ⟨h1, h2, h3⟩ := idxM_none h
      simp [getM, putM, delM, e, h1, h2, h3]
theorem idxM_some {κ ν : Type} [DecidableEq κ] {k : κ} : ∀ {L : List (κ × ν)} {j : Nat}, idxM L k = some j → ∃ v, L[j]? = some (k, v) ∧ getM L k = some v ∧ (∀ v', putM L k v' = L.set j (k, v')) ∧ delM L k = L.eraseIdx j
  | [], _, h => by cases h
  | p :: L, j, h => by
    unfold idxM at h
    by_cases e : p.1 = k
    · rw [if_pos e] at h
      cases h
      obtain ⟨a, b⟩ := p
      dsimp only at e
      subst e
      exact ⟨b, rfl, by simp [getM], fun v' => by simp [putM], by simp [delM]⟩
    · rw [if_neg e] at h
      obtain ⟨j', hj, rfl⟩ := Option.map_eq_some_iff.1 h
      obtain ⟨v, h1, h2, h3, h4⟩ := idxM_some hj
      exact ⟨v, by simpa using h1, by simp [getM, e, h2], fun v' => by simp [putM, e, h3], by simp [delM, e, h4]⟩

/-- Keys and values as they lie in a map. -/
def kv (e : MapEntry) : Value × Value := (e.key, e.val)
structure KeyOk {κ : Type} (d : TypeDesc) (ek : κ → SV) : Prop where
  key : ∀ a, IsKey d (ek a).den
  inj : ∀ a b, (ek a).den = (ek b).den → a = b
def pairV {κ ν : Type} (ek : κ → SV) (ev : ν → SV) (p : κ × ν) : Value × Value := ((ek p.1).den, (ev p.2).den)
def mapQ {κ ν : Type} (ek : κ → SV) (ev : ν → SV) (L : List (κ × ν)) (o : Obj) : Prop := ∃ es clock, o = .map es clock ∧ es.toList.map kv = L.map (pairV ek ev)
abbrev mapB {κ ν : Type} (ek : κ → SV) (ev : ν → SV) (L : List (κ × ν)) : Blk := .obj (mapQ ek ev L)

theorem findNow_L {κ ν : Type} [DecidableEq κ] {d : TypeDesc} {ek : κ → SV} {ev : ν → SV} (ho : KeyOk d ek) (k : κ) : ∀ (l : List MapEntry) (L : List (κ × ν)) (i : Nat), l.map kv = L.map (pairV ek ev) →
    (Instr.findNow d (ek k).den l i = some none ∧ idxM L k = none) ∨ ∃ j e v, Instr.findNow d (ek k).den l i = some (some (i + j, (ev v).den)) ∧ l[j]? = some e ∧ e.key = (ek k).den ∧ idxM L k = some j ∧ L[j]? = some (k, v)
  | [], [], i, _ => .inl ⟨rfl, rfl⟩
  | [], _ :: _, i, h => by cases h
  | _ :: _, [], i, h => by cases h
  | e :: es, p :: L, i, h => by
    obtain ⟨h1, h2⟩ := List.cons.inj h
    have hkey : e.key = (ek p.1).den := congrArg Prod.fst h1
    have hval : e.val = (ev p.2).den := congrArg Prod.snd h1
    obtain ⟨r, hr, hiff⟩ := sameNow_of_keys (ho.key k) (show IsKey d e.key by rw [hkey]; exact ho.key p.1)
    cases r with
    | true =>
      have hk : p.1 = k := (ho.inj _ _ ((hiff.1 rfl).trans hkey)).symm
      obtain ⟨a, b⟩ := p
      dsimp only at hk
      subst hk
      exact .inr ⟨0, e, b, by simp [Instr.findNow, hr, hval], rfl, hkey, by simp [idxM], rfl⟩
    | false =>
      have hne : ¬ p.1 = k := fun q => by
        have := hiff.2 (by rw [hkey, q])
        cases this
      rcases findNow_L ho k es L (i + 1) h2 with ⟨h3, h4⟩ | ⟨j, e', v, h3, h4, h5, h6, h7⟩
      · exact .inl ⟨by simp [Instr.findNow, hr, h3], by simp [idxM, hne, h4]⟩
      · exact .inr ⟨j + 1, e', v, by simp [Instr.findNow, hr, h3]; omega, by simpa using h4, h5, by simp [idxM, hne, h6], by simpa using h7⟩

theorem HSat.mapAt {w : World} {H : SH} (h : HSat w H) {i : Nat} {b : Bs} {κ ν : Type} {ek : κ → SV} {ev : ν → SV} {L : List (κ × ν)} (hi : H[i]? = some (b, mapB ek ev L)) :
    b.o = 0 ∧ ∃ es clock, w.heap[b.n]? = some (.map es clock) ∧ es.toList.map kv = L.map (pairV ek ev) := by
  obtain ⟨_, h0, o, ho, es, clock, rfl, he⟩ := h.blk hi rfl
  exact ⟨h0, es, clock, ho, he⟩
theorem blk_map {w : World} {b : Bs} {κ ν : Type} {ek : κ → SV} {ev : ν → SV} {L : List (κ × ν)} {es : Array MapEntry} {clock : Nat} (h0 : b.o = 0) (hb : w.heap[b.n]? = some (.map es clock)) (he : es.toList.map kv = L.map (pairV ek ev)) : EntryAt w (b, mapB ek ev L) :=
  (entry_atom rfl).2 ⟨trivial, h0, _, hb, es, clock, rfl, he⟩

/-- A map turned in its place. -/
theorem HSat.putMap {w : World} {H : SH} (h : HSat w H) {i : Nat} {b : Bs} {κ ν : Type} {ek : κ → SV} {ev : ν → SV} {L L' : List (κ × ν)} {es es' : Array MapEntry} {clock clock' : Nat} (hi : H[i]? = some (b, mapB ek ev L)) (hb : w.heap[b.n]? = some (.map es clock))
    (he : es'.toList.map kv = L'.map (pairV ek ev)) : HSat { w with heap := w.heap.setIfInBounds b.n (.map es' clock') } (H.set i (b, mapB ek ev L')) ∧ Ext w H { w with heap := w.heap.setIfInBounds b.n (.map es' clock') } (H.set i (b, mapB ek ev L')) := by
  have h0 := (h.mapAt hi).1
  have hs := heap_set (o' := .map es' clock') hb
  have hsame : ∀ k, k < w.heap.size → ¬ Own (b, mapB ek ev L) k → ({ w with heap := w.heap.setIfInBounds b.n (.map es' clock') } : World).heap[k]? = w.heap[k]? := fun k _ hn => hs.2 k fun e => hn ((own_atom rfl).2 ⟨trivial, e.symm⟩)
  refine ⟨h.upd hi (blk_map h0 hs.1 he) rfl (by simp) hsame fun k hk => .inl ?_, Ext.upd hi rfl rfl rfl (by simp) hsame fun k hk => .inl hk⟩
  rw [solid_atom rfl] at hk
  exact (own_atom rfl).2 ⟨trivial, hk.2⟩

/-- v, ok := m[k]. -/
theorem lookup_ob {P : Program} {o : Oper} {e : Operand → SV} {H : SH} {K : SV → SH → Prop} {κ ν : Type} [DecidableEq κ] {ek : κ → SV} {ev : ν → SV} {L : List (κ × ν)} {t kt et : TypeId} {m x : Operand} {d : TypeDesc} {z : SV} {i : Nat} {b : Bs} {k : κ} (ho : o.op = .lookup t m x true)
    (hu : P.underlying t = some (.map kt et)) (hd : P.underlying kt = some d) (hz : zrOf P et = some z) (hk : KeyOk d ek) (hm : e m = .mp i b) (hx : e x = ek k) (hi : H[i]? = some (b, mapB ek ev L))
    (h1 : ∀ v, getM L k = some v → K (.tup [ev v, .bool true]) H) (h2 : getM L k = none → K (.tup [z, .bool false]) H) : OpOb P o e H K := by
  refine ⟨fun w hw => ?_⟩
  obtain ⟨_, es, clock, hb, he⟩ := hw.mapAt hi
  rcases findNow_L hk k es.toList L 0 he with ⟨hf, hn⟩ | ⟨j, en, v, hf, hj, hkey, hn, hL⟩
  · refine ⟨_, H, w, .inl ?_, hw, Ext.refl _ _, h2 (idxM_none hn).1⟩
    have hr : (Instr.lookup t (e m).den (e x).den true).run P w = .ok (.tuple #[z.den, .bool false]) w := by
      rw [hm, hx]
      simp [Instr.lookup, SV.den, run_underlying hu, MapKept.run_getObj_map hb, run_checkKey hd (hk.key k), run_findKey hd hf, run_zero hz, Result.andThen]
    simp only [execOp, ho]
    refine (bind_run' hr).trans ?_
    simp [SV.den, denL, Sem.run, pure]
  · obtain ⟨v', hL', hg, _⟩ := idxM_some hn
    rw [hL] at hL'
    cases hL'
    refine ⟨_, H, w, .inl ?_, hw, Ext.refl _ _, h1 _ hg⟩
    have hr : (Instr.lookup t (e m).den (e x).den true).run P w = .ok (.tuple #[(ev v).den, .bool true]) w := by
      rw [hm, hx]
      simp [Instr.lookup, SV.den, run_underlying hu, MapKept.run_getObj_map hb, run_checkKey hd (hk.key k), run_findKey hd hf, Result.andThen]
    simp only [execOp, ho]
    refine (bind_run' hr).trans ?_
    simp [SV.den, denL, Sem.run, pure]

/-- m[k] = v. -/
theorem mapUpdate_ob {P : Program} {o : Oper} {e : Operand → SV} {H : SH} {K : SV → SH → Prop} {κ ν : Type} [DecidableEq κ] {ek : κ → SV} {ev : ν → SV} {L : List (κ × ν)} {t kt et : TypeId} {m x y : Operand} {d : TypeDesc} {i : Nat} {b : Bs} {k : κ} (v : ν) (ho : o.op = .mapUpdate t m x y)
    (hu : P.underlying t = some (.map kt et)) (hd : P.underlying kt = some d) (hk : KeyOk d ek) (hm : e m = .mp i b) (hx : e x = ek k) (hy : (e y).den = (ev v).den) (hi : H[i]? = some (b, mapB ek ev L))
    (h : K (.raw undef) (H.set i (b, mapB ek ev (putM L k v)))) : OpOb P o e H K := by
  refine ⟨fun w hw => ?_⟩
  obtain ⟨_, es, clock, hb, he⟩ := hw.mapAt hi
  rcases findNow_L hk k es.toList L 0 he with ⟨hf, hn⟩ | ⟨j, en, v', hf, hj, hkey, hn, hL⟩
  · have hput := (idxM_none hn).2.1 v
    have he2 : (es.push { key := (ek k).den, val := (ev v).den, born := clock }).toList.map kv = (putM L k v).map (pairV ek ev) := by
      rw [hput, Array.toList_push, List.map_append, List.map_append, he]; rfl
    obtain ⟨h1, h2⟩ := hw.putMap hi hb (clock' := clock + 1) he2
    refine ⟨_, _, _, .inr ⟨?_, rfl⟩, h1, h2, h⟩
    have hr : (Instr.mapUpdate t (e m).den (e x).den (e y).den).run P w = .ok () { w with heap := w.heap.setIfInBounds b.n (.map (es.push { key := (ek k).den, val := (ev v).den, born := clock }) (clock + 1)) } := by
      rw [hm, hx, hy]
      simp [Instr.mapUpdate, SV.den, run_underlying hu, MapKept.run_getObj_map hb, run_checkKey hd (hk.key k), run_findKey hd hf, MapKept.run_setObj_map _ hb, Result.andThen]
    simp only [execOp, ho]
    refine (bind_run' hr).trans ?_
    simp [Sem.run, pure]
  · obtain ⟨v2, hL2, hg, hput, _⟩ := idxM_some hn
    have hj' : es[j]? = some en := by simpa using hj
    have he2 : (es.modify j fun x => { x with key := (ek k).den, val := (ev v).den }).toList.map kv = (putM L k v).map (pairV ek ev) := by
      rw [hput v, Array.toList_modify, List.map_set, ← he]
      apply List.ext_getElem?
      intro q
      rw [List.getElem?_map, List.getElem?_modify, List.getElem?_set, List.getElem?_map, List.length_map]
      by_cases e : j = q
      · subst e
        have hlt : j < es.toList.length := (List.getElem?_eq_some_iff.1 hj).1
        rw [if_pos rfl, hj, if_pos hlt]; simp [kv, pairV]
      · rw [if_neg e]
        cases es.toList[q]? <;> simp [e]
    obtain ⟨h1, h2⟩ := hw.putMap hi hb (clock' := clock) he2
    refine ⟨_, _, _, .inr ⟨?_, rfl⟩, h1, h2, h⟩
    have hr : (Instr.mapUpdate t (e m).den (e x).den (e y).den).run P w = .ok () { w with heap := w.heap.setIfInBounds b.n (.map (es.modify j fun x => { x with key := (ek k).den, val := (ev v).den }) clock) } := by
      rw [hm, hx, hy]
      simp [Instr.mapUpdate, SV.den, run_underlying hu, MapKept.run_getObj_map hb, run_checkKey hd (hk.key k), run_findKey hd hf, hj', hkey, run_keyThatStays (hk.key k), MapKept.run_setObj_map _ hb, Result.andThen]
    simp only [execOp, ho]
    refine (bind_run' hr).trans ?_
    simp [Sem.run, pure]

/-- make(map[..]..), and the empty map written out. -/
theorem makeMap_ob {P : Program} {o : Oper} {e : Operand → SV} {H : SH} {K : SV → SH → Prop} {κ ν : Type} (ek : κ → SV) (ev : ν → SV) {t : TypeId} (ho : o.op = .makeMap t none)
    (h : ∀ b : Nat, K (.mp H.length ⟨b, 0⟩) (H ++ [(⟨b, 0⟩, mapB ek ev [])])) : OpOb P o e H K := by
  refine ⟨fun w hw => ?_⟩
  have hp := hw.push (mapB ek ev ([] : List (κ × ν))) rfl rfl (.map #[] 0) ⟨trivial, rfl, .map #[] 0, by simp, #[], 0, rfl, rfl⟩
  refine ⟨_, _, _, .inl ?_, hp.1, hp.2, h w.heap.size⟩
  have hr : (Instr.makeMap t none).run P w = .ok (.map (some w.heap.size)) { w with heap := w.heap.push (.map #[] 0) } := by
    simp [Instr.makeMap, newObj, Sem.run, pure, bind, Sem.bind]
  simp only [execOp, ho, Option.map_none]
  refine (bind_run' hr).trans ?_
  simp [SV.den, Sem.run, pure]

theorem map_erase {α β : Type _} (f : α → β) : ∀ (l : List α) (j : Nat), (l.eraseIdx j).map f = (l.map f).eraseIdx j
  | [], _ => by simp
  | _ :: _, 0 => rfl
  | x :: l, j + 1 => by simp [map_erase f l j]
/-- delete(m, k). -/
theorem delete_ob {P : Program} {o : Oper} {e : Operand → SV} {H : SH} {K : SV → SH → Prop} {κ ν : Type} [DecidableEq κ] {ek : κ → SV} {ev : ν → SV} {L : List (κ × ν)} {t kt et : TypeId} {ats : Array TypeId} {m x : Operand} {d : TypeDesc} {i : Nat} {b : Bs} {k : κ} (ho : o.op = .call ⟨.builtin .delete, #[m, x], ats⟩)
    (ht : ats[0]? = some t) (hu : P.underlying t = some (.map kt et)) (hd : P.underlying kt = some d) (hk : KeyOk d ek) (hm : e m = .mp i b) (hx : e x = ek k) (hi : H[i]? = some (b, mapB ek ev L))
    (h : K (.tup []) (H.set i (b, mapB ek ev (delM L k)))) : OpOb P o e H K := by
  refine ⟨fun w hw => ?_⟩
  obtain ⟨_, es, clock, hb, he⟩ := hw.mapAt hi
  have hex : ∀ w' : World, (Builtin.delete_ ats o.type #[(e m).den, (e x).den]).run P w = .ok (.tuple #[]) w' → (execOp (fun x => (e x).den) o).run P w = .ok (.value (SV.tup []).den) w' := by
    intro w' hr
    have h1 : execOp (fun x => (e x).den) o = (do pure (.value (← Builtin.delete_ ats o.type #[(e m).den, (e x).den])) : Sem Next) := by
      have hargs : (#[m, x] : Array Operand).map (fun x => (e x).den) = #[(e m).den, (e x).den] := by simp
      rw [← hargs]
      simp only [execOp, ho]
      rfl
    rw [h1]
    exact (bind_run' hr).trans rfl
  rcases findNow_L hk k es.toList L 0 he with ⟨hf, hn⟩ | ⟨j, en, v', hf, hj, hkey, hn, hL⟩
  · have hdel := (idxM_none hn).2.2
    obtain ⟨h1, h2⟩ := hw.putMap hi hb (clock' := clock) (L' := delM L k) (es' := es) (by rw [hdel]; exact he)
    refine ⟨_, _, _, .inl (hex _ ?_), h1, h2, h⟩
    rw [hm, hx]
    simp [Builtin.delete_, SV.den, ht, run_underlying hu, MapKept.run_getObj_map hb, run_checkKey hd (hk.key k), run_findKey hd hf, MapKept.run_setObj_map _ hb, Result.andThen]
  · obtain ⟨v2, hL2, hg, _, hdel⟩ := idxM_some hn
    have hlt : j < es.size := by simpa using (List.getElem?_eq_some_iff.1 hj).1
    obtain ⟨h1, h2⟩ := hw.putMap hi hb (clock' := clock) (L' := delM L k) (es' := es.eraseIdxIfInBounds j) (by
      rw [hdel, Array.toList_eraseIdxIfInBounds, map_erase, map_erase, he])
    refine ⟨_, _, _, .inl (hex _ ?_), h1, h2, h⟩
    rw [hm, hx]
    simp [Builtin.delete_, SV.den, ht, run_underlying hu, MapKept.run_getObj_map hb, run_checkKey hd (hk.key k), run_findKey hd hf, MapKept.run_setObj_map _ hb, Result.andThen]

/-- len(m). -/
theorem mapLen_ob {P : Program} {o : Oper} {e : Operand → SV} {H : SH} {K : SV → SH → Prop} {κ ν : Type} {ek : κ → SV} {ev : ν → SV} {L : List (κ × ν)} {t kt et : TypeId} {ats : Array TypeId} {m : Operand} {i : Nat} {b : Bs} (ho : o.op = .call ⟨.builtin .len, #[m], ats⟩)
    (ht : ats[0]? = some t) (hu : P.underlying t = some (.map kt et)) (hm : e m = .mp i b) (hi : H[i]? = some (b, mapB ek ev L)) (h : K (.int .i64 L.length) H) : OpOb P o e H K := by
  refine ⟨fun w hw => ?_⟩
  obtain ⟨_, es, clock, hb, he⟩ := hw.mapAt hi
  have hl : es.size = L.length := by
    have := congrArg List.length he
    simpa using this
  refine ⟨_, H, w, .inl ?_, hw, Ext.refl _ _, h⟩
  have hr : (Builtin.len_ ats o.type #[(e m).den]).run P w = .ok (.int .i64 L.length) w := by
    rw [hm]
    simp [Builtin.len_, SV.den, ht, run_underlying hu, MapKept.run_getObj_map hb, Result.andThen, goInt, hl]
  have h1 : execOp (fun x => (e x).den) o = (do pure (.value (← Builtin.len_ ats o.type #[(e m).den])) : Sem Next) := by
    have hargs : (#[m] : Array Operand).map (fun x => (e x).den) = #[(e m).den] := by simp
    rw [← hargs]
    simp only [execOp, ho]
    rfl
  rw [h1]
  exact (bind_run' hr).trans rfl
end Go.Sy

/- SY, part Y: maps whose keys are structs or arrays of plain cells. Own work. -/
import Derived.Test.YthimgonpkhoodaaSyX
namespace Go.Sy
open Go Go.MapKept
set_option linter.unusedVariables false
set_option linter.unusedSimpArgs false
/-- What a key type's values must do. -/
structure KeyA (P : Program) (kt : TypeId) {κ : Type} (ek : κ → SV) : Prop where
  chk : ∀ a (e : Bool) (w : World), (Instr.checkKey e 10000 kt (ek a).den).run P w = .ok () w
  eql : ∀ a b (w : World), ∃ r : Bool, (Op.equal kt (ek a).den (ek b).den).run P w = .ok r w ∧ (r = true ↔ a = b)
  und : ∃ d, P.underlying kt = some d ∧ ∀ a b, Instr.sameNow d (ek a).den (ek b).den = none
  stay : ∀ a, Instr.sameBits 10000 (ek a).den (ek a).den = true
theorem stays_A {P : Program} {kt : TypeId} {κ : Type} {ek : κ → SV} (ho : KeyA P kt ek) (k : κ) {w : World} : (Instr.keyThatStays (ek k).den (ek k).den).run P w = .ok (ek k).den w := by
  simp [Instr.keyThatStays, ho.stay k]
theorem findAsking_A {P : Program} {kt : TypeId} {κ ν : Type} [DecidableEq κ] {ek : κ → SV} {ev : ν → SV} (ho : KeyA P kt ek) (k : κ) (w : World) : ∀ (l : List MapEntry) (L : List (κ × ν)) (i : Nat), l.map kv = L.map (pairV ek ev) →
    ((Instr.findAsking kt (ek k).den l i).run P w = .ok none w ∧ idxM L k = none) ∨ ∃ j e v, (Instr.findAsking kt (ek k).den l i).run P w = .ok (some (i + j, (ev v).den)) w ∧ l[j]? = some e ∧ e.key = (ek k).den ∧ idxM L k = some j ∧ L[j]? = some (k, v)
  | [], [], i, _ => .inl ⟨rfl, rfl⟩
  | [], _ :: _, i, h => by cases h
  | _ :: _, [], i, h => by cases h
  | e :: es, p :: L, i, h => by
    obtain ⟨h1, h2⟩ := List.cons.inj h
    have hkey : e.key = (ek p.1).den := congrArg Prod.fst h1
    have hval : e.val = (ev p.2).den := congrArg Prod.snd h1
    obtain ⟨r, hr, hiff⟩ := ho.eql k p.1 w
    rw [← hkey] at hr
    cases r with
    | true =>
      have hk : k = p.1 := hiff.1 rfl
      obtain ⟨a, b⟩ := p
      dsimp only at hk
      subst hk
      exact .inr ⟨0, e, b, by simp [Instr.findAsking, hr, hval, Result.andThen], rfl, hkey, by simp [idxM], rfl⟩
    | false =>
      have hne : ¬ p.1 = k := fun q => by
        have := hiff.2 q.symm
        cases this
      rcases findAsking_A ho k w es L (i + 1) h2 with ⟨h3, h4⟩ | ⟨j, e', v, h3, h4, h5, h6, h7⟩
      · exact .inl ⟨by simp [Instr.findAsking, hr, h3, Result.andThen], by simp [idxM, hne, h4]⟩
      · exact .inr ⟨j + 1, e', v, by simp [Instr.findAsking, hr, h3, Result.andThen]; omega, by simpa using h4, h5, by simp [idxM, hne, h6], by simpa using h7⟩
theorem findKey_A {P : Program} {kt : TypeId} {κ ν : Type} [DecidableEq κ] {ek : κ → SV} {ev : ν → SV} (ho : KeyA P kt ek) (k : κ) (l : List MapEntry) (L : List (κ × ν)) (w : World) (h : l.map kv = L.map (pairV ek ev)) :
    ((Instr.findKey kt (ek k).den l).run P w = .ok none w ∧ idxM L k = none) ∨ ∃ j e v, (Instr.findKey kt (ek k).den l).run P w = .ok (some (0 + j, (ev v).den)) w ∧ l[j]? = some e ∧ e.key = (ek k).den ∧ idxM L k = some j ∧ L[j]? = some (k, v) := by
  obtain ⟨d, hd, hnow⟩ := ho.und
  have hfk : ∀ r, (Instr.findAsking kt (ek k).den l 0).run P w = .ok r w → (l = [] → r = none) → (Instr.findKey kt (ek k).den l).run P w = .ok r w := by
    intro r hr hnil
    cases l with
    | nil => rw [hnil rfl]; simp [Instr.findKey, run_underlying hd, Result.andThen, Instr.findNow]
    | cons e es =>
      cases L with
      | nil => cases h
      | cons p L =>
        have hkey : e.key = (ek p.1).den := congrArg Prod.fst (List.cons.inj h).1
        have : Instr.findNow d (ek k).den (e :: es) 0 = none := by simp [Instr.findNow, hkey, hnow]
        simp [Instr.findKey, run_underlying hd, Result.andThen, this, hr]
  rcases findAsking_A ho k w l L 0 h with ⟨h1, h2⟩ | ⟨j, e, v, h1, h2, h3, h4, h5⟩
  · exact .inl ⟨hfk _ h1 fun _ => rfl, h2⟩
  · exact .inr ⟨j, e, v, hfk _ h1 (fun hl => by rw [hl] at h2; simp at h2), h2, h3, h4, h5⟩

theorem lookup_obA {P : Program} {o : Oper} {e : Operand → SV} {H : SH} {K : SV → SH → Prop} {κ ν : Type} [DecidableEq κ] {ek : κ → SV} {ev : ν → SV} {L : List (κ × ν)} {t kt et : TypeId} {m x : Operand} {z : SV} {i : Nat} {b : Bs} {k : κ} (ho : o.op = .lookup t m x true)
    (hu : P.underlying t = some (.map kt et)) (hz : zrOf P et = some z) (hk : KeyA P kt ek) (hm : e m = .mp i b) (hx : e x = ek k) (hi : H[i]? = some (b, mapB ek ev L))
    (h1 : ∀ v, getM L k = some v → K (.tup [ev v, .bool true]) H) (h2 : getM L k = none → K (.tup [z, .bool false]) H) : OpOb P o e H K := by
  refine ⟨fun w hw => ?_⟩
  obtain ⟨_, es, clock, hb, he⟩ := hw.mapAt hi
  rcases findKey_A hk k es.toList L w he with ⟨hf, hn⟩ | ⟨j, en, v, hf, hj, hkey, hn, hL⟩
  · refine ⟨_, H, w, .inl ?_, hw, Ext.refl _ _, h2 (idxM_none hn).1⟩
    have hr : (Instr.lookup t (e m).den (e x).den true).run P w = .ok (.tuple #[z.den, .bool false]) w := by
      rw [hm, hx]
      simp [Instr.lookup, SV.den, run_underlying hu, MapKept.run_getObj_map hb, hk.chk k, hf, run_zero hz, Result.andThen]
    simp only [execOp, ho]
    refine (bind_run' hr).trans ?_
    simp [SV.den, denL, Sem.run, pure]
  · obtain ⟨v', hL', hg, _⟩ := idxM_some hn
    rw [hL] at hL'
    cases hL'
    refine ⟨_, H, w, .inl ?_, hw, Ext.refl _ _, h1 _ hg⟩
    have hr : (Instr.lookup t (e m).den (e x).den true).run P w = .ok (.tuple #[(ev v).den, .bool true]) w := by
      rw [hm, hx]
      simp [Instr.lookup, SV.den, run_underlying hu, MapKept.run_getObj_map hb, hk.chk k, hf, Result.andThen]
    simp only [execOp, ho]
    refine (bind_run' hr).trans ?_
    simp [SV.den, denL, Sem.run, pure]


theorem mapUpdate_obA {P : Program} {o : Oper} {e : Operand → SV} {H : SH} {K : SV → SH → Prop} {κ ν : Type} [DecidableEq κ] {ek : κ → SV} {ev : ν → SV} {L : List (κ × ν)} {t kt et : TypeId} {m x y : Operand} {i : Nat} {b : Bs} {k : κ} (v : ν) (ho : o.op = .mapUpdate t m x y)
    (hu : P.underlying t = some (.map kt et)) (hk : KeyA P kt ek) (hm : e m = .mp i b) (hx : e x = ek k) (hy : (e y).den = (ev v).den) (hi : H[i]? = some (b, mapB ek ev L))
    (h : K (.raw undef) (H.set i (b, mapB ek ev (putM L k v)))) : OpOb P o e H K := by
  refine ⟨fun w hw => ?_⟩
  obtain ⟨_, es, clock, hb, he⟩ := hw.mapAt hi
  rcases findKey_A hk k es.toList L w he with ⟨hf, hn⟩ | ⟨j, en, v', hf, hj, hkey, hn, hL⟩
  · have hput := (idxM_none hn).2.1 v
    have he2 : (es.push { key := (ek k).den, val := (ev v).den, born := clock }).toList.map kv = (putM L k v).map (pairV ek ev) := by
      rw [hput, Array.toList_push, List.map_append, List.map_append, he]; rfl
    obtain ⟨h1, h2⟩ := hw.putMap hi hb (clock' := clock + 1) he2
    refine ⟨_, _, _, .inr ⟨?_, rfl⟩, h1, h2, h⟩
    have hr : (Instr.mapUpdate t (e m).den (e x).den (e y).den).run P w = .ok () { w with heap := w.heap.setIfInBounds b.n (.map (es.push { key := (ek k).den, val := (ev v).den, born := clock }) (clock + 1)) } := by
      rw [hm, hx, hy]
      simp [Instr.mapUpdate, SV.den, run_underlying hu, MapKept.run_getObj_map hb, hk.chk k, hf, MapKept.run_setObj_map _ hb, Result.andThen]
    simp only [execOp, ho]
    refine (bind_run' hr).trans ?_
    simp [Sem.run, pure]
  · obtain ⟨v2, hL2, hg, hput, _⟩ := idxM_some hn
    have hj' : es[j]? = some en := by simpa using hj
    have he2 : (es.modify j fun x => { x with key := (ek k).den, val := (ev v).den }).toList.map kv = (putM L k v).map (pairV ek ev) := by
      rw [hput v, Array.toList_modify, List.map_set, ← he]
      apply List.ext_getElem?
      intro q
      rw [List.getElem?_map, List.getElem?_modify, List.getElem?_set, List.getElem?_map, List.length_map]
      by_cases e : j = q
      · subst e
        have hlt : j < es.toList.length := (List.getElem?_eq_some_iff.1 hj).1
        rw [if_pos rfl, hj, if_pos hlt]; simp [kv, pairV]
      · rw [if_neg e]
        cases es.toList[q]? <;> simp [e]
    obtain ⟨h1, h2⟩ := hw.putMap hi hb (clock' := clock) he2
    refine ⟨_, _, _, .inr ⟨?_, rfl⟩, h1, h2, h⟩
    have hr : (Instr.mapUpdate t (e m).den (e x).den (e y).den).run P w = .ok () { w with heap := w.heap.setIfInBounds b.n (.map (es.modify j fun x => { x with key := (ek k).den, val := (ev v).den }) clock) } := by
      rw [hm, hx, hy]
      simp [Instr.mapUpdate, SV.den, run_underlying hu, MapKept.run_getObj_map hb, hk.chk k, hf, hj', hkey, stays_A hk k, MapKept.run_setObj_map _ hb, Result.andThen]
    simp only [execOp, ho]
    refine (bind_run' hr).trans ?_
    simp [Sem.run, pure]


theorem delete_obA {P : Program} {o : Oper} {e : Operand → SV} {H : SH} {K : SV → SH → Prop} {κ ν : Type} [DecidableEq κ] {ek : κ → SV} {ev : ν → SV} {L : List (κ × ν)} {t kt et : TypeId} {ats : Array TypeId} {m x : Operand} {i : Nat} {b : Bs} {k : κ} (ho : o.op = .call ⟨.builtin .delete, #[m, x], ats⟩)
    (ht : ats[0]? = some t) (hu : P.underlying t = some (.map kt et)) (hk : KeyA P kt ek) (hm : e m = .mp i b) (hx : e x = ek k) (hi : H[i]? = some (b, mapB ek ev L))
    (h : K (.tup []) (H.set i (b, mapB ek ev (delM L k)))) : OpOb P o e H K := by
  refine ⟨fun w hw => ?_⟩
  obtain ⟨_, es, clock, hb, he⟩ := hw.mapAt hi
  have hex : ∀ w' : World, (Builtin.delete_ ats o.type #[(e m).den, (e x).den]).run P w = .ok (.tuple #[]) w' → (execOp (fun x => (e x).den) o).run P w = .ok (.value (SV.tup []).den) w' := by
    intro w' hr
    have h1 : execOp (fun x => (e x).den) o = (do pure (.value (← Builtin.delete_ ats o.type #[(e m).den, (e x).den])) : Sem Next) := by
      have hargs : (#[m, x] : Array Operand).map (fun x => (e x).den) = #[(e m).den, (e x).den] := by simp
      rw [← hargs]
      simp only [execOp, ho]
      rfl
    rw [h1]
    exact (bind_run' hr).trans rfl
  rcases findKey_A hk k es.toList L w he with ⟨hf, hn⟩ | ⟨j, en, v', hf, hj, hkey, hn, hL⟩
  · have hdel := (idxM_none hn).2.2
    obtain ⟨h1, h2⟩ := hw.putMap hi hb (clock' := clock) (L' := delM L k) (es' := es) (by rw [hdel]; exact he)
    refine ⟨_, _, _, .inl (hex _ ?_), h1, h2, h⟩
    rw [hm, hx]
    simp [Builtin.delete_, SV.den, ht, run_underlying hu, MapKept.run_getObj_map hb, hk.chk k, hf, MapKept.run_setObj_map _ hb, Result.andThen]
  · obtain ⟨v2, hL2, hg, _, hdel⟩ := idxM_some hn
    have hlt : j < es.size := by simpa using (List.getElem?_eq_some_iff.1 hj).1
    obtain ⟨h1, h2⟩ := hw.putMap hi hb (clock' := clock) (L' := delM L k) (es' := es.eraseIdxIfInBounds j) (by
      rw [hdel, Array.toList_eraseIdxIfInBounds, map_erase, map_erase, he])
    refine ⟨_, _, _, .inl (hex _ ?_), h1, h2, h⟩
    rw [hm, hx]
    simp [Builtin.delete_, SV.den, ht, run_underlying hu, MapKept.run_getObj_map hb, hk.chk k, hf, MapKept.run_setObj_map _ hb, Result.andThen]


theorem lookup1_obA {P : Program} {o : Oper} {e : Operand → SV} {H : SH} {K : SV → SH → Prop} {κ ν : Type} [DecidableEq κ] {ek : κ → SV} {ev : ν → SV} {L : List (κ × ν)} {t kt et : TypeId} {m x : Operand} {z : SV} {i : Nat} {b : Bs} {k : κ} (ho : o.op = .lookup t m x false)
    (hu : P.underlying t = some (.map kt et)) (hz : zrOf P et = some z) (hk : KeyA P kt ek) (hm : e m = .mp i b) (hx : e x = ek k) (hi : H[i]? = some (b, mapB ek ev L))
    (h1 : ∀ v, getM L k = some v → K (ev v) H) (h2 : getM L k = none → K z H) : OpOb P o e H K := by
  refine ⟨fun w hw => ?_⟩
  obtain ⟨_, es, clock, hb, he⟩ := hw.mapAt hi
  rcases findKey_A hk k es.toList L w he with ⟨hf, hn⟩ | ⟨j, en, v, hf, hj, hkey, hn, hL⟩
  · refine ⟨_, H, w, .inl ?_, hw, Ext.refl _ _, h2 (idxM_none hn).1⟩
    have hr : (Instr.lookup t (e m).den (e x).den false).run P w = .ok z.den w := by
      rw [hm, hx]
      simp [Instr.lookup, SV.den, run_underlying hu, MapKept.run_getObj_map hb, hk.chk k, hf, run_zero hz, Result.andThen]
    simp only [execOp, ho]
    refine (bind_run' hr).trans ?_
    simp [Sem.run, pure]
  · obtain ⟨v', hL', hg, _⟩ := idxM_some hn
    rw [hL] at hL'
    cases hL'
    refine ⟨_, H, w, .inl ?_, hw, Ext.refl _ _, h1 _ hg⟩
    have hr : (Instr.lookup t (e m).den (e x).den false).run P w = .ok (ev v).den w := by
      rw [hm, hx]
      simp [Instr.lookup, SV.den, run_underlying hu, MapKept.run_getObj_map hb, hk.chk k, hf, Result.andThen]
    simp only [execOp, ho]
    refine (bind_run' hr).trans ?_
    simp [Sem.run, pure]

theorem run_forIn_unit {P : Program} {w : World} {α : Type} (f : α → PUnit → Sem (ForInStep PUnit)) : ∀ l : List α, (∀ x ∈ l, (f x ⟨⟩).run P w = .ok (.yield ⟨⟩) w) → (forIn l PUnit.unit f).run P w = .ok ⟨⟩ w
  | [], _ => by simp [Sem.run, pure]
  | x :: l, h => by
    rw [List.forIn_cons]
    refine (bind_run' (h x (by simp))).trans ?_
    exact run_forIn_unit f l fun y hy => h y (by simp [hy])
theorem kindsF_each {P : Program} {g : TypeId → Option (List CK)} {vs : List Value} : ∀ (l : List Field) (off : Nat) (js : List CK), kindsF P g l off = some js → fits js (vs.drop off) → ∀ f ∈ l, f.name ≠ "_" ∧ ∃ ms, g f.type = some ms ∧ szOf P f.type = some ms.length ∧ fits ms ((vs.drop f.offset).take ms.length)
  | [], _, _, _, _, f, hf => by cases hf
  | fl :: l, off, js, hk, hv, f, hf => by
    unfold kindsF at hk
    split at hk <;> try (cases hk; done)
    rename_i ms hms
    split at hk <;> try (cases hk; done)
    rename_i hc
    obtain ⟨hname, hoff, hsz⟩ := hc
    split at hk <;> try (cases hk; done)
    rename_i rs hrs
    obtain rfl := Option.some.inj hk
    obtain ⟨a1, a2⟩ := fits_append _ _ _ hv
    rw [List.drop_drop] at a2
    rcases List.mem_cons.1 hf with rfl | hf
    · exact ⟨hname, ms, hms, hsz, by rw [hoff]; exact a1⟩
    · exact kindsF_each l _ rs hrs a2 f hf
theorem run_checkKey_kinds {P : Program} (e : Bool) : ∀ (d n : Nat) (t : TypeId) (ks : List CK), d ≤ n → kindsT P d t = some ks → ∀ vs : List Value, fits ks vs → ∀ w : World, (Instr.checkKey e n t (mkV P t vs)).run P w = .ok () w
  | 0, _, t, ks, _, h, _, _, _ => by simp [kindsT] at h
  | d + 1, 0, t, ks, hn, _, _, _, _ => by omega
  | d + 1, n + 1, t, ks, hn, h, vs, hv, w => by
    have hl := fits_length _ _ hv
    unfold kindsT at h
    unfold Instr.checkKey
    cases hun : P.underlying t with
    | none => rw [hun] at h; cases h
    | some u =>
      rw [hun] at h
      refine (bind_run' (run_underlying hun w)).trans ?_
      cases u with
      | bool => rfl
      | int k => rfl
      | string => rfl
      | array m el =>
        simp only at h
        split at h <;> try (cases h; done)
        rename_i js hjs
        split at h <;> try (cases h; done)
        rename_i hsz
        obtain rfl := Option.some.inj h
        have hag : isAggT P t = true := by simp [isAggT, hun]
        simp only [mkV, hag, if_true]
        have items : ∀ (m j : Nat), fits (List.replicate m js).flatten (vs.drop (j * js.length)) → ∀ i, j ≤ i → i < j + m → fits js ((vs.drop (i * js.length)).take js.length) := by
          intro m
          induction m with
          | zero => intro j _ i h1 h2; omega
          | succ m ih =>
            intro j h1 i hi1 hi2
            rw [List.replicate_succ, List.flatten_cons] at h1
            obtain ⟨a1, a2⟩ := fits_append _ _ _ h1
            rw [List.drop_drop, show j * js.length + js.length = (j + 1) * js.length from by rw [Nat.add_mul, Nat.one_mul]] at a2
            by_cases hij : i = j
            · subst hij; exact a1
            · exact ih (j + 1) a2 i (by omega) (by omega)
        rw [Std.Legacy.Range.forIn_eq_forIn_range']
        refine (bind_run' (run_forIn_unit _ _ fun i hi => ?_)).trans rfl
        have hi2 : i < m := by simpa [Std.Legacy.Range.size] using hi
        refine (bind_run' (run_sizeOf hsz w)).trans ?_
        have h4 := items m 0 (by simpa using hv) i (by omega) (by omega)
        refine (bind_run' (run_part_flat hjs hsz (by simpa using h4) w)).trans ?_
        exact (bind_run' (run_checkKey_kinds e d n el js (by omega) hjs _ (by simpa using h4) w)).trans rfl
      | struct fs =>
        simp only at h
        split at h <;> try (cases h; done)
        rename_i hst
        have hag : isAggT P t = true := by simp [isAggT, hun]
        simp only [mkV, hag, if_true]
        rw [← Array.forIn_toList]
        refine (bind_run' (run_forIn_unit _ _ fun f hf => ?_)).trans rfl
        obtain ⟨h1, ms, h2, h3, h4⟩ := kindsF_each _ _ _ h (by simpa using hv) f hf
        rw [if_pos h1]
        refine (bind_run' (run_part_flat h2 h3 (by simpa using h4) w)).trans ?_
        exact (bind_run' (run_checkKey_kinds e d n f.type ms (by omega) h2 _ (by simpa using h4) w)).trans rfl
      | _ => cases h
theorem sameBits_fits {n : Nat} : ∀ (ks : List CK) (vs : List Value), fits ks vs → (vs.zip vs).all (fun (x, y) => Instr.sameBits n x y) = true
  | [], [], _ => rfl
  | k :: ks, v :: vs, h => by
    obtain ⟨h1, h2⟩ := h
    simp only [List.zip_cons_cons, List.all_cons, sameBits_fits ks vs h2, Bool.and_true]
    cases k <;> cases v <;> simp_all [fitV, Instr.sameBits, bytes_beq]
  | [], _ :: _, h => h.elim
  | _ :: _, [], h => h.elim
/-- Keys that are structs or arrays of plain cells. -/
theorem keyA_kinds {P : Program} {kt : TypeId} {ks : List CK} {κ : Type} (cs : κ → List SV) (hk : kindsT P 12 kt = some ks) (ha : isAggT P kt = true) (hf : ∀ a, fits ks (denL (cs a))) (hi : ∀ a b, denL (cs a) = denL (cs b) → a = b) : KeyA P kt (fun a => SV.agg (cs a)) := by
  have hm : ∀ a, (SV.agg (cs a)).den = mkV P kt (denL (cs a)) := fun a => by rw [mkV, if_pos ha]; simp only [SV.den]
  refine ⟨fun a e w => ?_, fun a b w => ?_, ?_, fun a => ?_⟩
  · rw [hm]; exact run_checkKey_kinds e 12 10000 kt ks (by decide) hk _ (hf a) w
  · obtain ⟨r, h1, h2⟩ := eqFlat (P := P) 9988 12 kt ks hk _ _ (hf a) (hf b) w
    refine ⟨r, ?_, h2.trans ⟨hi a b, fun e => by rw [e]⟩⟩
    rw [hm, hm]; exact h1
  · unfold isAggT at ha
    cases hu : P.underlying kt with
    | none => rw [hu] at ha; cases ha
    | some u =>
      rw [hu] at ha
      refine ⟨u, rfl, fun a b => ?_⟩
      simp only [SV.den]
      cases u <;> simp_all [Instr.sameNow]
  · simp only [SV.den]
    rw [Instr.sameBits]
    simp only [beq_self_eq_true, Bool.true_and]
    exact sameBits_fits ks _ (hf a)
end Go.Sy

/- SY, part Q: two arrays or structs of plain cells are compared. Own work. -/
import Derived.Test.YthimgonpkhoodaaSyC
import Derived.ChangeKeysEq
import Derived.Laws.StructEq
namespace Go.Sy
open Go.RowKit
set_option linter.unusedVariables false
set_option linter.unusedSimpArgs false

/-- What a plain cell may be. -/
inductive CK where
  | b
  | i (k : IntKind)
  | s

def kindsF (P : Program) (f : TypeId → Option (List CK)) : List Field → Nat → Option (List CK)
  | [], _ => some []
  | fl :: fs, off => match f fl.type with
    | some ks => if fl.name ≠ "_" ∧ fl.offset = off ∧ szOf P fl.type = some ks.length then match kindsF P f fs (off + ks.length) with
        | some r => some (ks ++ r)
        | none => none
      else none
    | none => none

/-- A type's cells, one behind the other, if all are plain. -/
def kindsT (P : Program) : Nat → TypeId → Option (List CK)
  | 0, _ => none
  | d + 1, t => match P.underlying t with
    | some .bool => some [.b]
    | some (.int k) => some [.i k]
    | some .string => some [.s]
    | some (.array n e) => match kindsT P d e with
      | some ks => if szOf P e = some ks.length then some (List.replicate n ks).flatten else none
      | none => none
    | some (.struct fs) => if P.stoodInHeld t = false then kindsF P (kindsT P d) fs.toList 0 else none
    | _ => none

def fitV : CK → Value → Prop
  | .b, .bool _ => True
  | .i k, .int k' _ => k' = k
  | .s, .string _ => True
  | _, _ => False

def fits : List CK → List Value → Prop
  | [], [] => True
  | k :: ks, v :: vs => fitV k v ∧ fits ks vs
  | _, _ => False

theorem fits_length : ∀ (ks : List CK) (vs : List Value), fits ks vs → vs.length = ks.length
  | [], [], _ => rfl
  | k :: ks, v :: vs, h => by simp [fits_length ks vs h.2]
  | [], _ :: _, h => h.elim
  | _ :: _, [], h => h.elim

theorem fits_append : ∀ (ks js : List CK) (vs : List Value), fits (ks ++ js) vs → fits ks (vs.take ks.length) ∧ fits js (vs.drop ks.length)
  | [], js, vs, h => by simpa [fits] using h
  | k :: ks, js, v :: vs, h => by
    obtain ⟨h1, h2⟩ := h
    obtain ⟨h3, h4⟩ := fits_append ks js vs h2
    simp only [List.length_cons, List.take_succ_cons, List.drop_succ_cons]
    exact ⟨⟨h1, h3⟩, h4⟩
  | k :: ks, js, [], h => h.elim

def mkV (P : Program) (t : TypeId) (vs : List Value) : Value := if isAggT P t then .agg vs.toArray else vs.getD 0 undef

theorem underlying_of_info {P : Program} {t : TypeId} {n : Nat} (h : szOf P t = some n) : ∃ i, P.info? t = some i ∧ i.size = n := by
  unfold szOf at h
  cases hi : P.info? t with
  | none => simp [hi] at h
  | some i => simp [hi] at h; exact ⟨i, rfl, h⟩

theorem kindsT_und {P : Program} {d : Nat} {t : TypeId} {ks : List CK} (h : kindsT P d t = some ks) : ∃ u, P.underlying t = some u ∧ (isAggT P t = false → ks.length = 1) := by
  cases d with
  | zero => simp [kindsT] at h
  | succ d =>
    unfold kindsT at h
    cases hu : P.underlying t with
    | none => rw [hu] at h; cases h
    | some u =>
      refine ⟨u, rfl, fun ha => ?_⟩
      rw [hu] at h
      unfold isAggT at ha
      rw [hu] at ha
      cases u <;> simp at h ha <;> (subst h; rfl)

theorem run_part_flat {P : Program} {d off : Nat} {t : TypeId} {ks : List CK} (h : kindsT P d t = some ks) (hs : szOf P t = some ks.length) {xs : Array Value} (hf : fits ks ((xs.toList.drop off).take ks.length)) (w : World) :
    (part t xs off).run P w = .ok (mkV P t ((xs.toList.drop off).take ks.length)) w := by
  obtain ⟨u, hu, h1⟩ := kindsT_und h
  unfold part
  refine (bind_run' (run_isAgg hu w)).trans ?_
  unfold mkV
  by_cases ha : isAggT P t = true
  · rw [if_pos ha, if_pos ha]
    refine (bind_run' (run_sizeOf hs w)).trans ?_
    simp only [Sem.run, pure]
    congr 2
    apply Array.ext'
    simp [List.take_drop]
  · rw [if_neg ha, if_neg ha]
    have hk := h1 (by simpa using ha)
    have hl := fits_length _ _ hf
    rw [hk] at hl
    rw [hk]
    cases hx : xs[off]? with
    | none =>
      have : xs.size ≤ off := by simpa using hx
      rw [List.drop_eq_nil_of_le (by simpa using this)] at hl
      simp at hl
    | some v =>
      have hlt : off < xs.size := (Array.getElem?_eq_some_iff.1 hx).1
      have hv : xs[off] = v := (Array.getElem?_eq_some_iff.1 hx).2
      rw [List.drop_eq_getElem_cons (by simpa using hlt)]
      simp [Sem.run, pure, hv]

theorem append_inj_len {α : Type} {a b c d : List α} (h : a.length = c.length) : (a ++ b = c ++ d) ↔ (a = c ∧ b = d) := by
  constructor
  · intro e; exact List.append_inj e h
  · rintro ⟨rfl, rfl⟩; rfl

theorem split_iff {α : Type} (n : Nat) (a b : List α) : a = b ↔ a.take n = b.take n ∧ a.drop n = b.drop n := by
  constructor
  · rintro rfl; exact ⟨rfl, rfl⟩
  · rintro ⟨h1, h2⟩
    rw [← List.take_append_drop n a, h1, h2, List.take_append_drop]

theorem eqFlat {P : Program} (dd : Nat) : ∀ (d : Nat) (t : TypeId) (ks : List CK), kindsT P d t = some ks → ∀ (vs us : List Value), fits ks vs → fits ks us → ∀ w : World,
    ∃ r : Bool, (Op.equalIn (dd + d) t (mkV P t vs) (mkV P t us)).run P w = .ok r w ∧ (r = true ↔ vs = us)
  | 0, t, ks, h, _, _, _, _, _ => by simp [kindsT] at h
  | d + 1, t, ks, h, vs, us, hv, hu, w => by
    have hl1 := fits_length _ _ hv
    have hl2 := fits_length _ _ hu
    unfold kindsT at h
    cases hun : P.underlying t with
    | none => rw [hun] at h; cases h
    | some u =>
      rw [hun] at h
      have step : ∀ (e : TypeId) (js : List CK) (xs ys : Array Value) (off : Nat), kindsT P d e = some js → szOf P e = some js.length → fits js ((xs.toList.drop off).take js.length) → fits js ((ys.toList.drop off).take js.length) → ∀ w : World,
          ∃ a b r, (part e xs off).run P w = .ok a w ∧ (part e ys off).run P w = .ok b w ∧ (Op.equalIn (dd + d) e a b).run P w = .ok r w ∧ (r = true ↔ (xs.toList.drop off).take js.length = (ys.toList.drop off).take js.length) := by
        intro e js xs ys off hk hs hx hy w
        obtain ⟨r, h1, h2⟩ := eqFlat dd d e js hk _ _ hx hy w
        exact ⟨_, _, r, run_part_flat hk hs hx w, run_part_flat hk hs hy w, h1, h2⟩
      have one : ∀ (x y : Value), vs = [x] → us = [y] → isAggT P t = false → (∃ r : Bool, (Op.equalIn (dd + (d + 1)) t x y).run P w = .ok r w ∧ (r = true ↔ x = y)) → ∃ r : Bool, (Op.equalIn (dd + (d + 1)) t (mkV P t vs) (mkV P t us)).run P w = .ok r w ∧ (r = true ↔ vs = us) := by
        intro x y hx hy ha ⟨r, h1, h2⟩
        subst hx; subst hy
        refine ⟨r, by simpa [mkV, ha] using h1, by simpa using h2⟩
      have single : ∀ (l : List Value), l.length = 1 → ∃ x, l = [x] := by
        intro l hl
        match l, hl with
        | [x], _ => exact ⟨x, rfl⟩
      cases u with
      | bool =>
        obtain rfl := Option.some.inj h
        obtain ⟨x, rfl⟩ := single vs (by simpa using hl1)
        obtain ⟨y, rfl⟩ := single us (by simpa using hl2)
        have hx := hv.1; have hy := hu.1
        cases x <;> simp only [fitV] at hx
        cases y <;> simp only [fitV] at hy
        refine one _ _ rfl rfl (by simp [isAggT, hun]) ⟨_, run_equalIn_bool w _ t _ _ hun, by simp⟩
      | int k =>
        obtain rfl := Option.some.inj h
        obtain ⟨x, rfl⟩ := single vs (by simpa using hl1)
        obtain ⟨y, rfl⟩ := single us (by simpa using hl2)
        have hx := hv.1; have hy := hu.1
        cases x <;> simp only [fitV] at hx
        cases y <;> simp only [fitV] at hy
        subst hx; subst hy
        refine one _ _ rfl rfl (by simp [isAggT, hun]) ⟨_, run_equalIn_int w _ t _ _ _ _ hun, by simp⟩
      | string =>
        obtain rfl := Option.some.inj h
        obtain ⟨x, rfl⟩ := single vs (by simpa using hl1)
        obtain ⟨y, rfl⟩ := single us (by simpa using hl2)
        have hx := hv.1; have hy := hu.1
        cases x <;> simp only [fitV] at hx
        cases y <;> simp only [fitV] at hy
        refine one _ _ rfl rfl (by simp [isAggT, hun]) ⟨_, run_equalIn_string w _ t _ _ hun, ?_⟩
        rw [beq_iff_eq, ByteArray.toList_eq, ByteArray.toList_eq]
        rename_i a b
        obtain ⟨⟨a⟩⟩ := a
        obtain ⟨⟨b⟩⟩ := b
        simp
      | array n e =>
        simp only at h
        split at h <;> try (cases h; done)
        rename_i js hjs
        split at h <;> try (cases h; done)
        rename_i hsz
        obtain rfl := Option.some.inj h
        obtain ⟨i, hi, hin⟩ := underlying_of_info hsz
        have hc : P.cellsOf e = js.length := by simp [Program.cellsOf, hi, hin]
        have hag : isAggT P t = true := by simp [isAggT, hun]
        simp only [mkV, hag, if_true]
        rw [show dd + (d + 1) = (dd + d) + 1 from rfl, Go.run_equalIn_array w (dd + d) _ _ hun hi, hc]
        have items : ∀ (m j : Nat), (fits (List.replicate m js).flatten (vs.drop (j * js.length))) → (fits (List.replicate m js).flatten (us.drop (j * js.length))) → 
            ∃ r : Bool, (Op.eqItems (dd + d) e js.length vs.toArray us.toArray (List.range' j m)).run P w = .ok r w ∧ (r = true ↔ vs.drop (j * js.length) = us.drop (j * js.length)) := by
          intro m
          induction m with
          | zero =>
            intro j h1 h2
            refine ⟨true, by simp [Op.eqItems], ?_⟩
            have e1 := fits_length _ _ h1
            have e2 := fits_length _ _ h2
            simp at e1 e2
            rw [List.drop_eq_nil_of_le (by omega), List.drop_eq_nil_of_le (by omega)]; simp
          | succ m ih =>
            intro j h1 h2
            rw [List.replicate_succ, List.flatten_cons] at h1 h2
            obtain ⟨a1, a2⟩ := fits_append _ _ _ h1
            obtain ⟨b1, b2⟩ := fits_append _ _ _ h2
            rw [List.drop_drop, show j * js.length + js.length = (j + 1) * js.length from by rw [Nat.add_mul, Nat.one_mul]] at a2 b2
            obtain ⟨a, b, r, p1, p2, p3, p4⟩ := step e js vs.toArray us.toArray (j * js.length) hjs hsz a1 b1 w
            obtain ⟨r', hr', hiff⟩ := ih (j + 1) a2 b2
            have hsplit : vs.drop (j * js.length) = us.drop (j * js.length) ↔ (vs.drop (j * js.length)).take js.length = (us.drop (j * js.length)).take js.length ∧ vs.drop ((j + 1) * js.length) = us.drop ((j + 1) * js.length) := by
              rw [split_iff js.length, List.drop_drop, List.drop_drop, show j * js.length + js.length = (j + 1) * js.length from by rw [Nat.add_mul, Nat.one_mul]]
            rw [List.range'_succ]
            simp only [Op.eqItems, Sem.run_bind, p1, p2, p3, Result.andThen_ok]
            cases r with
            | false => exact ⟨false, by simp, by rw [hsplit]; simp; intro e; exact absurd (p4.2 e) (by simp)⟩
            | true => exact ⟨r', by simpa using hr', by rw [hsplit, hiff]; simp; intro _; exact p4.1 rfl⟩
        rw [List.range_eq_range']
        have := items n 0 (by simpa using hv) (by simpa using hu)
        simpa using this
      | struct fs =>
        simp only at h
        split at h <;> try (cases h; done)
        rename_i hst
        have hag : isAggT P t = true := by simp [isAggT, hun]
        have hfo : P.fieldsOf t = fs := by simp [Program.fieldsOf, hun]
        simp only [mkV, hag, if_true]
        rw [show dd + (d + 1) = (dd + d) + 1 from rfl, run_equalIn_struct w (dd + d) t _ _ (by rw [hfo]; exact hun) hst, hfo]
        have flds : ∀ (l : List Field) (off : Nat) (js : List CK), kindsF P (kindsT P d) l off = some js → fits js (vs.drop off) → fits js (us.drop off) →
            ∃ r : Bool, (Op.eqFields (dd + d) vs.toArray us.toArray l).run P w = .ok r w ∧ (r = true ↔ vs.drop off = us.drop off) := by
          intro l
          induction l with
          | nil =>
            intro off js hk h1 h2
            obtain rfl := Option.some.inj hk
            have e1 := fits_length _ _ h1
            have e2 := fits_length _ _ h2
            simp at e1 e2
            refine ⟨true, by simp [Op.eqFields], ?_⟩
            rw [List.drop_eq_nil_of_le (by omega), List.drop_eq_nil_of_le (by omega)]; simp
          | cons f l ih =>
            intro off js hk h1 h2
            unfold kindsF at hk
            split at hk <;> try (cases hk; done)
            rename_i ms hms
            split at hk <;> try (cases hk; done)
            rename_i hc
            obtain ⟨hname, hoff, hsz⟩ := hc
            split at hk <;> try (cases hk; done)
            rename_i rs hrs
            obtain rfl := Option.some.inj hk
            obtain ⟨a1, a2⟩ := fits_append _ _ _ h1
            obtain ⟨b1, b2⟩ := fits_append _ _ _ h2
            rw [List.drop_drop] at a2 b2
            obtain ⟨a, b, r, p1, p2, p3, p4⟩ := step f.type ms vs.toArray us.toArray off hms hsz a1 b1 w
            obtain ⟨r', hr', hiff⟩ := ih (off + ms.length) rs hrs a2 b2
            have hsplit : vs.drop off = us.drop off ↔ (vs.drop off).take ms.length = (us.drop off).take ms.length ∧ vs.drop (off + ms.length) = us.drop (off + ms.length) := by
              rw [split_iff ms.length, List.drop_drop, List.drop_drop]
            simp only [Op.eqFields, if_pos hname, hoff, Sem.run_bind, p1, p2, p3, Result.andThen_ok]
            cases r with
            | false => exact ⟨false, by simp, by rw [hsplit]; simp; intro e; exact absurd (p4.2 e) (by simp)⟩
            | true => exact ⟨r', by simpa using hr', by rw [hsplit, hiff]; simp; intro _; exact p4.1 rfl⟩
        have := flds fs.toList 0 ks h (by simpa using hv) (by simpa using hu)
        simpa using this
      | _ => cases h
end Go.Sy

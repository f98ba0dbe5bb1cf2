/- SY, part D: the operations that only look, all of them: 'rdOp', and that it tells the truth. Own work. -/
import Derived.Test.YthimgonpkhoodaaSyQ
import Derived.Laws.LoneSync
namespace Go.Sy
open Go.RowKit
set_option linter.unusedVariables false
set_option linter.unusedSimpArgs false

def zrOf (P : Program) (t : TypeId) : Option SV := ((P.info? t).bind (·.zero)).map ofVal
theorem run_zero {P : Program} {t : TypeId} {z : SV} (h : zrOf P t = some z) (w : World) : (zeroValue t).run P w = .ok z.den w := by
  unfold zrOf at h
  cases hi : P.info? t with
  | none => simp [hi] at h
  | some i =>
    cases hz : i.zero with
    | none => simp [hi, hz] at h
    | some v =>
      simp [hi, hz] at h
      simp [zeroValue, typeInfo, program, bind, Sem.bind, Sem.run, hi, hz, pure, ← h, ofVal_den]

/-! ### parts of a value -/
def partK (P : Program) (t : TypeId) (cs : List SV) (off : Nat) (K : SV → Prop) : Prop :=
  match P.underlying t, szOf P t with
  | some _, some n => if isAggT P t then forceL ((cs.drop off).take n) fun cs => K (.agg cs) else match cs[off]? with
    | some v => forceV v K
    | none => False
  | _, _ => False

theorem partK_run {P : Program} {t : TypeId} {cs : List SV} {off : Nat} {K : SV → Prop} (h : partK P t cs off K) :
    ∃ v, K v ∧ ∀ w, (part t (denL cs).toArray off).run P w = .ok v.den w := by
  unfold partK at h
  simp only [forceV_eq, forceL_eq] at h
  split at h <;> try exact h.elim
  rename_i d n hu hs
  by_cases hag : isAggT P t = true
  · rw [if_pos hag] at h
    refine ⟨_, h, fun w => ?_⟩
    unfold part
    refine (bind_run' (run_isAgg hu w)).trans ?_
    rw [if_pos hag]
    refine (bind_run' (run_sizeOf hs w)).trans ?_
    simp only [SV.den, denL_eq, Sem.run_pure]
    congr 2
    simp [List.map_drop, List.map_take, List.drop_take]
  · rw [if_neg hag] at h
    split at h <;> try exact h.elim
    rename_i v hv
    refine ⟨_, h, fun w => ?_⟩
    unfold part
    refine (bind_run' (run_isAgg hu w)).trans ?_
    rw [if_neg hag]
    simp [denL_getElem?, hv, Sem.run]

def fieldK (P : Program) (t : TypeId) (x : SV) (fld : Nat) (K : SV → Prop) : Prop :=
  match P.underlying t with
  | some (.struct fs) => match fs[fld]? with
    | some fl => match x with
      | .agg cs => partK P fl.type cs fl.offset K
      | _ => False
    | none => False
  | _ => False

theorem fieldK_run {P : Program} {t : TypeId} {x : SV} {fld : Nat} {K : SV → Prop} (h : fieldK P t x fld K) :
    ∃ v, K v ∧ ∀ w, (Instr.field t x.den fld).run P w = .ok v.den w := by
  unfold fieldK at h
  split at h <;> try exact h.elim
  rename_i fs hu
  split at h <;> try exact h.elim
  rename_i fl hf
  split at h <;> try exact h.elim
  rename_i cs
  obtain ⟨v, hk, r⟩ := partK_run h
  refine ⟨v, hk, fun w => ?_⟩
  simp [Instr.field, Sem.run_bind, run_underlying hu, Result.andThen, hf, SV.den, asAgg, r]

def indexK (P : Program) (t : TypeId) (x ix : SV) (K : SV → Prop) : Prop :=
  match ix with
  | .int _ n => match P.underlying t, x with
    | some (.array len e), .agg cs => match szOf P e with
      | some s => (0 ≤ n ∧ n < len) ∧ partK P e cs (n.toNat * s) K
      | none => False
    | some .string, .str s => (0 ≤ n ∧ n < s.length) ∧ K (.int .u8 (s.getD n.toNat 0).toNat)
    | _, _ => False
  | _ => False

theorem indexK_run {P : Program} {t : TypeId} {x ix : SV} {K : SV → Prop} (h : indexK P t x ix K) :
    ∃ v, K v ∧ ∀ w, (Instr.index t x.den ix.den).run P w = .ok v.den w := by
  unfold indexK at h
  split at h <;> try exact h.elim
  rename_i k n
  split at h <;> try exact h.elim
  · rename_i len e cs hu
    split at h <;> try exact h.elim
    rename_i s hs
    obtain ⟨⟨h0, h1⟩, h⟩ := h
    obtain ⟨v, hk, r⟩ := partK_run h
    refine ⟨v, hk, fun w => ?_⟩
    simp [Instr.index, SV.den, Sem.run_bind, run_underlying hu, run_sizeOf hs, asIntOf, Result.andThen, h0, h1, r]
  · rename_i s hu
    obtain ⟨⟨h0, h1⟩, h⟩ := h
    refine ⟨_, h, fun w => ?_⟩
    have hlt : n.toNat < s.length := by omega
    simp only [Instr.index, SV.den, Sem.run_bind, asIntOf, Sem.run_pure, Result.andThen, run_underlying hu, h0, if_true]
    have : (ByteArray.mk s.toArray)[n.toNat]? = some s[n.toNat] := by
      have hs : n.toNat < (ByteArray.mk s.toArray).size := by simpa [ByteArray.size] using hlt
      rw [getElem?_pos (ByteArray.mk s.toArray) n.toNat hs]
      rfl
    rw [this]
    simp [Sem.run, pure, hlt]

/-! ### building -/
def fillS (place : Nat → Option (Nat × Nat)) (cells : List SV) : List (Nat × SV) → Option (List SV)
  | [] => some cells
  | (i, v) :: rest =>
    match v with
    | .raw _ => none
    | _ =>
      match place i with
      | none => none
      | some (off, size) =>
        if (cellsOf v).length ≠ size || off + (cellsOf v).length > cells.length then none
        else fillS place (setMany cells off (cellsOf v)) rest

theorem foldl_setMany (vs : List SV) : ∀ (cs : List SV) (off i : Nat),
    ((denL vs).zipIdx i).foldl (fun (cs : Array Value) (x : Value × Nat) => cs.setIfInBounds (off + x.2) x.1) (denL cs).toArray = (denL (setMany cs (off + i) vs)).toArray := by
  induction vs with
  | nil => intro cs off i; simp [denL, setMany]
  | cons v vs ih =>
    intro cs off i
    simp only [denL, List.zipIdx_cons, List.foldl_cons, setMany]
    have : (denL cs).toArray.setIfInBounds (off + i) v.den = (denL (cs.set (off + i) v)).toArray := by
      simp [denL_eq, List.map_set]
    rw [this, ih]
    rfl

theorem fillS_fill (place : Nat → Option (Nat × Nat)) : ∀ (parts : List (Nat × SV)) (cells r : List SV), fillS place cells parts = some r →
    Instr.fill place (denL cells).toArray (parts.map fun p => (p.1, p.2.den)) = some (denL r).toArray
  | [], cells, r, h => by simp [fillS] at h; subst h; simp [Instr.fill]
  | (i, v) :: rest, cells, r, h => by
    unfold fillS at h
    have hv : ∀ x, v ≠ .raw x := fun x hx => by subst hx; simp at h
    split at h
    · exact absurd rfl (hv _)
    split at h <;> try (simp at h; done)
    rename_i off size hp
    split at h <;> try (simp at h; done)
    rename_i hc
    simp only [Bool.or_eq_true, decide_eq_true_eq, not_or, Decidable.not_not, Nat.not_lt, gt_iff_lt, ne_eq] at hc
    obtain ⟨h1, h2⟩ := hc
    have hcd := cellsOf_den v hv
    have hsz : v.den.cells.size = (cellsOf v).length := by
      rw [← Array.length_toList, ← hcd, denL_eq, List.length_map]
    simp only [List.map_cons, Instr.fill, hp]
    rw [if_neg (by simp [hsz, h1, denL_eq]; omega)]
    have hz : v.den.cells.zipIdx.foldl (fun (cs : Array Value) (x : Value × Nat) => cs.setIfInBounds (off + x.2) x.1) (denL cells).toArray = (denL (setMany cells off (cellsOf v))).toArray := by
      rw [← Array.foldl_toList, Array.toList_zipIdx, ← hcd]
      exact foldl_setMany (cellsOf v) cells off 0
    have := fillS_fill place rest _ r h
    rw [← hz] at this
    exact this

def buildK (P : Program) (t : TypeId) (parts : List (Nat × SV)) (K : SV → Prop) : Prop :=
  match zrOf P t with
  | some (.agg zero) => match P.underlying t with
    | some (.struct fs) =>
      if fs.toList.all (fun f => (szOf P f.type).isSome) = true then
        match fillS (fun i => (fs[i]?).map fun f => (f.offset, (szOf P f.type).getD 0)) zero parts with
        | some cells => forceL cells fun cells => K (.agg cells)
        | none => False
      else False
    | some (.array _ e) => match szOf P e with
      | some s => match fillS (fun i => some (i * s, s)) zero parts with
        | some cells => forceL cells fun cells => K (.agg cells)
        | none => False
      | none => False
    | _ => False
  | _ => False

theorem mapM_sizes {P : Program} (w : World) : ∀ (fs : List Field), (fs.all fun f => (szOf P f.type).isSome) = true →
    (fs.mapM (fun f => (do pure (f.offset, ← sizeOf f.type) : Sem (Nat × Nat)))).run P w = .ok (fs.map fun f => (f.offset, (szOf P f.type).getD 0)) w
  | [], _ => by simp [Sem.run, pure]
  | f :: fs, h => by
    simp only [List.all_cons, Bool.and_eq_true] at h
    obtain ⟨n, hn⟩ := Option.isSome_iff_exists.1 h.1
    rw [List.mapM_cons]
    refine (bind_run' (a := (f.offset, n)) (w' := w) ((bind_run' (run_sizeOf hn w)).trans rfl)).trans ?_
    refine (bind_run' (mapM_sizes w fs h.2)).trans ?_
    simp [Sem.run, pure, hn]

theorem buildK_run {P : Program} {t : TypeId} {parts : List (Nat × SV)} {K : SV → Prop} (h : buildK P t parts K) :
    ∃ v, K v ∧ ∀ w, (Instr.build t (parts.map fun p => (p.1, p.2.den)).toArray).run P w = .ok v.den w := by
  unfold buildK at h
  simp only [forceL_eq] at h
  split at h <;> try exact h.elim
  rename_i zero hz
  split at h <;> try exact h.elim
  · rename_i fs hu
    split at h <;> try exact h.elim
    rename_i hall
    split at h <;> try exact h.elim
    rename_i cells hf
    refine ⟨_, h, fun w => ?_⟩
    have hm := mapM_sizes (P := P) w fs.toList hall
    have h2 := fillS_fill _ _ _ _ hf
    unfold Instr.build
    refine (bind_run' (run_zero hz w)).trans ?_
    refine (bind_run' (run_underlying hu w)).trans ?_
    simp only []
    refine (bind_run' (a := (fs.map fun f => (f.offset, (szOf P f.type).getD 0))) (w' := w) ?_).trans ?_
    · rw [Array.mapM_eq_mapM_toList, Sem.run_map]
      rw [hm]
      simp only [Result.andThen]
      congr 1
      apply Array.ext'
      simp
    · have hp : (fun (i : Nat) => (fs.map fun (f : Field) => (f.offset, (szOf P f.type).getD 0))[i]?) = (fun (i : Nat) => (fs[i]?).map fun (f : Field) => (f.offset, (szOf P f.type).getD 0)) := by
        funext i; simp
      rw [hp]
      simp only [SV.den, Value.cells] at h2 ⊢
      rw [h2]
      rfl
  · rename_i n e hu
    split at h <;> try exact h.elim
    rename_i s hs
    split at h <;> try exact h.elim
    rename_i cells hf
    refine ⟨_, h, fun w => ?_⟩
    have h2 := fillS_fill _ _ _ _ hf
    unfold Instr.build
    refine (bind_run' (run_zero hz w)).trans ?_
    refine (bind_run' (run_underlying hu w)).trans ?_
    simp only []
    refine (bind_run' (run_sizeOf hs w)).trans ?_
    simp only [SV.den, Value.cells] at h2 ⊢
    rw [h2]
    rfl

/-! ### the rest -/
def nilK (x : SV) (K : SV → Prop) : Prop :=
  match x with
  | .ptr i b w j f => K (.ptr i b w j f)
  | .clo (.func f) fs cs => K (.clo (.func f) fs cs)
  | _ => False

def outB (neg b : Bool) (K : SV → Prop) : Prop := match neg with
  | true => K (.bool (!b))
  | false => K (.bool b)

/-- Plain cells compared, one by one. -/
def eqL (ks : List CK) : List SV → List SV → (Bool → Prop) → Prop :=
  List.rec (motive := fun _ => List SV → List SV → (Bool → Prop) → Prop) (fun xs ys K => match xs, ys with
    | [], [] => K true
    | _, _ => False) (fun k _ ih xs ys K => match xs, ys with
    | x :: xs, y :: ys => match k, x, y with
      | .b, .bool a, .bool b => ih xs ys fun r => K (decide (a = b) && r)
      | .i k, .int k1 a, .int k2 b => k1 = k ∧ k2 = k ∧ ih xs ys fun r => K (decide (a = b) && r)
      | .s, .str a, .str b => ih xs ys fun r => K (decide (a = b) && r)
      | _, _, _ => False
    | _, _ => False) ks

theorem eqL_spec : ∀ (ks : List CK) (xs ys : List SV) (K : Bool → Prop), eqL ks xs ys K → ∃ b, K b ∧ fits ks (denL xs) ∧ fits ks (denL ys) ∧ (b = true ↔ denL xs = denL ys)
  | [], [], [], K, h => ⟨true, h, trivial, trivial, by simp⟩
  | [], [], _ :: _, K, h => h.elim
  | [], _ :: _, _, K, h => h.elim
  | k :: ks, [], _, K, h => h.elim
  | k :: ks, _ :: _, [], K, h => h.elim
  | k :: ks, x :: xs, y :: ys, K, h => by
    cases k <;> cases x <;> try exact False.elim h
    · cases y <;> try exact False.elim h
      rename_i a b
      obtain ⟨r, h1, h2, h3, h4⟩ := eqL_spec ks xs ys (fun r => K (decide (a = b) && r)) h
      exact ⟨_, h1, ⟨trivial, h2⟩, ⟨trivial, h3⟩, by simp [denL, SV.den, h4]⟩
    · cases y <;> try exact False.elim h
      rename_i k k1 a k2 b
      obtain ⟨rfl, rfl, h⟩ := (h : k1 = k ∧ k2 = k ∧ eqL ks xs ys fun r => K (decide (a = b) && r))
      obtain ⟨r, h1, h2, h3, h4⟩ := eqL_spec ks xs ys _ h
      exact ⟨_, h1, ⟨rfl, h2⟩, ⟨rfl, h3⟩, by simp [denL, SV.den, h4]⟩
    · cases y <;> try exact False.elim h
      rename_i a b
      obtain ⟨r, h1, h2, h3, h4⟩ := eqL_spec ks xs ys (fun r => K (decide (a = b) && r)) h
      exact ⟨_, h1, ⟨trivial, h2⟩, ⟨trivial, h3⟩, by simp [denL, SV.den, h4]⟩

theorem fits_ints (k : IntKind) : ∀ (L : List Int), fits (List.replicate L.length (.i k)) (denL (L.flatMap fun n => [SV.int k n]))
  | [] => trivial
  | n :: L => ⟨rfl, fits_ints k L⟩
theorem den_ints (k : IntKind) : ∀ (L L' : List Int), denL (L.flatMap fun n => [SV.int k n]) = denL (L'.flatMap fun n => [SV.int k n]) ↔ L = L'
  | [], [] => by simp
  | [], _ :: _ => by simp [denL]
  | _ :: _, [] => by simp [denL]
  | a :: L, b :: L' => by
    have := den_ints k L L'
    simp only [List.flatMap_cons, List.singleton_append, denL, SV.den, List.cons.injEq, this]
    simp

/-- Two structs or arrays of plain cells. -/
def eqAgg (P : Program) (t : TypeId) (xs ys : List SV) (out : Bool → Prop) : Prop :=
  match kindsT P 12 t with
  | some ks => isAggT P t = true ∧ P.eqGuardType P.depth t = false ∧
    if ks.length ≤ 16 then eqL ks xs ys out
    else ∃ (k : IntKind) (L L' : List Int), xs = (L.flatMap fun n => [SV.int k n]) ∧ ys = (L'.flatMap fun n => [SV.int k n]) ∧ ks = List.replicate ks.length (.i k) ∧ L.length = ks.length ∧ L'.length = ks.length ∧ out (decide (L = L'))
  | none => False

theorem eqAgg_run {P : Program} {t : TypeId} {xs ys : List SV} {out : Bool → Prop} (h : eqAgg P t xs ys out) :
    ∃ b : Bool, out b ∧ P.eqGuardType P.depth t = false ∧ ∀ w : World, (Op.equal t (.agg (denL xs).toArray) (.agg (denL ys).toArray)).run P w = .ok b w := by
  unfold eqAgg at h
  split at h <;> try exact h.elim
  rename_i ks hks
  obtain ⟨hag, hg, h⟩ := h
  have key : ∀ b : Bool, fits ks (denL xs) → fits ks (denL ys) → (b = true ↔ denL xs = denL ys) → ∀ w : World, (Op.equal t (.agg (denL xs).toArray) (.agg (denL ys).toArray)).run P w = .ok b w := by
    intro b h1 h2 h3 w
    obtain ⟨r, hr, hiff⟩ := eqFlat (P := P) 9988 12 t ks hks _ _ h1 h2 w
    simp only [mkV, hag, if_true] at hr
    have : r = b := by
      cases r <;> cases b <;> simp_all
    rw [← this]
    exact hr
  split at h
  · obtain ⟨b, h1, h2, h3, h4⟩ := eqL_spec _ _ _ _ h
    exact ⟨b, h1, hg, key b h2 h3 h4⟩
  · obtain ⟨k, L, L', rfl, rfl, e, e1, e2, h⟩ := h
    refine ⟨_, h, hg, key _ ?_ ?_ ?_⟩
    · rw [e, ← e1]; exact fits_ints k L
    · rw [e, ← e2]; exact fits_ints k L'
    · rw [den_ints]; simp

def eqK (P : Program) (neg : Bool) (t : TypeId) (x y : SV) (K : SV → Prop) : Prop :=
  let out (b : Bool) : Prop := outB neg b K
  match P.underlying t, x, y with
  | some .bool, .bool a, .bool b => out (decide (a = b))
  | some (.pointer _), .nilp, .nilp => out true
  | some (.pointer _), .nilp, .ptr .. => out false
  | some (.pointer _), .ptr .., .nilp => out false
  | some (.slice _), .nils, .nils => out true
  | some (.slice _), .nils, .sl _ z b _ _ l c => out (nilB z l c && b.e.a.isNone)
  | some (.slice _), .sl _ z b _ _ l c, .nils => out (nilB z l c && b.e.a.isNone)
  | _, .agg xs, .agg ys => eqAgg P t xs ys out
  | _, _, _ => False

def convK (P : Program) (src dst : TypeId) (x : SV) (H : SH) (K : SV → Prop) : Prop :=
  match P.underlying src, P.underlying dst, x with
  | some (.int _), some (.int k), .int _ n => fitK k n K
  | some .string, some .string, .str s => K (.str s)
  | some (.slice e), some .string, .nils => match P.underlying e with
    | some (.int .u8) => K (.str [])
    | _ => False
  | some (.slice e), some .string, .sl i z b w j l c => match P.underlying e with
    | some (.int .u8) => match H[i]? with
      | some (b', bk) => b' = b ∧ ∃ bs : List UInt8, bs.length = l ∧ (bk.cells.drop (j * w)).take l = bs.map (fun c => SV.int .u8 c.toNat) ∧ K (.str bs)
      | none => False
    | _ => False
  | some (.pointer t), some .unsafePointer, .ptr i b w j f => match H[i]? with
    | some (b', bk) => b' = b ∧ bk.isFam = false ∧ match szOf P t with
      | some (_ + 1) => match bk.cells[j * w + f]? with
        | some _ => K (.ptr i b w j f)
        | none => False
      | _ => False
    | none => False
  | _, _, _ => False

def lenK (P : Program) (t : TypeId) (x : SV) (K : SV → Prop) : Prop :=
  match P.underlying t, x with
  | some .string, .str s => K (.int .i64 s.length)
  | some (.slice _), .nils => K (.int .i64 0)
  | some (.slice _), .sl _ _ _ _ _ l _ => K (.int .i64 l)
  | some (.array n _), _ => K (.int .i64 n)
  | some (.pointer a), _ => match P.underlying a with
    | some (.array n _) => K (.int .i64 n)
    | _ => False
  | _, _ => False

def mmK (mx : Bool) (xs : List SV) (K : SV → Prop) : Prop :=
  match xs with
  | [.int k a, .int k' b] => match mx with
    | true => K (.int k (max a b))
    | false => K (.int k (min a b))
  | [.int k a, .int k' b, .int k'' c] => match mx with
    | true => K (.int k (max (max a b) c))
    | false => K (.int k (min (min a b) c))
  | _ => False

def unK (op : UnOp) (x : SV) (K : SV → Prop) : Prop :=
  match op, x with
  | .neg, .int k n => fitK k (0 - n) K
  | .xor, .int k n => K (.int k (ibits .xor k (if k.signed then -1 else k.max) n))
  | .not, .bool b => K (.bool (!b))
  | _, _ => False

def pickK (c a b : SV) (K : SV → Prop) : Prop :=
  match c with
  | .bool t => (t = true → forceV a K) ∧ (t = false → forceV b K)
  | _ => False

/-- What an operation that only looks yields. -/
def rdOp (P : Program) (o : Op) (e : Operand → SV) (H : SH) (K : SV → Prop) : Prop :=
  match o with
  | .move x => forceV (e x) K
  | .pick c a b => pickK (e c) (e a) (e b) K
  | .nilCheck x => nilK (e x) K
  | .binOp op t x y _ => match e x with
    | .int k a => binK op (.int k a) (e y) K
    | .str a => binK op (.str a) (e y) K
    | v => match op with
      | .eql => eqK P false t v (e y) K
      | .neq => eqK P true t v (e y) K
      | _ => False
  | .unOp op _ x => unK op (e x) K
  | .convert s d x => convK P s d (e x) H K
  | .fieldAddr t x f => fldK P t (e x) f K
  | .field t x f => fieldK P t (e x) f K
  | .indexAddr t x i => idxK P t (e x) (e i) K
  | .index t x i => indexK P t (e x) (e i) K
  | .load t a => ldK P t (e a) H K
  | .slice t x lo hi mx => sliceK P t (e x) (lo.map e) (hi.map e) (mx.map e) K
  | .build t ps => buildK P t (ps.toList.map fun p => (p.1, e p.2)) K
  | .extract t i => match e t with
    | .tup vs => match vs[i]? with
      | some v => forceV v K
      | none => False
    | _ => False
  | .makeFunc fn fs cs => forceL (fs.toList.map e) fun fs => forceL (cs.toList.map e) fun cs => K (.clo fn fs cs)
  | .call c => match c.callee with
    | .builtin .len => match c.args.toList, c.argTypes.toList with
      | [x], t :: _ => lenK P t (e x) K
      | _, _ => False
    | .builtin .min => mmK false (c.args.toList.map e) K
    | .builtin .max => mmK true (c.args.toList.map e) K
    | _ => False
  | _ => False

theorem run_eq_bool {P : Program} {t : TypeId} (h : P.underlying t = some .bool) (a b : Bool) (w : World) : (Op.equal t (.bool a) (.bool b)).run P w = .ok (decide (a = b)) w := by
  have key : ∀ d, (Op.equalIn (d + 1) t (.bool a) (.bool b)).run P w = .ok (decide (a = b)) w := fun d => by
    simp [Op.equalIn, run_underlying h, beq_dec]
  exact key 9999
theorem run_eq_ptr {P : Program} {t e : TypeId} (h : P.underlying t = some (.pointer e)) (a b : Option Addr) (hn : a = none ∨ b = none) (w : World) : (Op.equal t (.pointer a) (.pointer b)).run P w = .ok (a.isNone && b.isNone) w := by
  have key : ∀ d, (Op.equalIn (d + 1) t (.pointer a) (.pointer b)).run P w = .ok (a.isNone && b.isNone) w := fun d => by
    rcases hn with rfl | rfl
    · simp [Op.equalIn, run_underlying h]
    · cases a <;> simp [Op.equalIn, run_underlying h]
  exact key 9999
theorem run_eq_slice {P : Program} {t e : TypeId} (h : P.underlying t = some (.slice e)) (a b : Option Addr) (n m c d : Nat) (hn : a = none ∨ b = none) (w : World) : (Op.equal t (.slice a n c) (.slice b m d)).run P w = .ok (a.isNone && b.isNone) w := by
  have key : ∀ k, (Op.equalIn (k + 1) t (.slice a n c) (.slice b m d)).run P w = .ok (a.isNone && b.isNone) w := fun k => by
    rcases hn with rfl | rfl
    · simp [Op.equalIn, run_underlying h]
    · cases a <;> simp [Op.equalIn, run_underlying h]
  exact key 9999

theorem den_sl (i : Nat) (z : Bool) (b : Bs) (w j l c : Nat) : ∃ a : Option Addr × Nat × Nat, (SV.sl i z b w j l c).den = .slice a.1 a.2.1 a.2.2 ∧ (nilB z l c && b.e.a.isNone) = a.1.isNone := by
  simp only [SV.den]
  cases h : nilB z l c
  · exact ⟨(some ⟨b.n, b.o + j * w, none⟩, l, c), rfl, rfl⟩
  · exact ⟨(b.e.a, 0, 0), rfl, by simp⟩

theorem eqK_run {P : Program} {neg : Bool} {t : TypeId} {x y : SV} {K : SV → Prop} (h : eqK P neg t x y K) :
    ∃ b : Bool, outB neg b K ∧ (∀ w, (Op.equal t x.den y.den).run P w = .ok b w) ∧ (∀ c e u w, (eqGuard c t e u x.den y.den).run P w = .ok () w) ∧
      (binOp .eql t x.den y.den = (do pure (.bool (← Op.equal t x.den y.den)))) ∧ (binOp .neq t x.den y.den = (do pure (.bool (!(← Op.equal t x.den y.den))))) := by
  unfold eqK at h
  simp only at h
  split at h <;> try exact h.elim
  · rename_i a b hu
    exact ⟨_, h, fun w => run_eq_bool hu a b w, fun c e u w => by simp only [eqGuard, SV.den]; split <;> rfl, rfl, rfl⟩
  all_goals
    first
    | (obtain ⟨b, h1, h2, h3⟩ := eqAgg_run h
       refine ⟨b, h1, fun w => h3 w, fun c e u w => ?_, rfl, rfl⟩
       simp only [SV.den]
       exact run_eqGuard_agg w _ _ _ _ _ _ h2)
    | (rename_i hu; exact ⟨_, h, fun w => by simp only [SV.den]; rw [run_eq_ptr hu _ _ (by simp)]; rfl, fun c e u w => by simp only [eqGuard, SV.den]; split <;> rfl, rfl, rfl⟩)
    | (rename_i hu; exact ⟨_, h, fun w => by simp only [SV.den]; rw [run_eq_slice hu _ _ _ _ _ _ (by simp)]; rfl, fun c e u w => by simp only [eqGuard, SV.den]; split <;> rfl, rfl, rfl⟩)
    | (rename_i hu
       obtain ⟨v, hv, hd⟩ := den_sl _ _ _ _ _ _ _
       refine ⟨_, h, fun w => ?_, fun c e u w => ?_, ?_, ?_⟩
       · rw [hv]; simp only [SV.den]; rw [run_eq_slice hu _ _ _ _ _ _ (by simp)]; rw [hd]; simp
       · rw [hv]; simp only [eqGuard, SV.den]; split <;> rfl
       · rw [hv]; rfl
       · rw [hv]; rfl)

theorem foldl_bytes : ∀ (bs acc : List UInt8), (bs.map fun c => ((c.toNat : Nat) : Int)).foldl (fun r n => ByteArray.push r (UInt8.ofNat n.toNat)) ⟨acc.toArray⟩ = ⟨(acc ++ bs).toArray⟩
  | [], acc => by simp
  | b :: bs, acc => by
    simp only [List.map_cons, List.foldl_cons, Int.toNat_natCast, UInt8.ofNat_toNat]
    have : ByteArray.push ⟨acc.toArray⟩ b = ⟨(acc ++ [b]).toArray⟩ := by
      apply ByteArray.ext; simp [ByteArray.push]
    rw [this, foldl_bytes bs (acc ++ [b])]
    simp

theorem run_bytes {P : Program} {w : World} {b : Bs} {off l c : Nat} {cs : List SV} (h : Reads w b cs) {bs : List UInt8} (hl : bs.length = l) (hbs : (cs.drop off).take l = bs.map (fun c => SV.int .u8 c.toNat)) :
    (Conv.bytesToString (.slice (some ⟨b.n, b.o + off, none⟩) l c)).run P w = .ok (.string ⟨bs.toArray⟩) w := by
  have hle : l = 0 ∨ off + l ≤ cs.length := by
    have := congrArg List.length hbs
    simp at this
    omega
  have hload : (loadCells ⟨b.n, b.o + off, none⟩ l).run P w = .ok ((bs.map fun c => ((c.toNat : Nat) : Int)).map (Value.int .u8)).toArray w := by
    unfold loadCells
    rcases hle with rfl | hle
    · have : bs = [] := List.length_eq_zero_iff.1 hl
      subst this
      simp [loadCellsFrom, Sem.run]
    · rw [run_loadCells h l 0 #[] (by omega)]
      rw [Nat.add_zero, hbs, denL_eq]
      simp [Function.comp_def, SV.den]
  rw [run_bytesToString w _ l c _ hload]
  have := foldl_bytes bs []
  simp only [List.nil_append] at this
  exact congrArg (fun s => Result.ok (Value.string s) w) this

theorem map_ofFn (e : Operand → SV) (xs : Array Operand) : xs.map (fun x => (e x).den) = (denL (xs.toList.map e)).toArray := by
  apply Array.ext'
  simp [denL_eq]

/-- Does what it yields hang on memory? -/
def memRd : Op → Bool
  | .load .. | .convert .. => true
  | _ => false

theorem rdOp_run {P : Program} {o : Oper} {e : Operand → SV} {H : SH} {K : SV → Prop} {w0 : World} (hw0 : HSat w0 H) (h : rdOp P o.op e H K) :
    ∃ v, K v ∧ ∀ w, (HSat w H ∨ memRd o.op = false) → (execOp (fun x => (e x).den) o).run P w = .ok (.value v.den) w := by
  obtain ⟨dst, op, ty, pos, after, guard⟩ := o
  simp only at h
  have fin : ∀ {s : Sem Value} {v : SV} {w : World}, s.run P w = .ok v.den w → ((do pure (.value (← s)) : Sem Next)).run P w = .ok (.value v.den) w := fun hr => by
    rw [bind_run' hr]; rfl
  cases op with
  | move x => simp only [rdOp, forceV_eq] at h; exact ⟨_, h, fun w _ => rfl⟩
  | pick c a b =>
    simp only [rdOp, pickK, forceV_eq] at h
    split at h <;> try exact h.elim
    rename_i t hc
    cases t
    · exact ⟨_, h.2 rfl, fun w _ => by simp [execOp, hc, SV.den, asBool, Sem.run]⟩
    · exact ⟨_, h.1 rfl, fun w _ => by simp [execOp, hc, SV.den, asBool, Sem.run]⟩
  | nilCheck x =>
    simp only [rdOp, nilK] at h
    split at h <;> try exact h.elim
    · rename_i hx; exact ⟨_, h, fun w _ => by simp [execOp, hx, SV.den, Sem.run]⟩
    · rename_i hx; exact ⟨_, h, fun w _ => by simp [execOp, hx, SV.den, Sem.run]⟩
  | binOp op t x y yt =>
    simp only [rdOp] at h
    split at h
    · rename_i k a hx
      obtain ⟨v, hk, r⟩ := binK_run (P := P) (t := t) h
      refine ⟨v, hk, fun w _ => fin ?_⟩
      simp only [hx]
      refine (bind_run' (a := ()) (w' := w) ?_).trans (r w)
      simp only [SV.den, eqGuard]
      split <;> rfl
    · rename_i a hx
      obtain ⟨v, hk, r⟩ := binK_run (P := P) (t := t) h
      refine ⟨v, hk, fun w _ => fin ?_⟩
      simp only [hx]
      refine (bind_run' (a := ()) (w' := w) ?_).trans (r w)
      simp only [SV.den, eqGuard]
      split <;> rfl
    · split at h <;> try exact h.elim
      · obtain ⟨b, hk, r, g, e1, e2⟩ := eqK_run h
        refine ⟨_, hk, fun w _ => fin ?_⟩
        refine (bind_run' (g _ _ _ w)).trans ?_
        rw [e1]
        exact (bind_run' (r w)).trans rfl
      · obtain ⟨b, hk, r, g, e1, e2⟩ := eqK_run h
        refine ⟨_, hk, fun w _ => fin ?_⟩
        refine (bind_run' (g _ _ _ w)).trans ?_
        rw [e2]
        exact (bind_run' (r w)).trans rfl
  | unOp op t x =>
    simp only [rdOp, unK] at h
    split at h <;> try exact h.elim
    all_goals first
      | (rename_i hx; exact ⟨_, h, fun w _ => fin (by simp [hx, SV.den, Op.unary, Op.intArith, Op.intBits, ibits, Sem.run])⟩)
      | (rename_i hx; exact ⟨_, fitK_eq h, fun w _ => fin (by simp [hx, SV.den, Op.unary, Op.intArith, Op.intBits, ibits, Sem.run])⟩)
  | convert s d x =>
    simp only [rdOp, convK] at h
    split at h <;> try exact h.elim
    · rename_i k' k k2 n hs hd hx
      exact ⟨_, fitK_eq h, fun w _ => fin (by simp [hx, SV.den, convert, Sem.run_bind, run_underlying hs, run_underlying hd, Result.andThen, Conv.intToInt, Sem.run])⟩
    · rename_i s' hs hd hx
      exact ⟨_, h, fun w _ => fin (by simp [hx, SV.den, convert, Sem.run_bind, run_underlying hs, run_underlying hd, Result.andThen, Sem.run])⟩
    · rename_i el hs hd hx
      split at h <;> try exact h.elim
      rename_i he
      exact ⟨_, h, fun w _ => fin (by simp [hx, SV.den, convert, Sem.run_bind, run_underlying hs, run_underlying hd, run_underlying he, Result.andThen, Conv.bytesToString, Sem.run]; rfl)⟩
    · rename_i el i z b wd j l c hs hd hx
      split at h <;> try exact h.elim
      rename_i he
      split at h <;> try exact h.elim
      rename_i b' bk hi
      obtain ⟨rfl, bs, hl, hbs, hk⟩ := h
      refine ⟨_, hk, fun w hw => fin ?_⟩
      have hE := (hw.resolve_right (by simp [memRd])).reads hi
      simp only [hx, SV.den]
      cases hz : nilB z l c with
      | false =>
        simp only [cond_false]
        rw [run_convert_bytes_string w s d el _ _ _ hs he hd]
        exact run_bytes hE hl hbs
      | true =>
        obtain ⟨rfl, rfl, rfl⟩ := nilB_true hz
        obtain rfl := List.length_eq_zero_iff.1 hl
        cases hq : b'.e.a with
        | none => simp [convert, hq, Sem.run_bind, run_underlying hs, run_underlying hd, run_underlying he, Result.andThen, Conv.bytesToString, Sem.run]; rfl
        | some q => simp [convert, hq, Sem.run_bind, run_underlying hs, run_underlying hd, run_underlying he, Result.andThen, Conv.bytesToString, loadCells, loadCellsFrom, Sem.run]; rfl
    · rename_i t i b wd j f hs hd hx
      split at h <;> try exact h.elim
      rename_i b' bk hi
      obtain ⟨rfl, hfam, h⟩ := h
      split at h <;> try exact h.elim
      rename_i sz hsz
      split at h <;> try exact h.elim
      rename_i u hu
      refine ⟨_, h, fun w hw => fin ?_⟩
      have hc := (hw.resolve_right (by simp [memRd])).cell hi hu
      rw [← Nat.add_assoc] at hc
      simp only [hx, SV.den]
      refine run_convert_to_unsafe hs hd ?_ hc
      obtain ⟨inf, h1, h2⟩ := underlying_of_info hsz
      rw [h1]
      simp [h2]
  | fieldAddr t x f => obtain ⟨v, hk, r⟩ := fldK_run h; exact ⟨v, hk, fun w _ => fin (r w)⟩
  | field t x f => obtain ⟨v, hk, r⟩ := fieldK_run h; exact ⟨v, hk, fun w _ => fin (r w)⟩
  | indexAddr t x i => obtain ⟨v, hk, r⟩ := idxK_run h; exact ⟨v, hk, fun w _ => fin (r w)⟩
  | index t x i => obtain ⟨v, hk, r⟩ := indexK_run h; exact ⟨v, hk, fun w _ => fin (r w)⟩
  | load t a => obtain ⟨v, hk, r⟩ := ldK_run hw0 h; exact ⟨v, hk, fun w hw => fin (r w (hw.resolve_right (by simp [memRd])))⟩
  | slice t x lo hi mx =>
    obtain ⟨v, hk, r⟩ := sliceK_run h
    refine ⟨v, hk, fun w _ => fin ?_⟩
    have := r w
    simp only [Option.map_map] at this
    exact this
  | build t ps =>
    obtain ⟨v, hk, r⟩ := buildK_run h
    refine ⟨v, hk, fun w _ => fin ?_⟩
    have := r w
    simp only [List.map_map] at this
    rw [← this]
    congr 2
    apply Array.ext'
    simp
  | extract t i =>
    simp only [rdOp, forceV_eq] at h
    split at h <;> try exact h.elim
    rename_i vs hx
    split at h <;> try exact h.elim
    rename_i v hv
    refine ⟨v, h, fun w _ => fin ?_⟩
    simp [hx, SV.den, Instr.extract, denL_getElem?, hv, Sem.run]
  | makeFunc fn fs cs =>
    simp only [rdOp, forceL_eq] at h
    refine ⟨_, h, fun w _ => fin ?_⟩
    simp only [Instr.makeFunc, map_ofFn, SV.den, Sem.run_pure]
  | call c =>
    obtain ⟨callee, args, argTypes⟩ := c
    simp only [rdOp] at h
    have hargs := map_ofFn e args
    split at h <;> try exact h.elim
    · split at h <;> try exact h.elim
      rename_i x t ts ha ht
      have hargs' : args.map (fun x => (e x).den) = #[(e x).den] := by rw [hargs, ha]; simp [denL]
      obtain rfl : argTypes = (t :: ts).toArray := by apply Array.ext'; simpa using ht
      simp only [execOp, resolve, hargs', invoke, builtin, Builtin.len_]
      have h0 : (#[(e x).den] : Array Value)[0]? = some (e x).den := rfl
      have h1 : ((t :: ts).toArray)[0]? = some t := rfl
      simp only [pure_bind, h0, h1]
      unfold lenK at h
      split at h <;> try exact h.elim
      · rename_i s hu hx
        have hsz : (ByteArray.mk s.toArray).size = s.length := rfl
        exact ⟨_, h, fun w _ => by simp only [hx, SV.den, Sem.run_bind, run_underlying hu, Result.andThen, goInt, hsz, Sem.run_pure]⟩
      · rename_i el hu hx
        exact ⟨_, h, fun w _ => by simp [hx, SV.den, Sem.run_bind, run_underlying hu, Result.andThen, goInt]⟩
      · rename_i el i z b wd j l cc hu hx
        refine ⟨_, h, fun w _ => ?_⟩
        simp only [hx, SV.den]
        cases hz : nilB z l cc with
        | false => simp [SV.den, Sem.run_bind, run_underlying hu, Result.andThen, goInt]
        | true =>
          obtain ⟨rfl, rfl, rfl⟩ := nilB_true hz
          simp [SV.den, Sem.run_bind, run_underlying hu, Result.andThen, goInt]
      · rename_i n el hu
        exact ⟨_, h, fun w _ => by simp [SV.den, Sem.run_bind, run_underlying hu, Result.andThen, goInt]⟩
      · rename_i a hu
        split at h <;> try exact h.elim
        rename_i n el ha
        exact ⟨_, h, fun w _ => by simp [SV.den, Sem.run_bind, run_underlying hu, run_underlying ha, Result.andThen, goInt]⟩
    all_goals
      simp only [execOp, resolve, hargs, invoke, builtin, Builtin.min_, Builtin.max_]
      unfold mmK at h
      split at h <;> try exact h.elim
      · rename_i k a k' b hx
        refine ⟨_, h, fun w _ => ?_⟩
        simp only [pure_bind, hx, denL, SV.den, List.foldlM_cons, List.foldlM_nil, Builtin.min2, Builtin.max2, Sem.run_bind, Sem.run_pure, Result.andThen]
        congr 3
        split <;> omega
      · rename_i k a k' b k'' c' hx
        refine ⟨_, h, fun w _ => ?_⟩
        simp only [pure_bind, hx, denL, SV.den, List.foldlM_cons, List.foldlM_nil, Builtin.min2, Builtin.max2, Sem.run_bind, Sem.run_pure, Result.andThen]
        congr 3
        split <;> split <;> omega
  | _ => exact h.elim
end Go.Sy

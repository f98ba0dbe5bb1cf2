/- SY, part B: what one operation does, as a proposition over symbolic values; that it tells the truth of the model. Own work. -/
import Derived.Test.YthimgonpkhoodaaSyA
namespace Go.Sy
open Go.RowKit
set_option linter.unusedVariables false
set_option linter.unusedSimpArgs false

/-! ### values of the program's text -/
def ofVal1 : Value → SV
  | .bool b => .bool b
  | .int k n => .int k n
  | .string s => .str s.data.toList
  | .pointer none => .nilp
  | .slice none 0 0 => .nils
  | .nilIface => .nifc
  | v => .raw v
def ofVal : Value → SV
  | .agg cs => .agg (cs.toList.map ofVal1)
  | v => ofVal1 v
theorem ofVal1_den (v : Value) : (ofVal1 v).den = v := by
  unfold ofVal1; split <;> simp [SV.den]
theorem ofVal_den (v : Value) : (ofVal v).den = v := by
  unfold ofVal; split
  · simp only [SV.den, denL_eq, List.map_map]
    rename_i cs
    have : (SV.den ∘ ofVal1) = id := funext ofVal1_den
    simp [this]
  · exact ofVal1_den _

def ev (ts : List SV) : Operand → SV
  | .tmp t => ts.getD t (.raw undef)
  | .const v => ofVal v
  | .global g => .raw (.pointer (some ⟨g, 0, none⟩))
  | .func f => .clo (.func f) [] []

def act (ts : List SV) : Act := ⟨(denL ts).toArray, []⟩

theorem ev_den (ts : List SV) (x : Operand) : (ev ts x).den = (act ts).eval x := by
  cases x <;> simp [ev, act, Act.eval, ofVal_den, SV.den, denL]
  rename_i t
  simp only [denL_eq, List.getElem?_map]
  cases ts[t]? <;> simp [SV.den]

/-! ### words that make a reckoning go on with what is written out -/
def forceV (v : SV) (k : SV → Prop) : Prop :=
  match v with
  | .bool b => k (.bool b)
  | .int i n => k (.int i n)
  | .str s => k (.str s)
  | .nilp => k .nilp
  | .ptr i b w j f => k (.ptr i b w j f)
  | .nils => k .nils
  | .sl i z b w j l c => k (.sl i z b w j l c)
  | .mp i b => k (.mp i b)
  | .agg cs => k (.agg cs)
  | .tup vs => k (.tup vs)
  | .clo fn fs cs => k (.clo fn fs cs)
  | .ifc t v => k (.ifc t v)
  | .nifc => k .nifc
  | .raw v => k (.raw v)
theorem forceV_eq (v : SV) (k : SV → Prop) : forceV v k = k v := by cases v <;> rfl

def natK (n : Nat) (k : Nat → Prop) : Prop := match n with
  | 0 => k 0
  | m + 1 => k (m + 1)
theorem natK_eq (n : Nat) (k : Nat → Prop) : natK n k = k n := by cases n <;> rfl

def forceL (l : List SV) : (List SV → Prop) → Prop :=
  List.rec (motive := fun _ => (List SV → Prop) → Prop) (fun k => k []) (fun v _ ih k => forceV v fun v => ih fun vs => k (v :: vs)) l
theorem forceL_eq (l : List SV) (k : List SV → Prop) : forceL l k = k l := by
  induction l generalizing k with
  | nil => rfl
  | cons v vs ih => show (forceV v fun v => forceL vs fun vs => k (v :: vs)) = _; rw [forceV_eq, ih]

def setK (l : List SV) : Nat → SV → (List SV → Prop) → Prop :=
  List.rec (motive := fun _ => Nat → SV → (List SV → Prop) → Prop) (fun _ _ k => k []) (fun u vs ih d v k => match d with
    | 0 => k (v :: vs)
    | d + 1 => ih d v fun vs => k (u :: vs)) l
theorem setK_eq (l : List SV) (d : Nat) (v : SV) (k : List SV → Prop) : setK l d v k = k (l.set d v) := by
  induction l generalizing d k with
  | nil => rfl
  | cons u vs ih =>
    cases d with
    | zero => rfl
    | succ d => show (setK vs d v fun vs => k (u :: vs)) = _; rw [ih]; rfl

def setManyK (cs : List SV) (n : Nat) (vs : List SV) (k : List SV → Prop) : Prop :=
  List.rec (motive := fun _ => List SV → Nat → (List SV → Prop) → Prop) (fun cs _ k => k cs) (fun v _ ih cs n k => forceV v fun v => setK cs n v fun cs => ih cs (n + 1) k) vs cs n k
theorem setManyK_eq (vs cs : List SV) (n : Nat) (k : List SV → Prop) : setManyK cs n vs k = k (setMany cs n vs) := by
  induction vs generalizing cs n with
  | nil => rfl
  | cons v vs ih => show (forceV v fun v => setK cs n v fun cs => setManyK cs (n + 1) vs k) = _; rw [forceV_eq, setK_eq, ih]; rfl

def setHK (l : SH) : Nat → Bs × Blk → (SH → Prop) → Prop :=
  List.rec (motive := fun _ => Nat → Bs × Blk → (SH → Prop) → Prop) (fun _ _ k => k []) (fun u vs ih d v k => match d with
    | 0 => k (v :: vs)
    | d + 1 => ih d v fun vs => k (u :: vs)) l
theorem setHK_eq (l : SH) (d : Nat) (v : Bs × Blk) (k : SH → Prop) : setHK l d v k = k (l.set d v) := by
  induction l generalizing d k with
  | nil => rfl
  | cons u vs ih =>
    cases d with
    | zero => rfl
    | succ d => show (setHK vs d v fun vs => k (u :: vs)) = _; rw [ih]; rfl

def cellsOf : SV → List SV
  | .agg cs => cs
  | v => [v]
theorem cellsOf_den (v : SV) (h : ∀ w, v ≠ .raw w) : (denL (cellsOf v)) = v.den.cells.toList := by
  cases v with
  | raw x => exact absurd rfl (h _)
  | sl i z b w j l c => simp only [cellsOf, SV.den, denL]; cases nilB z l c <;> rfl
  | _ => simp [cellsOf, SV.den, Value.cells, denL]

/-! ### integers, strings -/
def ibits (op : BinOp) (k : IntKind) (x y : Int) : Int :=
  let a := BitVec.ofInt k.bits x
  let b := BitVec.ofInt k.bits y
  k.wrap (match op with
    | .and => (a &&& b).toNat
    | .or => (a ||| b).toNat
    | .xor => (a ^^^ b).toNat
    | _ => (a &&& ~~~b).toNat : Nat)

/-- Either a fact is at hand, and things are plain; or they are as they are. -/
inductive Fit (p A B : Prop) : Prop where
  | yes (h : p) (a : A)
  | no (b : B)
theorem Fit.elim {p A B C : Prop} (h : Fit p A B) (f : p → A → C) (g : B → C) : C := by cases h with
  | yes h a => exact f h a
  | no b => exact g b

/-- A number that may have to be wrapped. -/
def fitK (k : IntKind) (n : Int) (K : SV → Prop) : Prop :=
  match k with
  | .i64 => Fit (-9223372036854775808 ≤ n ∧ n ≤ 9223372036854775807) (K (.int .i64 n)) (K (.int .i64 (IntKind.i64.wrap n)))
  | .i32 => Fit (-2147483648 ≤ n ∧ n ≤ 2147483647) (K (.int .i32 n)) (K (.int .i32 (IntKind.i32.wrap n)))
  | .i16 => K (.int .i16 (IntKind.i16.wrap n))
  | .i8 => K (.int .i8 (IntKind.i8.wrap n))
  | .u8 => Fit (0 ≤ n ∧ n ≤ 255) (K (.int .u8 n)) (K (.int .u8 (IntKind.u8.wrap n)))
  | .u16 => K (.int .u16 (IntKind.u16.wrap n))
  | .u32 => Fit (0 ≤ n ∧ n ≤ 4294967295) (K (.int .u32 n)) (K (.int .u32 (IntKind.u32.wrap n)))
  | .u64 => Fit (0 ≤ n ∧ n ≤ 18446744073709551615) (K (.int .u64 n)) (K (.int .u64 (IntKind.u64.wrap n)))
theorem wrap_i64 {n : Int} (h : -9223372036854775808 ≤ n ∧ n ≤ 9223372036854775807) : IntKind.i64.wrap n = n := by
  simp [IntKind.wrap, IntKind.bits, IntKind.signed]; omega
theorem wrap_i32 {n : Int} (h : -2147483648 ≤ n ∧ n ≤ 2147483647) : IntKind.i32.wrap n = n := by
  simp [IntKind.wrap, IntKind.bits, IntKind.signed]; omega
theorem wrap_u8 {n : Int} (h : 0 ≤ n ∧ n ≤ 255) : IntKind.u8.wrap n = n := by
  simp [IntKind.wrap, IntKind.bits, IntKind.signed]; omega
theorem wrap_u32 {n : Int} (h : 0 ≤ n ∧ n ≤ 4294967295) : IntKind.u32.wrap n = n := by
  simp [IntKind.wrap, IntKind.bits, IntKind.signed]; omega
theorem wrap_u64 {n : Int} (h : 0 ≤ n ∧ n ≤ 18446744073709551615) : IntKind.u64.wrap n = n := by
  simp [IntKind.wrap, IntKind.bits, IntKind.signed]; omega
theorem fitK_eq {k : IntKind} {n : Int} {K : SV → Prop} (h : fitK k n K) : K (.int k (k.wrap n)) := by
  cases k <;> simp only [fitK] at h
  all_goals first
    | exact h
    | exact h.elim (fun h a => by rw [wrap_i64 h]; exact a) id
    | exact h.elim (fun h a => by rw [wrap_i32 h]; exact a) id
    | exact h.elim (fun h a => by rw [wrap_u8 h]; exact a) id
    | exact h.elim (fun h a => by rw [wrap_u32 h]; exact a) id
    | exact h.elim (fun h a => by rw [wrap_u64 h]; exact a) id
/-- The greatest of a kind. -/
def hiK (k : IntKind) (K : Int → Prop) : Prop := match k with
  | .i64 => K 9223372036854775807
  | .i32 => K 2147483647
  | .i16 => K 32767
  | .i8 => K 127
  | .u8 => K 255
  | .u16 => K 65535
  | .u32 => K 4294967295
  | .u64 => K 18446744073709551615
theorem hiK_eq (k : IntKind) (K : Int → Prop) : hiK k K = K k.max := by cases k <;> rfl

def binK (op : BinOp) (x y : SV) (K : SV → Prop) : Prop :=
  match x, y with
  | .int k a, .int k' b =>
    match op with
    | .shl => 0 ≤ b ∧ fitK k (a * 2 ^ min b.toNat k.bits) K
    | .shr => 0 ≤ b ∧ K (.int k (a.fdiv (2 ^ min b.toNat k.bits)))
    | .add => k = k' ∧ fitK k (a + b) K
    | .sub => k = k' ∧ fitK k (a - b) K
    | .mul => k = k' ∧ fitK k (a * b) K
    | .quo => k = k' ∧ b ≠ 0 ∧ hiK k fun hi => Fit (0 ≤ a ∧ 0 ≤ b ∧ a ≤ hi) (K (.int k (a / b))) (K (.int k (k.wrap (a.tdiv b))))
    | .rem => k = k' ∧ b ≠ 0 ∧ Fit (0 ≤ a) (K (.int k (a % b))) (K (.int k (a.tmod b)))
    | .and => k = k' ∧ K (.int k (ibits .and k a b))
    | .or => k = k' ∧ K (.int k (ibits .or k a b))
    | .xor => k = k' ∧ K (.int k (ibits .xor k a b))
    | .andNot => k = k' ∧ K (.int k (ibits .andNot k a b))
    | .eql => k = k' ∧ K (.bool (decide (a = b)))
    | .neq => k = k' ∧ K (.bool (!decide (a = b)))
    | .lss => k = k' ∧ K (.bool (decide (a < b)))
    | .leq => k = k' ∧ K (.bool (decide (a ≤ b)))
    | .gtr => k = k' ∧ K (.bool (decide (b < a)))
    | .geq => k = k' ∧ K (.bool (decide (b ≤ a)))
  | .str a, .str b =>
    match op with
    | .add => a.length + b.length ≤ 9223372036854775807 ∧ K (.str (a ++ b))
    | .eql => K (.bool (decide (a = b)))
    | .neq => K (.bool (!decide (a = b)))
    | .lss => K (.bool (Op.bytesLess a b))
    | .gtr => K (.bool (!(Op.bytesLess a b || decide (a = b))))
    | .leq => K (.bool (Op.bytesLess a b || decide (a = b)))
    | .geq => K (.bool (!(Op.bytesLess a b)))
    | _ => False
  | _, _ => False

theorem i64max : IntKind.max .i64 = 9223372036854775807 := by decide

theorem beq_dec {α : Type} [BEq α] [LawfulBEq α] [DecidableEq α] (a b : α) : (a == b) = decide (a = b) := by
  by_cases h : a = b
  · subst h; simp
  · rw [decide_eq_false h]; exact beq_false_of_ne h
theorem bytes_append (a b : List UInt8) : (ByteArray.mk a.toArray ++ ByteArray.mk b.toArray) = ByteArray.mk (a ++ b).toArray := by
  apply ByteArray.ext; simp

theorem wrap_max {k : IntKind} {n : Int} (h0 : 0 ≤ n) (h : n ≤ k.max) : k.wrap n = n := by
  cases k <;> simp [IntKind.wrap, IntKind.bits, IntKind.signed, IntKind.max] at * <;> omega
theorem quo_fit {k : IntKind} {a b : Int} (h0 : 0 ≤ a) (hb : 0 ≤ b) (h : a ≤ k.max) : k.wrap (a.tdiv b) = a / b := by
  rw [Int.tdiv_eq_ediv_of_nonneg h0]
  exact wrap_max (Int.ediv_nonneg h0 hb) (Int.le_trans (Int.ediv_le_self _ h0) h)

theorem binK_run {P : Program} {op : BinOp} {t : TypeId} {x y : SV} {K : SV → Prop} (h : binK op x y K) :
    ∃ v, K v ∧ ∀ w, (binOp op t x.den y.den).run P w = .ok v.den w := by
  unfold binK at h
  split at h
  · rename_i k a k' b
    cases op <;> simp only at h
    all_goals first
      | (obtain ⟨rfl, h⟩ := h
         exact ⟨_, fitK_eq h, fun w => by simp [SV.den, binOp, Op.intArith, Op.intCmp, Op.intBits, ibits, Sem.run, GT.gt, GE.ge, bne, beq_dec]⟩)
      | (obtain ⟨h0, h⟩ := h; exact ⟨_, fitK_eq h, fun w => by simp [SV.den, binOp, Op.shift, Int.not_lt.2 h0, Sem.run]⟩)
      | (obtain ⟨rfl, h0, h⟩ := h
         rw [hiK_eq] at h
         refine ⟨.int k (k.wrap (a.tdiv b)), h.elim (fun hp ha => by rw [quo_fit hp.1 hp.2.1 hp.2.2]; exact ha) id, fun w => by simp [SV.den, binOp, Op.intDiv, h0, Op.intCmp, Sem.run]⟩)
      | (obtain ⟨rfl, h0, h⟩ := h
         refine ⟨.int k (a.tmod b), h.elim (fun hp ha => by rw [Int.tmod_eq_emod_of_nonneg hp]; exact ha) id, fun w => by simp [SV.den, binOp, Op.intDiv, h0, Op.intCmp, Sem.run]⟩)
      | (obtain ⟨rfl, h⟩ := h
         exact ⟨_, h, fun w => by simp [SV.den, binOp, Op.intArith, Op.intCmp, Op.intBits, ibits, Sem.run, GT.gt, GE.ge, bne, beq_dec]⟩)
      | (obtain ⟨h0, h⟩ := h; exact ⟨_, h, fun w => by simp [SV.den, binOp, Op.shift, Int.not_lt.2 h0, Sem.run]⟩)
  · rename_i a b
    cases op <;> simp only at h
    all_goals first
      | exact h.elim
      | (with_reducible obtain ⟨h0, h⟩ := h
         refine ⟨_, h, fun w => ?_⟩
         have h1 : ¬ ((9223372036854775807 : Int) < (a.length : Int) + (b.length : Int)) := by omega
         simp only [SV.den, binOp, Op.stringOp, i64max, bytes_append]
         simp [h1, Sem.run, ByteArray.size])
      | exact ⟨_, h, fun w => by simp [SV.den, binOp, Op.stringOp, beq_dec, Sem.run]⟩
  · exact h.elim
end Go.Sy

/- SY, part N: bits of numbers. Own work. -/
import Derived.Test.YthimgonpkhoodaaSyK
namespace Go.Sy
set_option linter.unusedVariables false
set_option linter.unusedSimpArgs false

theorem shr_nat (k : IntKind) (u s : Nat) (h : s ≤ k.bits) : ((u : Int).fdiv (2 ^ min (Int.toNat (s : Int)) k.bits)) = ((u / 2 ^ s : Nat) : Int) := by
  rw [Int.toNat_natCast, Nat.min_eq_left h, Int.fdiv_eq_ediv_of_nonneg _ (by exact Int.pow_nonneg (by omega))]
  push_cast; rfl
theorem shr_lit (k : IntKind) (u : Nat) (s m : Nat) (h : min s k.bits = m) : ((u : Int).fdiv (2 ^ min (Int.toNat (s : Int)) k.bits)) = ((u / 2 ^ m : Nat) : Int) := by
  rw [Int.toNat_natCast, h, Int.fdiv_eq_ediv_of_nonneg _ (by exact Int.pow_nonneg (by omega))]
  push_cast; rfl

theorem bv_nat (w a : Nat) : (BitVec.ofInt w (a : Int)).toNat = a % 2 ^ w := by
  rw [BitVec.toNat_ofInt]
  rw [show ((a : Int) % ((2 ^ w : Nat) : Int)) = ((a % 2 ^ w : Nat) : Int) from rfl]
  exact Int.toNat_natCast _
def ubits : IntKind → Nat
  | .u8 => 8
  | .u16 => 16
  | .u32 => 32
  | .u64 => 64
  | _ => 0
theorem wrapU {k : IntKind} (hk : ubits k ≠ 0) {n : Nat} (h : n < 2 ^ ubits k) : k.wrap (n : Int) = n := by
  cases k <;> simp [ubits] at hk h <;> simp [IntKind.wrap, IntKind.bits, IntKind.signed] <;> omega
theorem wrapU_mod {k : IntKind} (hk : ubits k ≠ 0) (n : Nat) : k.wrap (n : Int) = ((n % 2 ^ ubits k : Nat) : Int) := by
  cases k <;> simp [ubits] at hk <;> simp [ubits, IntKind.wrap, IntKind.bits, IntKind.signed]
theorem bitsU {k : IntKind} (hk : ubits k ≠ 0) : k.bits = ubits k := by cases k <;> simp [ubits] at hk <;> rfl

theorem xor_nat {k : IntKind} (hk : ubits k ≠ 0) {a b : Nat} (ha : a < 2 ^ ubits k) (hb : b < 2 ^ ubits k) : ibits .xor k (a : Int) (b : Int) = ((a ^^^ b : Nat) : Int) := by
  unfold ibits
  show k.wrap (((BitVec.ofInt k.bits (a : Int) ^^^ BitVec.ofInt k.bits (b : Int) : BitVec k.bits).toNat : Nat) : Int) = _
  rw [BitVec.toNat_xor, bv_nat, bv_nat, bitsU hk, Nat.mod_eq_of_lt ha, Nat.mod_eq_of_lt hb]
  exact wrapU hk (Nat.xor_lt_two_pow ha hb)
theorem and_nat {k : IntKind} (hk : ubits k ≠ 0) {a b : Nat} (ha : a < 2 ^ ubits k) (hb : b < 2 ^ ubits k) : ibits .and k (a : Int) (b : Int) = ((a &&& b : Nat) : Int) := by
  unfold ibits
  show k.wrap (((BitVec.ofInt k.bits (a : Int) &&& BitVec.ofInt k.bits (b : Int) : BitVec k.bits).toNat : Nat) : Int) = _
  rw [BitVec.toNat_and, bv_nat, bv_nat, bitsU hk, Nat.mod_eq_of_lt ha, Nat.mod_eq_of_lt hb]
  exact wrapU hk (Nat.and_lt_two_pow _ hb)
theorem or_nat {k : IntKind} (hk : ubits k ≠ 0) {a b : Nat} (ha : a < 2 ^ ubits k) (hb : b < 2 ^ ubits k) : ibits .or k (a : Int) (b : Int) = ((a ||| b : Nat) : Int) := by
  unfold ibits
  show k.wrap (((BitVec.ofInt k.bits (a : Int) ||| BitVec.ofInt k.bits (b : Int) : BitVec k.bits).toNat : Nat) : Int) = _
  rw [BitVec.toNat_or, bv_nat, bv_nat, bitsU hk, Nat.mod_eq_of_lt ha, Nat.mod_eq_of_lt hb]
  exact wrapU hk (Nat.or_lt_two_pow ha hb)
theorem andNot_nat {k : IntKind} (hk : ubits k ≠ 0) {a b : Nat} (ha : a < 2 ^ ubits k) (hb : b < 2 ^ ubits k) : ibits .andNot k (a : Int) (b : Int) = ((a &&& (2 ^ ubits k - 1 - b) : Nat) : Int) := by
  unfold ibits
  show k.wrap (((BitVec.ofInt k.bits (a : Int) &&& ~~~BitVec.ofInt k.bits (b : Int) : BitVec k.bits).toNat : Nat) : Int) = _
  rw [BitVec.toNat_and, BitVec.toNat_not, bv_nat, bv_nat, bitsU hk, Nat.mod_eq_of_lt ha, Nat.mod_eq_of_lt hb]
  exact wrapU hk (Nat.lt_of_le_of_lt Nat.and_le_left ha)
theorem xor_ones (w : Nat) {a : Nat} (h : a < 2 ^ w) : a ^^^ (2 ^ w - 1) = 2 ^ w - 1 - a := by
  have e : ∀ (x : BitVec w), (x ^^^ BitVec.allOnes w).toNat = 2 ^ w - 1 - x.toNat := fun x => by
    rw [BitVec.xor_allOnes, BitVec.toNat_not]
  have := e (BitVec.ofNat w a)
  rw [BitVec.toNat_xor, BitVec.toNat_allOnes, BitVec.toNat_ofNat, Nat.mod_eq_of_lt h] at this
  exact this
theorem kto {K : SV → SH → Prop} {r r' : SV} {H H' : SH} (h : K r H) (e1 : r' = r) (e2 : H' = H) : K r' H' := by rw [e1, e2]; exact h
theorem kint {K : SV → SH → Prop} {k : IntKind} {a b : Int} {H : SH} (h : K (.int k a) H) (e : b = a) : K (.int k b) H := by rw [e]; exact h
theorem den_slL {i i' : Nat} {z : Bool} {b : Bs} {w j l l' c : Nat} (h : l = l') : (SV.sl i z b w j l c).den = (SV.sl i' z b w j l' c).den := by rw [h]; rfl
theorem den_intE {k : IntKind} {a b : Int} (h : a = b) : (SV.int k a).den = (SV.int k b).den := by rw [h]
theorem Retell.eqv {b : Bs} {z : Bool} {c : Nat} {α : Type} {enc : α → List SV} {w : Nat} {l l' : List α} (h : l = l') : Retell (b, .vec z c enc w l) (b, .vec z c enc w l') := by subst h; exact Retell.refl _
/-- Its end told anew: what is left over is let go. -/
theorem FnOb.tidy {P : Program} {f : FuncId} {args : List SV} {H : SH} {K : SV → SH → Prop} (h : FnOb P f args H fun r H' => ∃ r' H'', SV.den r' = SV.den r ∧ Tells H' H'' ∧ K r' H'') : FnOb P f args H K := h.retell fun _ _ h => h
theorem one_flat {α : Type} {enc : α → List SV} (h : ∀ x, (enc x).all SV.one = true) (l : List α) : (l.flatMap enc).all SV.one = true := by
  rw [List.all_flatMap]; simp [h]
/-- What the walk's conditions are brought to, and what a length is: in one piece each, as a walk names them often. -/
theorem nf : (∀ (p : Prop) [Decidable p], (decide p = true) = p) ∧ (∀ (p : Prop) [Decidable p], (decide p = false) = ¬ p) ∧ (∀ b : Bool, ((!b) = true) = (b = false)) ∧ (∀ b : Bool, ((!b) = false) = (b = true)) ∧
    (∀ b : Bool, (¬ b = true) = (b = false)) ∧ (∀ b : Bool, (¬ b = false) = (b = true)) ∧ (∀ a b : Bool, ((a || b) = true) = (a = true ∨ b = true)) ∧ (∀ a b : Bool, ((a || b) = false) = (a = false ∧ b = false)) ∧
    (∀ a b : Bool, ((a && b) = true) = (a = true ∧ b = true)) ∧ (∀ a b : Bool, ((a && b) = false) = (a = false ∨ b = false)) ∧ (∀ p : Prop, (¬¬ p) = p) ∧
    (∀ a b : Int, (¬ a < b) = (b ≤ a)) ∧ (∀ a b : Int, (¬ a ≤ b) = (b < a)) ∧ (∀ a b : Nat, (¬ a < b) = (b ≤ a)) ∧ (∀ a b : Nat, (¬ a ≤ b) = (b < a)) ∧ ((¬ True) = False) ∧ ((¬ False) = True) ∧
    (∀ p : Prop, (p ∨ p) = p) ∧ (∀ p : Prop, (p ∨ False) = p) ∧ (∀ p : Prop, (False ∨ p) = p) ∧ (∀ p : Prop, (p ∨ True) = True) ∧ (∀ p : Prop, (True ∨ p) = True) ∧
    (∀ p : Prop, (p ∧ True) = p) ∧ (∀ p : Prop, (True ∧ p) = p) ∧ (∀ p : Prop, (p ∧ False) = False) ∧ (∀ p : Prop, (False ∧ p) = False) ∧ (∀ p : Prop, (p ∧ p) = p) := by
  refine ⟨fun p _ => decide_eq_true_eq, fun p _ => propext decide_eq_false_iff_not, by decide, by decide, by decide, by decide, by decide, by decide, by decide, by decide, fun p => propext Classical.not_not,
    fun a b => propext Int.not_lt, fun a b => propext Int.not_le, fun a b => propext Nat.not_lt, fun a b => propext Nat.not_le, not_true_eq_false, not_false_eq_true, or_self, or_false, false_or, or_true, true_or, and_true, true_and, and_false, false_and, and_self⟩
theorem lc : (∀ (α : Type) (a b : List α), (a ++ b).length = a.length + b.length) ∧ (∀ (α : Type) (x : α) (a : List α), (x :: a).length = a.length + 1) ∧ (∀ α : Type, ([] : List α).length = 0) ∧ (∀ (α : Type) (n : Nat) (x : α), (List.replicate n x).length = n) :=
  ⟨fun _ _ _ => List.length_append, fun _ _ _ => rfl, fun _ => rfl, fun _ _ _ => List.length_replicate⟩
theorem ll : (∀ (α : Type) (n : Nat) (a : List α), (a.take n).length = min n a.length) ∧ (∀ (α : Type) (n : Nat) (a : List α), (a.drop n).length = a.length - n) ∧ (∀ (α β : Type) (f : α → β) (a : List α), (a.map f).length = a.length) ∧
    (∀ (α : Type) (a : List α) (n : Nat) (x : α), (a.set n x).length = a.length) ∧ (∀ n : Nat, (n : Int).toNat = n) :=
  ⟨fun _ _ _ => List.length_take, fun _ _ _ => List.length_drop, fun _ _ _ _ => List.length_map .., fun _ _ _ _ => List.length_set, fun _ => Int.toNat_natCast _⟩
end Go.Sy

/- The pack's numbers, plain: a number as bytes. Own work. -/
import Derived.KernelRfl
namespace Go.Pk
set_option linter.unusedVariables false
set_option linter.unusedSimpArgs false

def zig (n : Int) : Nat := if n < 0 then (-2 * n - 1).toNat else (2 * n).toNat
def zag (u : Nat) : Int := if u % 2 = 1 then -((u / 2 : Nat) : Int) - 1 else ((u / 2 : Nat) : Int)
theorem zag_zig (n : Int) : zag (zig n) = n := by
  unfold zag zig; split <;> split <;> omega
theorem zig_zag (u : Nat) : zig (zag u) = u := by
  unfold zag zig; split <;> split <;> omega
theorem zig_lt {n : Int} (h0 : -9223372036854775808 ≤ n) (h1 : n ≤ 9223372036854775807) : zig n < 18446744073709551616 := by
  unfold zig; split <;> omega
theorem zag_bd {u : Nat} (h : u < 18446744073709551616) : -9223372036854775808 ≤ zag u ∧ zag u ≤ 9223372036854775807 := by
  unfold zag; split <;> omega

/-- The digits ahead, each with its mark. -/
def hi (u : Nat) : List UInt8 := if u = 0 then [] else hi (u / 128) ++ [UInt8.ofNat (u % 128 + 128)]
termination_by u
decreasing_by omega
/-- A number's bytes. -/
def num (u : Nat) : List UInt8 := hi (u / 128) ++ [UInt8.ofNat (u % 128)]
theorem hi_zero : hi 0 = [] := by unfold hi; simp
theorem hi_pos {u : Nat} (h : u ≠ 0) : hi u = hi (u / 128) ++ [UInt8.ofNat (u % 128 + 128)] := by
  conv => lhs; unfold hi
  rw [if_neg h]
theorem hi_len : ∀ (k u : Nat), u < 128 ^ k → (hi u).length ≤ k
  | 0, u, h => by
    have : u = 0 := by simpa using h
    subst this; rw [hi_zero]; simp
  | k + 1, u, h => by
    by_cases h0 : u = 0
    · subst h0; rw [hi_zero]; simp
    · rw [hi_pos h0]
      have := hi_len k (u / 128) (by rw [Nat.pow_succ] at h; exact Nat.div_lt_of_lt_mul (by rw [Nat.mul_comm]; exact h))
      simp; omega
theorem num_len {u : Nat} (h : u < 18446744073709551616) : (num u).length ≤ 10 := by
  have := hi_len 9 (u / 128) (by omega)
  unfold num; simp; omega
theorem num_pos (u : Nat) : num u ≠ [] := by unfold num; simp

/-- What reading a number yields: the number and what is left, or an error. -/
inductive Rd (α : Type) where
  | ok (a : α) (rest : List UInt8)
  | err (e : Int)

def rdN (first : Bool) (u : Nat) : List UInt8 → Rd Nat
  | [] => .err 11
  | c :: cs => if (first = true ∧ c.toNat = 128) ∨ 144115188075855872 ≤ u then .err 3 else
      if c.toNat < 128 then .ok (u * 128 + c.toNat % 128) cs else rdN false (u * 128 + c.toNat % 128) cs

theorem rdN_cons (f : Bool) (u : Nat) (c : UInt8) (cs : List UInt8) : rdN f u (c :: cs) = if (f = true ∧ c.toNat = 128) ∨ 144115188075855872 ≤ u then .err 3 else
      if c.toNat < 128 then .ok (u * 128 + c.toNat % 128) cs else rdN false (u * 128 + c.toNat % 128) cs := by rw [rdN]
theorem rdN_lt : ∀ (l : List UInt8) (f : Bool) (u : Nat) (v : Nat) (r : List UInt8), u < 18446744073709551616 → rdN f u l = .ok v r → v < 18446744073709551616 ∧ ∃ p, p ≠ [] ∧ l = p ++ r
  | [], f, u, v, r, _, h => by simp [rdN] at h
  | c :: cs, f, u, v, r, hu, h => by
    unfold rdN at h
    split at h
    · cases h
    · rename_i hc
      have hm : c.toNat % 128 < 128 := Nat.mod_lt _ (by omega)
      split at h
      · cases h
        exact ⟨by omega, [c], by simp, rfl⟩
      · obtain ⟨h1, p, _, h2⟩ := rdN_lt cs false _ v r (by omega) h
        exact ⟨h1, c :: p, by simp, by rw [h2]; rfl⟩

structure Itm where
  t : Bool
  n : Int
  s : List UInt8
  deriving DecidableEq

def may (x : Itm) : Bool := if x.t then decide (x.n = 0) else decide (x.s = [])
def one (x : Itm) : List UInt8 := if x.t then 2 :: (num (zig x.s.length) ++ x.s) else 1 :: num (zig x.n)
def allB (l : List Itm) : List UInt8 := l.flatMap one
def encR (l : List Itm) : List UInt8 × Int :=
  if 4096 < l.length then ([], 2) else if l.all may = false then ([], 4) else if 262144 < (allB l).length then ([], 2) else (allB l, 0)
/-- What an item of the program may hold. -/
def okI (x : Itm) : Prop := -9223372036854775808 ≤ x.n ∧ x.n ≤ 9223372036854775807 ∧ x.s.length ≤ 140737488351232

theorem take_succ_some {α : Type} {l : List α} {k : Nat} {x : α} (h : l[k]? = some x) : l.take (k + 1) = l.take k ++ [x] := by
  rw [List.take_add_one, h]; rfl
theorem allB_take_le (l : List Itm) (k : Nat) : (allB (l.take k)).length ≤ (allB l).length := by
  conv => rhs; rw [← List.take_append_drop k l]
  unfold allB
  rw [List.flatMap_append, List.length_append]; omega
theorem one_len {x : Itm} (h : okI x) : (one x).length ≤ 11 + x.s.length := by
  obtain ⟨h1, h2, h3⟩ := h
  unfold one
  split
  · have := num_len (u := zig x.s.length) (by unfold zig; split <;> omega)
    simp; omega
  · have := num_len (zig_lt h1 h2)
    simp; omega

def rdI : List UInt8 → Rd Itm
  | [] => .err 11
  | k :: r => if k.toNat ≠ 1 ∧ k.toNat ≠ 2 then .err 3 else
      match rdN true 0 r with
      | .err e => .err e
      | .ok u r' => if k.toNat = 1 then .ok ⟨false, zag u, []⟩ r' else
          if zag u < 0 ∨ 262144 < zag u then .err 3 else if (r'.length : Int) < zag u then .err 11 else .ok ⟨true, 0, r'.take (zag u).toNat⟩ (r'.drop (zag u).toNat)

def decF (len : Nat) : Nat → List UInt8 → List Itm → List Itm × Int × Int
  | 0, _, out => (out, 0, 0)
  | f + 1, l, out => if l = [] then (out, 0, 0) else if out.length = 4096 then ([], ((len - l.length : Nat) : Int), 2) else
      match rdI l with
      | .err e => ([], ((len - l.length : Nat) : Int), e)
      | .ok x r => decF len f r (out ++ [x])
def decR (s : List UInt8) : List Itm × Int × Int := if 262144 < s.length then ([], 0, 2) else decF s.length (s.length + 1) s []

theorem rdI_ok {l r : List UInt8} {x : Itm} (h : rdI l = .ok x r) : r.length < l.length ∧ okI x ∧ ∃ p, l = p ++ r := by
  cases l with
  | nil => cases h
  | cons k t =>
    rw [rdI] at h
    split at h
    · cases h
    · cases hr : rdN true 0 t with
      | err e => rw [hr] at h; cases h
      | ok u r' =>
        rw [hr] at h
        simp only at h
        obtain ⟨hu, p, hp, ht⟩ := rdN_lt t true 0 u r' (by omega) hr
        have hb := zag_bd hu
        have hlen := congrArg List.length ht
        have hpl := List.length_pos_iff.2 hp
        simp at hlen
        by_cases h1 : k.toNat = 1
        · rw [if_pos h1] at h
          simp only [Rd.ok.injEq] at h
          obtain ⟨rfl, rfl⟩ := h
          exact ⟨by simp; omega, ⟨hb.1, hb.2, by simp⟩, k :: p, by rw [ht]; rfl⟩
        · rw [if_neg h1] at h
          by_cases h2 : zag u < 0 ∨ 262144 < zag u
          · rw [if_pos h2] at h; cases h
          · rw [if_neg h2] at h
            by_cases h3 : (r'.length : Int) < zag u
            · rw [if_pos h3] at h; cases h
            · rw [if_neg h3] at h
              simp only [Rd.ok.injEq] at h
              obtain ⟨rfl, rfl⟩ := h
              refine ⟨by simp; omega, ⟨by simp, by simp, ?_⟩, k :: p ++ r'.take (zag u).toNat, ?_⟩
              · show (r'.take (zag u).toNat).length ≤ _
                rw [List.length_take]; omega
              · rw [ht, List.append_assoc, List.take_append_drop]; rfl
theorem rdN_err : ∀ (l : List UInt8) (f : Bool) (u : Nat) (e : Int), rdN f u l = .err e → e = 3 ∨ e = 11
  | [], f, u, e, h => by cases h; exact .inr rfl
  | c :: cs, f, u, e, h => by
    rw [rdN_cons] at h
    split at h
    · cases h; exact .inl rfl
    · split at h
      · cases h
      · exact rdN_err cs _ _ e h
theorem rdI_err {l : List UInt8} {e : Int} (h : rdI l = .err e) : e = 3 ∨ e = 11 := by
  cases l with
  | nil => cases h; exact .inr rfl
  | cons k t =>
    rw [rdI] at h
    split at h
    · cases h; exact .inl rfl
    · cases hr : rdN true 0 t with
      | err e' => rw [hr] at h; cases h; exact rdN_err _ _ _ _ hr
      | ok u r' =>
        rw [hr] at h
        simp only at h
        split at h
        · cases h
        · split at h
          · cases h; exact .inl rfl
          · split at h
            · cases h; exact .inr rfl
            · cases h
/-- With more rounds than there are bytes, one more round is nothing. -/
theorem decF_more (len : Nat) : ∀ (f : Nat) (l : List UInt8) (out : List Itm), l.length < f → decF len (f + 1) l out = decF len f l out
  | 0, l, out, h => by omega
  | f + 1, l, out, h => by
    rw [decF]
    conv => rhs; rw [decF]
    split
    · rfl
    · split
      · rfl
      · split
        · rfl
        · rename_i x r hr
          exact decF_more len f r _ (by have := (rdI_ok hr).1; omega)
/-- A round. -/
theorem decF_step {len f : Nat} {l : List UInt8} {out : List Itm} (h : l.length < f) : decF len f l out = if l = [] then (out, 0, 0) else if out.length = 4096 then ([], ((len - l.length : Nat) : Int), 2) else
      match rdI l with
      | .err e => ([], ((len - l.length : Nat) : Int), e)
      | .ok x r => decF len f r (out ++ [x]) := by
  obtain ⟨f, rfl⟩ : ∃ g, f = g + 1 := ⟨f - 1, by omega⟩
  conv => lhs; rw [decF]
  split
  · rfl
  · split
    · rfl
    · split
      · rfl
      · rename_i x r hr
        exact (decF_more len f r _ (by have := (rdI_ok hr).1; omega)).symm

/-! ### sums -/
def crcBit (s : Nat) : Nat := if s % 2 = 1 then (s / 2) ^^^ 2197175160 else s / 2
def crcBits : Nat → Nat → Nat
  | 0, s => s
  | k + 1, s => crcBits k (crcBit s)
def crcByte (s : Nat) (c : UInt8) : Nat := crcBits 8 (s ^^^ c.toNat)
def crcRun (s : Nat) (l : List UInt8) : Nat := l.foldl crcByte s
def crcSum (l : List UInt8) : Nat := 4294967295 - crcRun 4294967295 l
theorem crcBit_lt {s : Nat} (h : s < 4294967296) : crcBit s < 4294967296 := by
  unfold crcBit
  split
  · exact Nat.xor_lt_two_pow (n := 32) (by omega) (by omega)
  · omega
theorem crcBits_lt : ∀ (k : Nat) {s : Nat}, s < 4294967296 → crcBits k s < 4294967296
  | 0, s, h => h
  | k + 1, s, h => crcBits_lt k (crcBit_lt h)
theorem crcByte_lt {s : Nat} (h : s < 4294967296) (c : UInt8) : crcByte s c < 4294967296 :=
  crcBits_lt 8 (Nat.xor_lt_two_pow (n := 32) h (by have := c.toNat_lt; omega))
theorem crcRun_lt (l : List UInt8) : ∀ {s : Nat}, s < 4294967296 → crcRun s l < 4294967296 := by
  induction l with
  | nil => intro s h; exact h
  | cons c l ih => intro s h; exact ih (crcByte_lt h c)
theorem crcRun_append (s : Nat) (a b : List UInt8) : crcRun s (a ++ b) = crcRun (crcRun s a) b := by
  unfold crcRun; rw [List.foldl_append]
end Go.Pk

/- Groups, plans and channels, plainly. Own work. -/
import Derived.WalkKit
namespace Go.Rt
set_option linter.unusedVariables false
set_option linter.unusedSimpArgs false

def May (g t : Int) : Prop := 1 ≤ g ∧ g ≤ 128 ∧ 1 ≤ t ∧ t ≤ g ∧ t ≤ 16
instance (g t : Int) : Decidable (May g t) := inferInstanceAs (Decidable (_ ∧ _))
/-- A key's hash, on and on. -/
def hstep (n : Nat) (c : UInt8) : Nat := ((n ^^^ c.toNat) * 16777619) % 4294967296
theorem hstep_lt (n : Nat) (c : UInt8) : hstep n c < 4294967296 := Nat.mod_lt _ (by omega)
def hashN (s : List UInt8) : Nat := s.foldl hstep 2166136261
theorem hashN_snoc (s : List UInt8) (c : UInt8) : hashN (s ++ [c]) = hstep (hashN s) c := by
  unfold hashN
  rw [List.foldl_append, List.foldl_cons, List.foldl_nil]
theorem hashN_nil : hashN [] = 2166136261 := rfl
theorem foldl_lt (s : List UInt8) : ∀ n : Nat, n < 4294967296 → s.foldl hstep n < 4294967296 := by
  induction s with
  | nil => intro n h; exact h
  | cons c s ih => intro n h; rw [List.foldl_cons]; exact ih _ (hstep_lt n c)
theorem hashN_lt (s : List UInt8) : hashN s < 4294967296 := foldl_lt s _ (by omega)

/-- Who has group k. -/
def ownN (g t k : Nat) : Nat := ((k + 1) * t - 1) / g

theorem own_le (g t k i : Nat) (hg : 0 < g) (ht : 0 < t) : (i + 1) * g / t ≤ k ↔ i < ownN g t k := by
  unfold ownN
  have h1 : (i + 1) * g / t ≤ k ↔ (i + 1) * g < (k + 1) * t := by
    rw [← Nat.lt_succ_iff, Nat.div_lt_iff_lt_mul ht]
  have h2 : i < ((k + 1) * t - 1) / g ↔ (i + 1) * g ≤ (k + 1) * t - 1 := by
    rw [← Nat.succ_le_iff, Nat.le_div_iff_mul_le hg]
  rw [h1, h2]
  have : 0 < (k + 1) * t := Nat.mul_pos (by omega) ht
  omega

theorem own_iff (g t k i : Nat) (hg : 0 < g) (ht : 0 < t) : ownN g t k = i ↔ i * g / t ≤ k ∧ k < (i + 1) * g / t := by
  have h1 := own_le g t k i hg ht
  cases i with
  | zero =>
    rw [Nat.zero_mul, Nat.zero_div]
    constructor
    · intro h; exact ⟨by omega, by rw [← Nat.not_le]; intro hh; have := h1.1 hh; omega⟩
    · rintro ⟨_, h⟩
      have := mt h1.2 (by omega); omega
  | succ i =>
    have h2 := own_le g t k i hg ht
    constructor
    · intro h; exact ⟨h2.2 (by omega), by rw [← Nat.not_le]; intro hh; have := h1.1 hh; omega⟩
    · rintro ⟨ha, h⟩
      have := mt h1.2 (by omega)
      have := h2.1 ha
      omega

theorem own_lt (g t k : Nat) (hg : 0 < g) (ht : 0 < t) (hk : k < g) : ownN g t k < t := by
  unfold ownN
  rw [Nat.div_lt_iff_lt_mul hg]
  have : (k + 1) * t ≤ g * t := Nat.mul_le_mul_right t hk
  have : 0 < (k + 1) * t := Nat.mul_pos (by omega) ht
  rw [Nat.mul_comm t g]
  omega

/-- Of each group its owner, up to group m. -/
def ownL (g t m : Nat) : List Int := (List.range 128).map fun k => if k < m then (ownN g t k : Int) else 0
theorem ownL_len (g t m : Nat) : (ownL g t m).length = 128 := by simp [ownL]
theorem ownL_zero (g t : Nat) : List.replicate 128 0 = ownL g t 0 := by
  apply List.ext_getElem
  · simp [ownL]
  · intro k h1 h2; rw [List.getElem_replicate]; simp [ownL]
theorem ownL_get (g t m k : Nat) (hk : k < 128) : (ownL g t m)[k]? = some (if k < m then (ownN g t k : Int) else 0) := by
  simp [ownL, hk]
theorem ownL_succ (g t m i : Nat) (hi : ownN g t m = i) : (ownL g t m).set m (i : Int) = ownL g t (m + 1) := by
  subst hi
  apply List.ext_getElem
  · simp [ownL]
  · intro k h1 h2
    simp only [ownL, List.getElem_set, List.getElem_map, List.getElem_range]
    by_cases hk : m = k
    · subst hk; simp
    · rw [if_neg hk]
      have : k < m + 1 ↔ k < m := by omega
      simp only [this]


/-- May a plan be? -/
def okP (g s m : Int) : Prop := May g m ∧ 1 ≤ s ∧ s ≤ 16
instance (g s m : Int) : Decidable (okP g s m) := inferInstanceAs (Decidable (_ ∧ _))
/-- A channel's ends. -/
def endsAt (s m c : Nat) : Nat × Nat := if c < s * m then (c / m, s + c % m) else (s + (c - s * m), s + m)
def allN (s m : Nat) : Nat := s * m + m
/-- The first k channels. -/
def allL (s m k : Nat) : List (Nat × Nat) := (List.range k).map (endsAt s m)
theorem allL_len (s m k : Nat) : (allL s m k).length = k := by simp [allL]
theorem allL_zero (s m : Nat) : allL s m 0 = [] := rfl
theorem allL_succ (s m k : Nat) : allL s m (k + 1) = allL s m k ++ [endsAt s m k] := by simp [allL, List.range_succ]
theorem allL_get {s m k c : Nat} (h : c < k) : (allL s m k)[c]? = some (endsAt s m c) := by simp [allL, h]
theorem ends_mid {s m i j : Nat} (hi : i < s) (hj : j < m) : endsAt s m (i * m + j) = (i, s + j) := by
  have h1 : i * m + j < s * m := by
    have : (i + 1) * m ≤ s * m := Nat.mul_le_mul_right m hi
    rw [Nat.add_mul] at this; omega
  have h2 : (i * m + j) / m = i := by
    rw [Nat.mul_comm, Nat.mul_add_div (by omega), Nat.div_eq_of_lt hj]; omega
  have h3 : (i * m + j) % m = j := by
    rw [Nat.mul_comm, Nat.mul_add_mod, Nat.mod_eq_of_lt hj]
  unfold endsAt
  rw [if_pos h1, h2, h3]
theorem ends_last {s m j : Nat} : endsAt s m (s * m + j) = (s + j, s + m) := by
  unfold endsAt
  rw [if_neg (by omega)]
  congr 1; omega
end Go.Rt

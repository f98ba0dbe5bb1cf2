/- Groups, plainly, and what moves. Own work. -/
import Derived.WalkKit
namespace Go.Rt
set_option linter.unusedVariables false
set_option linter.unusedSimpArgs false

def May (g t : Int) : Prop := 1 ≤ g ∧ g ≤ 128 ∧ 1 ≤ t ∧ t ≤ g ∧ t ≤ 16
instance (g t : Int) : Decidable (May g t) := inferInstanceAs (Decidable (_ ∧ _))
/-- A key's hash, on and on. -/
def hstep (n : Nat) (c : UInt8) : Nat := ((n ^^^ c.toNat) * 16777619) % 4294967296
theorem hstep_lt (n : Nat) (c : UInt8) : hstep n c < 4294967296 := Nat.mod_lt _ (by omega)
def hashN (s : List UInt8) : Nat := s.foldl hstep 2166136261
theorem hashN_snoc (s : List UInt8) (c : UInt8) : hashN (s ++ [c]) = hstep (hashN s) c := by
  unfold hashN
  rw [List.foldl_append, List.foldl_cons, List.foldl_nil]
theorem hashN_nil : hashN [] = 2166136261 := rfl
theorem foldl_lt (s : List UInt8) : ∀ n : Nat, n < 4294967296 → s.foldl hstep n < 4294967296 := by
  induction s with
  | nil => intro n h; exact h
  | cons c s ih => intro n h; rw [List.foldl_cons]; exact ih _ (hstep_lt n c)
theorem hashN_lt (s : List UInt8) : hashN s < 4294967296 := foldl_lt s _ (by omega)

/-- Who has group k. -/
def ownN (g t k : Nat) : Nat := ((k + 1) * t - 1) / g

theorem own_le (g t k i : Nat) (hg : 0 < g) (ht : 0 < t) : (i + 1) * g / t ≤ k ↔ i < ownN g t k := by
  unfold ownN
  have h1 : (i + 1) * g / t ≤ k ↔ (i + 1) * g < (k + 1) * t := by
    rw [← Nat.lt_succ_iff, Nat.div_lt_iff_lt_mul ht]
  have h2 : i < ((k + 1) * t - 1) / g ↔ (i + 1) * g ≤ (k + 1) * t - 1 := by
    rw [← Nat.succ_le_iff, Nat.le_div_iff_mul_le hg]
  rw [h1, h2]
  have : 0 < (k + 1) * t := Nat.mul_pos (by omega) ht
  omega

theorem own_iff (g t k i : Nat) (hg : 0 < g) (ht : 0 < t) : ownN g t k = i ↔ i * g / t ≤ k ∧ k < (i + 1) * g / t := by
  have h1 := own_le g t k i hg ht
  cases i with
  | zero =>
    rw [Nat.zero_mul, Nat.zero_div]
    constructor
    · intro h; exact ⟨by omega, by rw [← Nat.not_le]; intro hh; have := h1.1 hh; omega⟩
    · rintro ⟨_, h⟩
      have := mt h1.2 (by omega); omega
  | succ i =>
    have h2 := own_le g t k i hg ht
    constructor
    · intro h; exact ⟨h2.2 (by omega), by rw [← Nat.not_le]; intro hh; have := h1.1 hh; omega⟩
    · rintro ⟨ha, h⟩
      have := mt h1.2 (by omega)
      have := h2.1 ha
      omega

theorem own_lt (g t k : Nat) (hg : 0 < g) (ht : 0 < t) (hk : k < g) : ownN g t k < t := by
  unfold ownN
  rw [Nat.div_lt_iff_lt_mul hg]
  have : (k + 1) * t ≤ g * t := Nat.mul_le_mul_right t hk
  have : 0 < (k + 1) * t := Nat.mul_pos (by omega) ht
  rw [Nat.mul_comm t g]
  omega

/-- Of each group its owner, up to group m. -/
def ownL (g t m : Nat) : List Int := (List.range 128).map fun k => if k < m then (ownN g t k : Int) else 0
theorem ownL_len (g t m : Nat) : (ownL g t m).length = 128 := by simp [ownL]
theorem ownL_zero (g t : Nat) : List.replicate 128 0 = ownL g t 0 := by
  apply List.ext_getElem
  · simp [ownL]
  · intro k h1 h2; rw [List.getElem_replicate]; simp [ownL]
theorem ownL_get (g t m k : Nat) (hk : k < 128) : (ownL g t m)[k]? = some (if k < m then (ownN g t k : Int) else 0) := by
  simp [ownL, hk]
theorem ownL_succ (g t m i : Nat) (hi : ownN g t m = i) : (ownL g t m).set m (i : Int) = ownL g t (m + 1) := by
  subst hi
  apply List.ext_getElem
  · simp [ownL]
  · intro k h1 h2
    simp only [ownL, List.getElem_set, List.getElem_map, List.getElem_range]
    by_cases hk : m = k
    · subst hk; simp
    · rw [if_neg hk]
      have : k < m + 1 ↔ k < m := by omega
      simp only [this]


/-- What moves, of the first m groups. -/
def movesL (g a b m : Nat) : List (Nat × Nat × Nat) := (List.range m).filterMap fun k => if ownN g a k = ownN g b k then none else some (k, ownN g a k, ownN g b k)
theorem movesL_zero (g a b : Nat) : movesL g a b 0 = [] := rfl
theorem movesL_keep {g a b m : Nat} (h : ownN g a m = ownN g b m) : movesL g a b (m + 1) = movesL g a b m := by
  simp [movesL, List.range_succ, List.filterMap_append, h]
theorem movesL_more {g a b m : Nat} (h : ¬ ownN g a m = ownN g b m) : movesL g a b (m + 1) = movesL g a b m ++ [(m, ownN g a m, ownN g b m)] := by
  simp [movesL, List.range_succ, List.filterMap_append, h]
theorem movesL_le (g a b m : Nat) : (movesL g a b m).length ≤ m := by
  have := List.length_filterMap_le (fun k => if ownN g a k = ownN g b k then none else some (k, ownN g a k, ownN g b k)) (List.range m)
  simpa [movesL] using this
theorem movesL_self (g a m : Nat) : movesL g a a m = [] := by
  induction m with
  | zero => rfl
  | succ m ih => rw [movesL_keep rfl, ih]
theorem movesL_swap (g a b m : Nat) : movesL g b a m = (movesL g a b m).map fun x => (x.1, x.2.2, x.2.1) := by
  induction m with
  | zero => rfl
  | succ m ih =>
    by_cases h : ownN g a m = ownN g b m
    · rw [movesL_keep h, movesL_keep h.symm, ih]
    · rw [movesL_more h, movesL_more (fun e => h e.symm), ih, List.map_append]; rfl
theorem movesL_mem {g a b m : Nat} {x : Nat × Nat × Nat} (h : x ∈ movesL g a b m) : x.1 < m ∧ x.2.1 = ownN g a x.1 ∧ x.2.2 = ownN g b x.1 ∧ x.2.1 ≠ x.2.2 := by
  simp only [movesL, List.mem_filterMap, List.mem_range] at h
  obtain ⟨k, hk, h⟩ := h
  by_cases e : ownN g a k = ownN g b k
  · rw [if_pos e] at h; cases h
  · rw [if_neg e] at h; cases h; exact ⟨hk, rfl, rfl, e⟩
theorem movesL_same {g a b m : Nat} (h : ∀ k < m, ownN g a k = ownN g b k) : movesL g a b m = [] := by
  induction m with
  | zero => rfl
  | succ m ih => rw [movesL_keep (h m (by omega)), ih fun k hk => h k (by omega)]
theorem ownL_inj {g a b m : Nat} (hm : m ≤ 128) (h : ownL g a m = ownL g b m) : ∀ k < m, ownN g a k = ownN g b k := by
  intro k hk
  have h1 := ownL_get g a m k (by omega)
  rw [h, ownL_get g b m k (by omega), if_pos hk, if_pos hk] at h1
  have := Option.some.inj h1
  omega
end Go.Rt

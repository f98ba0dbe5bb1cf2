/- Frames one behind the other, plainly. Own work. -/
import Derived.Test.YtabkpaakffpmjaaPk4
namespace Go.Pk
set_option linter.unusedVariables false
set_option linter.unusedSimpArgs false

/-- A frame is told: where it ends. -/
theorem open_ok {r : List UInt8} {a : Nat} {p : List UInt8} {n e1 : Int} (h : openF r a = (p, n, e1, 0)) : e1 = 0 ∧ n = ((a + 10 + p.length : Nat) : Int) ∧ 10 + p.length ≤ r.length := by
  unfold openF at h
  split at h
  · simp at h
  split at h
  · simp at h
  split at h
  · simp at h
  split at h
  · simp at h
  split at h
  · simp at h
  rename_i h1 h2 h3 h4 h5
  simp only [Prod.mk.injEq] at h
  obtain ⟨rfl, rfl, rfl, _⟩ := h
  have hl : ((r.drop 10).take (at4 (r.drop 2))).length = at4 (r.drop 2) := by rw [List.length_take]; omega
  rw [List.length_drop] at h4
  exact ⟨rfl, by rw [hl], by rw [hl]; omega⟩

/-- Frames from a place on. -/
def framesF : Nat → List UInt8 → Nat → List (List UInt8) × Nat
  | 0, _, e => ([], e)
  | k + 1, s, e => match openF (s.drop e) e with
    | (p, _, _, c) => if c = 0 then (p :: (framesF k s (e + 10 + p.length)).1, (framesF k s (e + 10 + p.length)).2) else ([], e)

theorem framesF_fuel (s : List UInt8) : ∀ (k k' e : Nat), e ≤ s.length → s.length - e < k → s.length - e < k' → framesF k s e = framesF k' s e
  | 0, _, _, _, h, _ => absurd h (by omega)
  | _ + 1, 0, _, _, _, h => absurd h (by omega)
  | k + 1, k' + 1, e, he, h, h' => by
    unfold framesF
    obtain ⟨p, n, e1, c, hR⟩ : ∃ p n e1 c, openF (s.drop e) e = (p, n, e1, c) := ⟨_, _, _, _, rfl⟩
    simp only [hR]
    split
    · rename_i hc
      subst hc
      obtain ⟨_, _, h3⟩ := open_ok hR
      rw [List.length_drop] at h3
      rw [framesF_fuel s k k' (e + 10 + p.length) (by omega) (by omega) (by omega)]
    · rfl

def framesAt (s : List UInt8) (e : Nat) : List (List UInt8) × Nat := framesF (s.length + 1) s e
theorem frames_step {s : List UInt8} {e : Nat} (he : e ≤ s.length) {p : List UInt8} {n e1 : Int} (hR : openF (s.drop e) e = (p, n, e1, 0)) :
    framesAt s e = (p :: (framesAt s (e + 10 + p.length)).1, (framesAt s (e + 10 + p.length)).2) := by
  obtain ⟨_, _, h3⟩ := open_ok hR
  rw [List.length_drop] at h3
  unfold framesAt
  conv => lhs; rw [framesF]
  simp only [hR, if_true]
  rw [framesF_fuel s s.length (s.length + 1) (e + 10 + p.length) (by omega) (by omega) (by omega)]
theorem frames_stop {s : List UInt8} {e : Nat} {p : List UInt8} {n e1 c : Int} (hR : openF (s.drop e) e = (p, n, e1, c)) (hc : c ≠ 0) : framesAt s e = ([], e) := by
  unfold framesAt
  rw [framesF]
  simp only [hR, if_neg hc]
theorem frames_le (s : List UInt8) : ∀ (k e : Nat), e ≤ s.length → (framesF k s e).1.length * 10 + e ≤ s.length
  | 0, e, h => by simpa [framesF] using h
  | k + 1, e, h => by
    unfold framesF
    obtain ⟨p, n, e1, c, hR⟩ : ∃ p n e1 c, openF (s.drop e) e = (p, n, e1, c) := ⟨_, _, _, _, rfl⟩
    simp only [hR]
    split
    · rename_i hc
      subst hc
      obtain ⟨_, _, h3⟩ := open_ok hR
      rw [List.length_drop] at h3
      have := frames_le s k (e + 10 + p.length) (by omega)
      simp only [List.length_cons]
      omega
    · simpa using h
theorem unframe_at (s : List UInt8) {e : Nat} (he : e ≤ s.length) : unframeR s e = openF (s.drop e) e := by
  unfold unframeR
  rw [if_neg (by omega), Int.toNat_natCast]
end Go.Pk

/- Torn frames, plainly. Own work. -/
import Derived.Test.YtabkpaakffpmjaaPk3
namespace Go.Pk
set_option linter.unusedVariables false
set_option linter.unusedSimpArgs false

theorem crcBit_top {s : Nat} (h : s < 4294967296) : (crcBit s).testBit 31 = decide (s % 2 = 1) := by
  unfold crcBit
  have hd : (s / 2).testBit 31 = false := Nat.testBit_lt_two_pow (by omega)
  split
  · rename_i h1
    rw [Nat.testBit_xor, hd, decide_eq_true h1]; decide
  · rename_i h1
    rw [hd, decide_eq_false h1]
theorem crcBit_inj {a b : Nat} (ha : a < 4294967296) (hb : b < 4294967296) (h : crcBit a = crcBit b) : a = b := by
  have ht := crcBit_top ha
  rw [h, crcBit_top hb] at ht
  have hp : (b % 2 = 1) ↔ (a % 2 = 1) := by simpa using ht
  have hq : a / 2 = b / 2 := by
    unfold crcBit at h
    by_cases h1 : a % 2 = 1
    · rw [if_pos h1, if_pos (hp.2 h1)] at h
      have := congrArg (· ^^^ 2197175160) h
      simpa [Nat.xor_assoc] using this
    · rw [if_neg h1, if_neg (fun h2 => h1 (hp.1 h2))] at h
      exact h
  omega
theorem crcBits_inj : ∀ (k : Nat) {a b : Nat}, a < 4294967296 → b < 4294967296 → crcBits k a = crcBits k b → a = b
  | 0, a, b, _, _, h => h
  | k + 1, a, b, ha, hb, h => crcBit_inj ha hb (crcBits_inj k (crcBit_lt ha) (crcBit_lt hb) h)
theorem xor_inj {a b c : Nat} (h : a ^^^ c = b ^^^ c) : a = b := by
  have := congrArg (· ^^^ c) h
  simpa [Nat.xor_assoc] using this
theorem crcByte_state {a b : Nat} (ha : a < 4294967296) (hb : b < 4294967296) {c : UInt8} (h : crcByte a c = crcByte b c) : a = b := by
  have hc := c.toNat_lt
  exact xor_inj (crcBits_inj 8 (Nat.xor_lt_two_pow (n := 32) ha (by omega)) (Nat.xor_lt_two_pow (n := 32) hb (by omega)) h)
theorem crcByte_byte {a : Nat} (ha : a < 4294967296) {c d : UInt8} (h : crcByte a c = crcByte a d) : c = d := by
  have hc := c.toNat_lt
  have hd := d.toNat_lt
  have := crcBits_inj 8 (Nat.xor_lt_two_pow (n := 32) ha (by omega)) (Nat.xor_lt_two_pow (n := 32) ha (by omega)) h
  rw [Nat.xor_comm a, Nat.xor_comm a] at this
  exact UInt8.toNat_inj.1 (xor_inj this)
theorem crcRun_state : ∀ (l : List UInt8) {a b : Nat}, a < 4294967296 → b < 4294967296 → crcRun a l = crcRun b l → a = b
  | [], a, b, _, _, h => h
  | c :: l, a, b, ha, hb, h => crcByte_state ha hb (crcRun_state l (crcByte_lt ha c) (crcByte_lt hb c) h)
/-- One byte changed: another sum. -/
theorem crcSum_one {p q : List UInt8} {c d : UInt8} (hcd : c ≠ d) : crcSum (p ++ c :: q) ≠ crcSum (p ++ d :: q) := by
  intro h
  have l1 := crcRun_lt (p ++ c :: q) (s := 4294967295) (by omega)
  have l2 := crcRun_lt (p ++ d :: q) (s := 4294967295) (by omega)
  have h2 : crcRun 4294967295 (p ++ c :: q) = crcRun 4294967295 (p ++ d :: q) := by unfold crcSum at h; omega
  have hp := crcRun_lt p (s := 4294967295) (by omega)
  rw [crcRun_append, crcRun_append] at h2
  exact hcd (crcByte_byte hp (crcRun_state q (crcByte_lt hp c) (crcByte_lt hp d) h2))

theorem head_len (s : List UInt8) : (head s).length = 6 := rfl
theorem frame_len (s : List UInt8) : (frame s).length = 10 + s.length := by simp [frame, head, four]; omega
/-- A frame's beginning alone. -/
theorem open_torn {s : List UInt8} (hs : s.length ≤ 65536) {m : Nat} (hm : m < (frame s).length) : openF ((frame s).take m) 0 = ([], 0, 0, 11) := by
  have hl := frame_len s
  have hlen : ((frame s).take m).length = m := by simp; omega
  have e2 : ((frame s).take m).take (min m 2) = [87, 70].take (min m 2) := by
    rw [List.take_take, Nat.min_eq_left (Nat.min_le_left _ _)]
    have : frame s = [87, 70] ++ (four s.length ++ four (framed s) ++ s) := by simp [frame, head]
    rw [this, List.take_append_of_le_length (by simp; omega)]
  unfold openF
  rw [hlen, if_neg (by simp only [ne_eq, Decidable.not_not]; exact e2)]
  by_cases h10 : m < 10
  · rw [if_pos h10]; rfl
  · have hd : ((frame s).take m).drop 2 = four s.length ++ ((four (framed s) ++ s).take (m - 6)) := by
      have : frame s = [87, 70] ++ (four s.length ++ (four (framed s) ++ s)) := by simp [frame, head]
      rw [List.drop_take, this, List.drop_left' (by rfl), List.take_append, List.take_of_length_le (by rw [four_len]; omega), four_len, show m - 2 - 4 = m - 6 by omega]
    rw [if_neg h10, hd, at4_four (by omega), if_neg (by omega), if_pos (by simp; omega)]; rfl
theorem at4_inj {a b c d : UInt8} {r : List UInt8} {v : Nat} (hv : v < 4294967296) (h : at4 (a :: b :: c :: d :: r) = v) : [a, b, c, d] = four v := by
  have ha := a.toNat_lt
  have hb := b.toNat_lt
  have hc := c.toNat_lt
  have hd := d.toNat_lt
  simp only [at4, List.getD_cons_zero, List.getD_cons_succ] at h
  unfold four
  have e1 : a = UInt8.ofNat (v / 2 ^ 24) := UInt8.toNat_inj.1 (by rw [UInt8.toNat_ofNat']; omega)
  have e2 : b = UInt8.ofNat (v / 2 ^ 16) := UInt8.toNat_inj.1 (by rw [UInt8.toNat_ofNat']; omega)
  have e3 : c = UInt8.ofNat (v / 2 ^ 8) := UInt8.toNat_inj.1 (by rw [UInt8.toNat_ofNat']; omega)
  have e4 : d = UInt8.ofNat v := UInt8.toNat_inj.1 (by rw [UInt8.toNat_ofNat']; omega)
  rw [e1, e2, e3, e4]
theorem framed_lt (s : List UInt8) : framed s < 4294967296 := by unfold framed crcSum; omega
theorem len_four {f : List UInt8} (h : f.length = 4) : ∃ a b c d, f = [a, b, c, d] := by
  match f, h with
  | [a, b, c, d], _ => exact ⟨a, b, c, d, rfl⟩
/-- What a frame's head and so many bytes open to. -/
theorem open_frame {s f z : List UInt8} (n : Nat) (hs : s.length ≤ 65536) (hf : f.length = 4) (hz : z.length = s.length) :
    openF (head s ++ (f ++ z)) n = if crcSum (head s ++ z) ≠ at4 (f ++ z) then ([], 0, (n : Int), 10) else (z, ((n + 10 + s.length : Nat) : Int), 0, 0) := by
  match f, hf with
  | [a, b, c, d], _ =>
    have hlen : (head s ++ ([a, b, c, d] ++ z)).length = 10 + s.length := by simp [head_len]; omega
    have d10 : (head s ++ ([a, b, c, d] ++ z)).drop 10 = z := rfl
    have d6 : (head s ++ ([a, b, c, d] ++ z)).drop 6 = [a, b, c, d] ++ z := rfl
    have d2 : (head s ++ ([a, b, c, d] ++ z)).drop 2 = four s.length ++ ([a, b, c, d] ++ z) := rfl
    have t6 : (head s ++ ([a, b, c, d] ++ z)).take 6 = head s := rfl
    unfold openF
    rw [hlen, show min (10 + s.length) 2 = 2 by omega, if_neg (by simp [head]), if_neg (by omega), d2, at4_four (by omega), if_neg (by omega), d10, if_neg (by omega), t6, d6, List.take_of_length_le (by omega)]
theorem open_whole {s : List UInt8} (n : Nat) (hs : s.length ≤ 65536) : openF (head s ++ (four (framed s) ++ s)) n = (s, ((n + 10 + s.length : Nat) : Int), 0, 0) := by
  rw [open_frame n hs rfl rfl, at4_four (framed_lt s), if_neg (by simp [framed])]
theorem open_sum {s f : List UInt8} (hs : s.length ≤ 65536) (hf : f.length = 4) (hne : f ≠ four (framed s)) : openF (head s ++ (f ++ s)) 0 = ([], 0, 0, 10) := by
  have h : crcSum (head s ++ s) ≠ at4 (f ++ s) := by
    intro h
    obtain ⟨a, b, c, d, rfl⟩ := len_four hf
    have h' : framed s = at4 (a :: b :: c :: d :: s) := by unfold framed; exact h
    exact hne (at4_inj (r := s) (framed_lt s) h'.symm)
  rw [open_frame 0 hs hf rfl, if_pos h, Int.natCast_zero]
theorem open_text {s z : List UInt8} (hs : s.length ≤ 65536) (hz : z.length = s.length) (hne : crcSum (head s ++ z) ≠ framed s) : openF (head s ++ (four (framed s) ++ z)) 0 = ([], 0, 0, 10) := by
  rw [open_frame 0 hs rfl hz, at4_four (framed_lt s), if_pos hne, Int.natCast_zero]
theorem set_split {l : List UInt8} {k : Nat} (h : k < l.length) (c : UInt8) : ∃ p q, l = p ++ l[k] :: q ∧ l.set k c = p ++ c :: q :=
  ⟨l.take k, l.drop (k + 1), by rw [List.getElem_cons_drop]; exact (List.take_append_drop k l).symm, by rw [List.set_eq_take_append_cons_drop, if_pos h]⟩
theorem set_ne {l : List UInt8} {k : Nat} (h : k < l.length) {c : UInt8} (hc : c ≠ l[k]) : l.set k c ≠ l := fun e => by
  have := congrArg (fun l => l[k]?) e
  simp [h] at this
  exact hc this
/-- One byte behind the head changed. -/
theorem open_changed {s : List UInt8} (hs : s.length ≤ 65536) {m : Nat} (h6 : 6 ≤ m) (hm : m < (frame s).length) {c : UInt8} (hc : c ≠ (frame s)[m]) : openF ((frame s).set m c) 0 = ([], 0, 0, 10) := by
  have hf : frame s = head s ++ (four (framed s) ++ s) := by simp [frame]
  have hl := frame_len s
  have hset : (frame s).set m c = head s ++ (four (framed s) ++ s).set (m - 6) c := by rw [hf, List.set_append_right _ _ (by rw [head_len]; omega), head_len]
  have hget : (frame s)[m] = (four (framed s) ++ s)[m - 6]'(by simp [four_len]; omega) := by
    have : (head s ++ (four (framed s) ++ s))[m]? = (four (framed s) ++ s)[m - 6]? := by rw [List.getElem?_append_right (by rw [head_len]; omega), head_len]
    have e1 : (frame s)[m]? = some (frame s)[m] := List.getElem?_eq_getElem hm
    have e3 : (frame s)[m]? = (four (framed s) ++ s)[m - 6]? := by rw [hf]; exact this
    rw [e1, List.getElem?_eq_getElem (by simp [four_len]; omega)] at e3
    exact Option.some.inj e3
  rw [hset]
  by_cases h4 : m - 6 < 4
  · rw [List.set_append_left _ _ (by rw [four_len]; omega)]
    rw [List.getElem_append_left (by rw [four_len]; omega)] at hget
    rw [hget] at hc
    exact open_sum hs (by simp [four_len]) (set_ne _ hc)
  · rw [List.set_append_right _ _ (by rw [four_len]; omega), four_len]
    rw [List.getElem_append_right (by rw [four_len]; omega)] at hget
    simp only [four_len] at hget
    rw [hget] at hc
    refine open_text hs (by simp) ?_
    obtain ⟨p, q, e1, e2⟩ := set_split (l := s) (k := m - 6 - 4) (by omega) c
    have := crcSum_one (p := head s ++ p) (q := q) hc
    rw [List.append_assoc, List.append_assoc, ← e2, ← e1] at this
    exact this
end Go.Pk

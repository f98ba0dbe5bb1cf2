/- Frames found wherever they stand, plainly. Own work. -/
import Derived.Test.YtabkpaakffpmjaaPk5
namespace Go.Pk
set_option linter.unusedVariables false
set_option linter.unusedSimpArgs false

theorem open_in {s : List UInt8} (n : Nat) (hs : s.length ≤ 65536) (t : List UInt8) : openF (frame s ++ t) n = (s, ((n + 10 + s.length : Nat) : Int), 0, 0) := by
  have hf : frame s ++ t = head s ++ (four (framed s) ++ (s ++ t)) := by simp [frame]
  have hlen : (head s ++ (four (framed s) ++ (s ++ t))).length = 10 + s.length + t.length := by simp [head_len, four_len]; omega
  have d10 : (head s ++ (four (framed s) ++ (s ++ t))).drop 10 = s ++ t := rfl
  have d6 : (head s ++ (four (framed s) ++ (s ++ t))).drop 6 = four (framed s) ++ (s ++ t) := rfl
  have d2 : (head s ++ (four (framed s) ++ (s ++ t))).drop 2 = four s.length ++ (four (framed s) ++ (s ++ t)) := rfl
  have t6 : (head s ++ (four (framed s) ++ (s ++ t))).take 6 = head s := rfl
  rw [hf]
  unfold openF
  rw [hlen, show min (10 + s.length + t.length) 2 = 2 by omega, if_neg (by simp [head]), if_neg (by omega), d2, at4_four (by omega), if_neg (by omega), d10, if_neg (by simp), t6, d6, at4_four (framed_lt s), List.take_left' rfl, if_neg (by simp [framed])]

theorem frames_from {tail : List UInt8} (ht : ∀ n, ∃ p m e c, openF tail n = (p, m, e, c) ∧ c ≠ 0) : ∀ (L : List (List UInt8)) (pre : List UInt8), (∀ x ∈ L, x.length ≤ 65536) →
    framesAt (pre ++ (L.flatMap frame ++ tail)) pre.length = (L, pre.length + (L.flatMap frame).length)
  | [], pre, _ => by
    obtain ⟨p, m, e, c, h, hc⟩ := ht pre.length
    rw [frames_stop (p := p) (n := m) (e1 := e) (c := c) (by simpa using h) hc]
    simp
  | x :: L, pre, h => by
    have hx := h x (by simp)
    have ih := frames_from ht L (pre ++ frame x) (fun y hy => h y (by simp [hy]))
    have e : pre ++ ((x :: L).flatMap frame ++ tail) = (pre ++ frame x) ++ (L.flatMap frame ++ tail) := by simp
    have hlen : (pre ++ frame x).length = pre.length + 10 + x.length := by simp [frame_len]; omega
    rw [frames_step (e := pre.length) (p := x) (n := ((pre.length + 10 + x.length : Nat) : Int)) (e1 := 0) (by simp) (by
      rw [List.drop_left' rfl, List.flatMap_cons, List.append_assoc]
      exact open_in pre.length hx _)]
    rw [e, ← hlen, ih]
    simp only [List.flatMap_cons, List.length_append]
    simp; omega

theorem tail_nil (n : Nat) : ∃ p m e c, openF [] n = (p, m, e, c) ∧ c ≠ 0 := ⟨[], 0, n, 11, rfl, by decide⟩
theorem tail_wf (n : Nat) : ∃ p m e c, openF [87, 70] n = (p, m, e, c) ∧ c ≠ 0 := ⟨[], 0, n, 11, rfl, by decide⟩
theorem frames_all {L : List (List UInt8)} (h : ∀ x ∈ L, x.length ≤ 65536) : framesAt (L.flatMap frame) 0 = (L, (L.flatMap frame).length) := by
  have := frames_from tail_nil L [] h
  simpa using this
theorem frames_all2 {L : List (List UInt8)} (h : ∀ x ∈ L, x.length ≤ 65536) : framesAt (L.flatMap frame ++ [87, 70]) 0 = (L, (L.flatMap frame).length) := by
  have := frames_from tail_wf L [] h
  simpa using this
theorem frames_len : ∀ (L : List (List UInt8)), (∀ x ∈ L, x.length ≤ 65536) → (L.flatMap frame).length ≤ L.length * 65546
  | [], _ => by simp
  | x :: L, h => by
    have := frames_len L fun y hy => h y (by simp [hy])
    have hx := h x (by simp)
    simp only [List.flatMap_cons, List.length_append, frame_len, List.length_cons]
    omega
theorem unframe_in (a s t : List UInt8) (hs : s.length ≤ 65536) : unframeR (a ++ frame s ++ t) (a.length : Int) = (s, ((a.length + 10 + s.length : Nat) : Int), 0, 0) := by
  rw [unframe_at _ (by simp), List.append_assoc, List.drop_left' rfl, open_in _ hs]
end Go.Pk

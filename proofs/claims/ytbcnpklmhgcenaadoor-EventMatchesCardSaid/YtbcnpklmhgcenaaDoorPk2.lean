/- The pack's lists, plain: there and back. Own work. -/
import Derived.Test.YtbcnpklmhgcenaaDoorPk
namespace Go.Pk
set_option linter.unusedVariables false
set_option linter.unusedSimpArgs false

theorem ofNat_toNat {x : Nat} (h : x < 256) : (UInt8.ofNat x).toNat = x := by
  rw [UInt8.toNat_ofNat']; exact Nat.mod_eq_of_lt h

/-- Reading over the digits ahead. -/
theorem rdN_hi : ∀ (n v : Nat) (r : List UInt8), v < n → v ≠ 0 → v < 18446744073709551616 → rdN true 0 (hi v ++ r) = rdN false v r
  | 0, v, r, h, _, _ => by omega
  | n + 1, v, r, h, h0, hv => by
    rw [hi_pos h0, List.append_assoc]
    have hd : (UInt8.ofNat (v % 128 + 128)).toNat = v % 128 + 128 := ofNat_toNat (by omega)
    by_cases hq : v / 128 = 0
    · rw [hq, hi_zero, List.nil_append, List.singleton_append, rdN_cons, hd, if_neg (by omega), if_neg (by omega)]
      congr 1; omega
    · rw [rdN_hi n (v / 128) _ (by omega) hq (by omega), List.singleton_append, rdN_cons, hd, if_neg (by simp; omega), if_neg (by omega)]
      congr 1; omega
theorem rdN_num {u : Nat} (hu : u < 18446744073709551616) (r : List UInt8) : rdN true 0 (num u ++ r) = .ok u r := by
  unfold num
  rw [List.append_assoc, List.singleton_append]
  have hd : (UInt8.ofNat (u % 128)).toNat = u % 128 := ofNat_toNat (by omega)
  by_cases hq : u / 128 = 0
  · rw [hq, hi_zero, List.nil_append, rdN_cons, hd, if_neg (by omega), if_pos (by omega)]
    congr 1; omega
  · rw [rdN_hi (u / 128 + 1) _ _ (by omega) hq (by omega), rdN_cons, hd, if_neg (by simp; omega), if_pos (by omega)]
    congr 1; omega

theorem rdI_one {x : Itm} (hm : may x = true) (hx : okI x) (hs : x.s.length ≤ 262144) (r : List UInt8) : rdI (one x ++ r) = .ok x r := by
  obtain ⟨t, n, s⟩ := x
  obtain ⟨h1, h2, _⟩ := hx
  simp only at h1 h2 hs
  cases t
  · obtain rfl : s = [] := by simpa [may] using hm
    simp only [one, Bool.false_eq_true, if_false, List.cons_append]
    rw [rdI, rdN_num (zig_lt h1 h2)]
    simp [zag_zig]
  · obtain rfl : n = 0 := by simpa [may] using hm
    simp only [one, if_true, List.cons_append, List.append_assoc]
    rw [rdI, rdN_num (by unfold zig; split <;> omega)]
    simp only [zag_zig]
    rw [if_neg (by decide), if_neg (by decide), if_neg (by omega), if_neg (by simp; omega)]
    simp

theorem decF_all (len : Nat) (r : List UInt8) : ∀ (l : List Itm) (f : Nat) (out : List Itm), l.all may = true → (∀ x ∈ l, okI x ∧ x.s.length ≤ 262144) → out.length + l.length ≤ 4096 → (allB l ++ r).length < f →
    decF len f (allB l ++ r) out = decF len f r (out ++ l)
  | [], f, out, _, _, _, _ => by simp [allB]
  | x :: l, f, out, hm, hx, ho, hf => by
    have e : allB (x :: l) ++ r = one x ++ (allB l ++ r) := by simp [allB]
    rw [e] at hf ⊢
    simp only [List.all_cons, Bool.and_eq_true] at hm
    simp only [List.length_cons] at ho
    have hne : one x ++ (allB l ++ r) ≠ [] := by unfold one; split <;> simp
    have hpos : 0 < (one x).length := by unfold one; split <;> simp
    rw [decF_step hf, if_neg hne, if_neg (by omega), rdI_one hm.1 (hx x (by simp)).1 (hx x (by simp)).2]
    simp only
    rw [decF_all len r l f (out ++ [x]) hm.2 (fun y hy => hx y (by simp [hy])) (by simp; omega) (by simp at hf ⊢; omega)]
    simp

theorem one_text_le {x : Itm} : x.s.length ≤ (one x).length ∨ x.t = false := by
  obtain ⟨t, n, s⟩ := x
  cases t
  · exact .inr rfl
  · left; simp [one]; omega
theorem text_le {l : List Itm} (hm : l.all may = true) {x : Itm} (hx : x ∈ l) : x.s.length ≤ (allB l).length := by
  obtain ⟨a, b, rfl⟩ := List.append_of_mem hx
  have hlen : (one x).length ≤ (allB (a ++ x :: b)).length := by simp [allB]; omega
  rcases one_text_le (x := x) with h | h
  · omega
  · have := List.all_eq_true.1 hm x hx
    unfold may at this
    rw [h] at this
    have : x.s = [] := by simpa using this
    rw [this]; simp

/-- What was encoded. -/
theorem encR_ok {l : List Itm} {s : List UInt8} (h : encR l = (s, 0)) : s = allB l ∧ l.length ≤ 4096 ∧ l.all may = true ∧ (allB l).length ≤ 262144 := by
  unfold encR at h
  split at h
  · cases h
  · split at h
    · cases h
    · split at h
      · cases h
      · simp only [Prod.mk.injEq] at h
        exact ⟨h.1.symm, by omega, by simpa using (by assumption : ¬ (l.all may = false)), by omega⟩
theorem encR_of {l : List Itm} (h1 : l.length ≤ 4096) (h2 : l.all may = true) (h3 : (allB l).length ≤ 262144) : encR l = (allB l, 0) := by
  unfold encR
  rw [if_neg (by omega), if_neg (by simp [h2]), if_neg (by omega)]
theorem encR_no {l : List Itm} (h : (encR l).2 ≠ 0) : (encR l).1 = [] := by
  unfold encR at *
  split
  · rfl
  · split
    · rfl
    · split
      · rfl
      · rename_i h1 h2 h3
        rw [if_neg h1, if_neg h2, if_neg h3] at h
        exact absurd rfl h

theorem dec_enc {l : List Itm} (hI : ∀ x ∈ l, okI x) {s : List UInt8} (h : encR l = (s, 0)) : decR s = (l, 0, 0) := by
  obtain ⟨rfl, h1, h2, h3⟩ := encR_ok h
  unfold decR
  rw [if_neg (by omega)]
  have := decF_all (allB l).length [] l ((allB l).length + 1) [] h2 (fun x hx => ⟨hI x hx, by have := text_le h2 hx; omega⟩) (by simpa using h1) (by simp)
  rw [List.append_nil] at this
  rw [this, List.nil_append, decF]
  simp

/-! ### what is read was written so -/
theorem rdN_back : ∀ (t : List UInt8) (v u : Nat) (r : List UInt8), v ≠ 0 → rdN false v t = .ok u r → hi v ++ t = num u ++ r
  | [], v, u, r, _, h => by simp [rdN] at h
  | c :: cs, v, u, r, h0, h => by
    rw [rdN_cons] at h
    split at h
    · cases h
    · split at h
      · rename_i hc
        cases h
        unfold num
        rw [show (v * 128 + c.toNat % 128) / 128 = v by omega, show (v * 128 + c.toNat % 128) % 128 = c.toNat by omega]
        simp
      · rename_i hc
        have := rdN_back cs (v * 128 + c.toNat % 128) u r (by omega) h
        rw [← this, hi_pos (by omega : v * 128 + c.toNat % 128 ≠ 0), show (v * 128 + c.toNat % 128) / 128 = v by omega]
        have hcl := c.toNat_lt
        rw [show (v * 128 + c.toNat % 128) % 128 + 128 = c.toNat by omega]
        simp
theorem rdN_first {t : List UInt8} {u : Nat} {r : List UInt8} (h : rdN true 0 t = .ok u r) : t = num u ++ r := by
  cases t with
  | nil => simp [rdN] at h
  | cons c cs =>
    have hcl := c.toNat_lt
    rw [rdN_cons] at h
    split at h
    · cases h
    · rename_i hno
      split at h
      · cases h
        unfold num
        rw [show (0 * 128 + c.toNat % 128) / 128 = 0 by omega, hi_zero, show (0 * 128 + c.toNat % 128) % 128 = c.toNat by omega]
        simp
      · rename_i hc
        have hne : c.toNat ≠ 128 := fun e => hno (.inl ⟨rfl, e⟩)
        have := rdN_back cs _ u r (by omega) h
        rw [← this, hi_pos (by omega), show (0 * 128 + c.toNat % 128) / 128 = 0 by omega, hi_zero, show (0 * 128 + c.toNat % 128) % 128 + 128 = c.toNat by omega]
        simp

theorem rdI_back {l r : List UInt8} {x : Itm} (h : rdI l = .ok x r) : l = one x ++ r ∧ may x = true := by
  cases l with
  | nil => cases h
  | cons k t =>
    have hkl := k.toNat_lt
    rw [rdI] at h
    split at h
    · cases h
    · rename_i hk
      cases hr : rdN true 0 t with
      | err e => rw [hr] at h; cases h
      | ok u r' =>
        rw [hr] at h
        simp only at h
        have ht := rdN_first hr
        by_cases h1 : k.toNat = 1
        · rw [if_pos h1] at h
          simp only [Rd.ok.injEq] at h
          obtain ⟨rfl, rfl⟩ := h
          obtain rfl : k = 1 := UInt8.toNat_inj.1 h1
          refine ⟨?_, by simp [may]⟩
          simp only [one, Bool.false_eq_true, if_false, zig_zag, List.cons_append]
          rw [← ht]
        · rw [if_neg h1] at h
          by_cases h2 : zag u < 0 ∨ 262144 < zag u
          · rw [if_pos h2] at h; cases h
          · rw [if_neg h2] at h
            by_cases h3 : (r'.length : Int) < zag u
            · rw [if_pos h3] at h; cases h
            · rw [if_neg h3] at h
              simp only [Rd.ok.injEq] at h
              obtain ⟨rfl, rfl⟩ := h
              obtain rfl : k = 2 := UInt8.toNat_inj.1 (by show k.toNat = 2; omega)
              refine ⟨?_, by simp [may]⟩
              have hz : zig ((r'.take (zag u).toNat).length : Int) = u := by
                rw [List.length_take, Nat.min_eq_left (by omega)]
                rw [show (((zag u).toNat : Nat) : Int) = zag u by omega, zig_zag]
              simp only [one, if_true, List.cons_append, List.append_assoc, hz, List.take_append_drop]
              rw [← ht]

theorem decF_back (len : Nat) : ∀ (f : Nat) (l : List UInt8) (out res : List Itm), l.length < f → out.length ≤ 4096 → decF len f l out = (res, 0, 0) → ∃ l', res = out ++ l' ∧ l = allB l' ∧ l'.all may = true ∧ res.length ≤ 4096 ∧ ∀ x ∈ l', okI x
  | 0, l, out, res, h, _, _ => by omega
  | f + 1, l, out, res, hf, ho, h => by
    rw [decF] at h
    split at h
    · rename_i hl
      cases h
      exact ⟨[], by simp, by rw [hl]; rfl, rfl, ho, by simp⟩
    · split at h
      · simp at h
      · cases hr : rdI l with
        | err e =>
          rw [hr] at h
          rcases rdI_err hr with rfl | rfl <;> simp at h
        | ok x r =>
          rw [hr] at h
          obtain ⟨hlt, hx, _⟩ := rdI_ok hr
          obtain ⟨hl, hm⟩ := rdI_back hr
          rename_i h4
          obtain ⟨l', h1, h2, h3, h5, h6⟩ := decF_back len f r (out ++ [x]) res (by omega) (by simp; omega) h
          refine ⟨x :: l', by simpa using h1, ?_, by simp [hm, h3], h5, fun y hy => by rcases List.mem_cons.1 hy with rfl | hy; exact hx; exact h6 y hy⟩
          rw [hl, h2]; simp [allB]
theorem dec_ok {b : List UInt8} {out : List Itm} (h : decR b = (out, 0, 0)) : encR out = (b, 0) ∧ ∀ x ∈ out, okI x := by
  unfold decR at h
  split at h
  · cases h
  · obtain ⟨l', h1, h2, h3, h4, h5⟩ := decF_back b.length (b.length + 1) b [] out (by omega) (by simp) h
    rw [List.nil_append] at h1
    subst h1
    exact ⟨by rw [encR_of h4 h3 (by rw [← h2]; omega), ← h2], h5⟩

theorem decF_no (len : Nat) : ∀ (f : Nat) (l : List UInt8) (out : List Itm), (decF len f l out).2 = (0, 0) ∨ ((decF len f l out).1 = [] ∧ (decF len f l out).2.2 ≠ 0)
  | 0, l, out => .inl rfl
  | f + 1, l, out => by
    rw [decF]
    split
    · exact .inl rfl
    · split
      · exact .inr ⟨rfl, by simp⟩
      · cases hr : rdI l with
        | err e =>
          rcases rdI_err hr with rfl | rfl
          · exact .inr ⟨rfl, by simp⟩
          · exact .inr ⟨rfl, by simp⟩
        | ok x r => exact decF_no len f r _
theorem dec_no (b : List UInt8) : (decR b).2 = (0, 0) ∨ ((decR b).1 = [] ∧ (decR b).2.2 ≠ 0) := by
  unfold decR
  split
  · exact .inr ⟨rfl, by simp⟩
  · exact decF_no _ _ _ _

/-! ### lists one behind the other; a beginning -/
theorem enc_join {a b : List Itm} {s t : List UInt8} (ha : encR a = (s, 0)) (hb : encR b = (t, 0)) (hl : a.length + b.length ≤ 4096) (hs : s.length + t.length ≤ 262144) : encR (a ++ b) = (s ++ t, 0) := by
  obtain ⟨rfl, a1, a2, a3⟩ := encR_ok ha
  obtain ⟨rfl, b1, b2, b3⟩ := encR_ok hb
  have e : allB (a ++ b) = allB a ++ allB b := by simp [allB]
  rw [encR_of (by simpa using hl) (by simp [a2, b2]) (by rw [e]; simpa using hs), e]

theorem rdN_more : ∀ (q : List UInt8) (f : Bool) (u : Nat) (t : List UInt8), (∀ v r, rdN f u q = .ok v r → rdN f u (q ++ t) = .ok v (r ++ t)) ∧ (rdN f u q = .err 3 → rdN f u (q ++ t) = .err 3)
  | [], f, u, t => ⟨fun v r h => by simp [rdN] at h, fun h => by simp [rdN] at h⟩
  | c :: cs, f, u, t => by
    have ih := rdN_more cs false (u * 128 + c.toNat % 128) t
    rw [List.cons_append, rdN_cons, rdN_cons]
    split
    · exact ⟨(fun v r h => by cases h), fun h => rfl⟩
    · split
      · refine ⟨fun v r h => ?_, fun h => by cases h⟩
        cases h; rfl
      · exact ih
theorem rdI_more {p : List UInt8} (hp : p ≠ []) (t : List UInt8) : (∀ x r, rdI p = .ok x r → rdI (p ++ t) = .ok x (r ++ t)) ∧ (rdI p = .err 3 → rdI (p ++ t) = .err 3) := by
  cases p with
  | nil => exact absurd rfl hp
  | cons k q =>
    have hm := rdN_more q true 0 t
    rw [List.cons_append, rdI, rdI]
    split
    · exact ⟨(fun x r h => by cases h), fun _ => rfl⟩
    · cases hr : rdN true 0 q with
      | err e =>
        simp only
        refine ⟨(fun x r h => by cases h), fun h => ?_⟩
        cases h
        rw [hm.2 hr]
      | ok u r' =>
        rw [hm.1 u r' hr]
        simp only
        split
        · exact ⟨(fun x r h => by cases h; rfl), (fun h => by cases h)⟩
        · split
          · exact ⟨(fun x r h => by cases h), fun _ => rfl⟩
          · rename_i h2
            by_cases h3 : (r'.length : Int) < zag u
            · rw [if_pos h3]
              exact ⟨(fun x r h => by cases h), fun h => by cases h⟩
            · rw [if_neg h3, if_neg (by simp; omega)]
              refine ⟨fun x r h => ?_, fun h => by cases h⟩
              simp only [Rd.ok.injEq] at h
              obtain ⟨rfl, rfl⟩ := h
              rw [List.take_append_of_le_length (by omega), List.drop_append_of_le_length (by omega)]
theorem rdI_torn {x : Itm} (hm : may x = true) (hx : okI x) (hs : x.s.length ≤ 262144) {p t : List UInt8} (h : one x = p ++ t) (hp : p ≠ []) (ht : t ≠ []) : rdI p = .err 11 := by
  have hone := rdI_one hm hx hs []
  rw [List.append_nil, h] at hone
  cases hr : rdI p with
  | ok y r =>
    have := (rdI_more hp t).1 y r hr
    rw [hone] at this
    simp only [Rd.ok.injEq] at this
    have := List.append_eq_nil_iff.1 this.2.symm
    exact absurd this.2 ht
  | err e =>
    rcases rdI_err hr with rfl | rfl
    · have := (rdI_more hp t).2 hr
      rw [hone] at this; cases this
    · rfl
theorem dec_torn {a b : List Itm} {x : Itm} {s t : List UInt8} (hIa : ∀ x ∈ a, okI x) (hIx : okI x) (ha : encR a = (s, 0)) (hb : encR (x :: b) = (t, 0)) (hl : a.length + (x :: b).length ≤ 4096) {p q : List UInt8} (h : one x = p ++ q) (hp : p ≠ []) (hq : q ≠ []) (hs : s.length + p.length ≤ 262144) :
    decR (s ++ p) = ([], (s.length : Int), 11) := by
  obtain ⟨rfl, a1, a2, a3⟩ := encR_ok ha
  obtain ⟨rfl, b1, b2, b3⟩ := encR_ok hb
  have hmx : may x = true := List.all_eq_true.1 b2 x (by simp)
  have hsx : x.s.length ≤ 262144 := by have := text_le b2 (x := x) (by simp); omega
  unfold decR
  rw [if_neg (by simp; omega), decF_all _ p a _ [] a2 (fun y hy => ⟨hIa y hy, by have := text_le a2 hy; omega⟩) (by simpa using a1) (by omega), List.nil_append, decF_step (by simp; omega), if_neg hp, if_neg (by simp at hl; omega), rdI_torn hmx hIx hsx h hp hq]
  simp

/-! ### how long -/
theorem hi_len_pos {v : Nat} (h : v ≠ 0) : (hi v).length = (hi (v / 128)).length + 1 := by rw [hi_pos h]; simp
theorem zig_half (n : Int) : zig n / 2 = (if n < 0 then (-1 - n).toNat else n.toNat) := by unfold zig; split <;> omega
theorem num_len_half (n : Int) : (num (zig n)).length = 1 + (hi (zig n / 2 / 64)).length := by
  unfold num; simp [Nat.div_div_eq_div_mul, Nat.add_comm]
theorem zig_other (n : Int) : zig (-1 - n) / 2 = zig n / 2 := by unfold zig; split <;> split <;> omega
end Go.Pk

/- Events as bytes, plainly. Own work. -/
import Derived.Test.YtbcnpklmhgcenaaDoorMp
import Derived.Test.YtbcnpklmhgcenaaDoorPk2
namespace Go.Ev
open Go Go.Sy Go.Sp Go.Lib Go.Proofs.YtbcnpklmhgcenaaDoor
set_option linter.unusedVariables false
set_option linter.unusedSimpArgs false
def itemsE (x : Evt) : List Pk.Itm := [⟨true, 0, x.key⟩, ⟨true, 0, x.typ⟩, ⟨false, x.n0, []⟩, ⟨false, x.n1, []⟩, ⟨false, x.n2, []⟩, ⟨false, x.n3, []⟩, ⟨true, 0, x.text⟩]
def okN (x : Evt) : Prop := okI x.n0 ∧ okI x.n1 ∧ okI x.n2 ∧ okI x.n3
theorem itemsE_ok {x : Evt} (hx : okE x) (hn : okN x) : ∀ y ∈ itemsE x, Pk.okI y := by
  obtain ⟨h1, h2, h3⟩ := hx
  obtain ⟨n0, n1, n2, n3⟩ := hn
  intro y hy
  simp only [itemsE, List.mem_cons, List.not_mem_nil, or_false] at hy
  rcases hy with rfl | rfl | rfl | rfl | rfl | rfl | rfl
  · exact ⟨by simp, by simp, h1⟩
  · exact ⟨by simp, by simp, h2⟩
  · exact ⟨n0.1, n0.2, by simp⟩
  · exact ⟨n1.1, n1.2, by simp⟩
  · exact ⟨n2.1, n2.2, by simp⟩
  · exact ⟨n3.1, n3.2, by simp⟩
  · exact ⟨by simp, by simp, h3⟩
theorem nameOk_len {s : List UInt8} (h : nameOk s = true) : s.length ≤ 32 := by
  unfold nameOk at h
  exact (of_decide_eq_true h).2.1
theorem allB_bound (n B : Nat) : ∀ l : List Pk.Itm, l.length ≤ n → (∀ y ∈ l, Pk.okI y ∧ y.s.length ≤ B) → (Pk.allB l).length ≤ n * (11 + B) := by
  induction n with
  | zero => intro l hl _; obtain rfl := List.eq_nil_of_length_eq_zero (by omega : l.length = 0); simp [Pk.allB]
  | succ n ih =>
    intro l hl h
    cases l with
    | nil => simp [Pk.allB]
    | cons a l =>
      have := ih l (by simp at hl; omega) fun y hy => h y (by simp [hy])
      have h1 := Pk.one_len (h a (by simp)).1
      have h2 := (h a (by simp)).2
      have e : Pk.allB (a :: l) = Pk.one a ++ Pk.allB l := by simp [Pk.allB]
      rw [e, List.length_append, Nat.add_mul, Nat.one_mul]
      omega
theorem encR_E {x : Evt} (hx : okE x) (hn : okN x) (hm : mayE x = true) : Pk.encR (itemsE x) = (Pk.allB (itemsE x), 0) ∧ (Pk.allB (itemsE x)).length ≤ 262144 := by
  have hb : (Pk.allB (itemsE x)).length ≤ 7 * (11 + 256) := by
    refine allB_bound 7 256 _ (by simp [itemsE]) fun y hy => ⟨itemsE_ok hx hn y hy, ?_⟩
    unfold mayE at hm
    simp only [Bool.and_eq_true, decide_eq_true_eq] at hm
    have h1 := nameOk_len hm.1
    have h2 := nameOk_len hm.2.1
    simp only [itemsE, List.mem_cons, List.not_mem_nil, or_false] at hy
    rcases hy with rfl | rfl | rfl | rfl | rfl | rfl | rfl <;> simp <;> omega
  exact ⟨Pk.encR_of (by simp [itemsE]) (by simp [itemsE, Pk.may]) (by omega), by omega⟩
def encE (x : Evt) : List UInt8 × Int := if mayE x then (Pk.allB (itemsE x), 0) else ([], 20)
def zeroE : Evt := ⟨[], [], 0, 0, 0, 0, []⟩
def decE (b : List UInt8) : Evt × Int :=
  if 262144 < b.length then (zeroE, 2) else match Pk.decR b with
    | ([a, b, c, d, e, f, g], _, 0) => if a.t && (b.t && (g.t && (!c.t && (!d.t && (!e.t && (!f.t && mayE ⟨a.s, b.s, c.n, d.n, e.n, f.n, g.s⟩)))))) then (⟨a.s, b.s, c.n, d.n, e.n, f.n, g.s⟩, 0) else (zeroE, 20)
    | _ => (zeroE, 20)
theorem decE_long {b : List UInt8} (h : 262144 < b.length) : decE b = (zeroE, 2) := by unfold decE; rw [if_pos h]
theorem decE_err {b : List UInt8} {l : List Pk.Itm} {p e : Int} (h : ¬ 262144 < b.length) (hd : Pk.decR b = (l, p, e)) (he : e ≠ 0 ∨ l.length ≠ 7) : decE b = (zeroE, 20) := by
  unfold decE
  rw [if_neg h, hd]
  split
  · rename_i h
    simp only [Prod.mk.injEq] at h
    rcases he with he | he
    · exact absurd h.2.2 he
    · rw [h.1] at he; exact absurd rfl he
  · rfl
theorem decE_seven {s : List UInt8} {a b c d e f g : Pk.Itm} {p : Int} (h : ¬ 262144 < s.length) (hd : Pk.decR s = ([a, b, c, d, e, f, g], p, 0)) :
    decE s = if a.t && (b.t && (g.t && (!c.t && (!d.t && (!e.t && (!f.t && mayE ⟨a.s, b.s, c.n, d.n, e.n, f.n, g.s⟩)))))) then (⟨a.s, b.s, c.n, d.n, e.n, f.n, g.s⟩, 0) else (zeroE, 20) := by
  unfold decE
  rw [if_neg h, hd]
  rfl
theorem may_t {y : Pk.Itm} (h : Pk.may y = true) (ht : y.t = true) : y = ⟨true, 0, y.s⟩ := by
  obtain ⟨t, n, s⟩ := y
  simp only at ht; subst ht
  simp [Pk.may] at h; simp [h]
theorem may_f {y : Pk.Itm} (h : Pk.may y = true) (ht : y.t = false) : y = ⟨false, y.n, []⟩ := by
  obtain ⟨t, n, s⟩ := y
  simp only at ht; subst ht
  simp [Pk.may] at h; simp [h]
/-- The program reads by writing again. -/
theorem decE_back {s : List UInt8} {a b c d e f g : Pk.Itm} {p : Int} (hd : Pk.decR s = ([a, b, c, d, e, f, g], p, 0)) :
    (mayE ⟨a.s, b.s, c.n, d.n, e.n, f.n, g.s⟩ = true ∧ Pk.allB (itemsE ⟨a.s, b.s, c.n, d.n, e.n, f.n, g.s⟩) = s) ↔
      (a.t && (b.t && (g.t && (!c.t && (!d.t && (!e.t && (!f.t && mayE ⟨a.s, b.s, c.n, d.n, e.n, f.n, g.s⟩))))))) = true := by
  have hp : p = 0 := by
    have := Pk.dec_no s
    rw [hd] at this
    rcases this with h | h
    · exact (Prod.mk.inj h).1
    · cases h.1
  subst hp
  obtain ⟨h1, h2⟩ := Pk.dec_ok hd
  obtain ⟨h3, h4, h5, h6⟩ := Pk.encR_ok h1
  simp only [List.all_cons, List.all_nil, Bool.and_true, Bool.and_eq_true] at h5
  obtain ⟨m1, m2, m3, m4, m5, m6, m7⟩ := h5
  have o1 := h2 a (by simp)
  have o2 := h2 b (by simp)
  have o3 := h2 c (by simp)
  have o4 := h2 d (by simp)
  have o5 := h2 e (by simp)
  have o6 := h2 f (by simp)
  have o7 := h2 g (by simp)
  simp only [Bool.and_eq_true, Bool.not_eq_true']
  constructor
  · rintro ⟨hm, hs⟩
    have hE := (encR_E (x := ⟨a.s, b.s, c.n, d.n, e.n, f.n, g.s⟩) ⟨o1.2.2, o2.2.2, o7.2.2⟩ ⟨⟨o3.1, o3.2.1⟩, ⟨o4.1, o4.2.1⟩, ⟨o5.1, o5.2.1⟩, o6.1, o6.2.1⟩ hm).1
    rw [hs] at hE
    have hdd := Pk.dec_enc (itemsE_ok (x := ⟨a.s, b.s, c.n, d.n, e.n, f.n, g.s⟩) ⟨o1.2.2, o2.2.2, o7.2.2⟩ ⟨⟨o3.1, o3.2.1⟩, ⟨o4.1, o4.2.1⟩, ⟨o5.1, o5.2.1⟩, o6.1, o6.2.1⟩) hE
    rw [hd] at hdd
    have hl := (Prod.mk.inj hdd).1
    simp only [itemsE, List.cons.injEq, and_true] at hl
    obtain ⟨k1, k2, k3, k4, k5, k6, k7⟩ := hl
    exact ⟨by rw [k1], by rw [k2], by rw [k7], by rw [k3], by rw [k4], by rw [k5], by rw [k6], hm⟩
  · rintro ⟨t1, t2, t7, t3, t4, t5, t6, hm⟩
    refine ⟨hm, ?_⟩
    rw [h3]
    congr 1
    unfold itemsE
    dsimp only
    rw [← may_t m1 t1, ← may_t m2 t2, ← may_f m3 t3, ← may_f m4 t4, ← may_f m5 t5, ← may_f m6 t6, ← may_t m7 t7]
end Go.Ev

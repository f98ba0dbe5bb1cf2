/- The order of matches, plainly: it is one. Own work. -/
import Derived.Test.YtbcnpklmhgcenaaDoorMp
namespace Go.Ev
open Go Go.Sy Go.Sp Go.Lib
set_option linter.unusedVariables false
set_option linter.unusedSimpArgs false
structure Pre {α : Type} (c : α → α → Int) : Prop where
  anti : ∀ x y, c y x = - c x y
  tr : ∀ x y z, c x y ≤ 0 → c y z ≤ 0 → c x z ≤ 0
theorem Pre.zero {α : Type} {c : α → α → Int} (h : Pre c) {x y z : α} (h1 : c x y ≤ 0) (h2 : c y z ≤ 0) (h3 : c x z = 0) : c x y = 0 ∧ c y z = 0 := by
  have a1 := h.anti x y
  have a2 := h.anti y z
  have a3 := h.anti x z
  have t1 := h.tr z x y (by omega) h1
  have t2 := h.tr y z x h2 (by omega)
  omega
theorem Pre.refl {α : Type} {c : α → α → Int} (h : Pre c) (x : α) : c x x = 0 := by have := h.anti x x; omega
theorem Pre.lex {α : Type} {c d : α → α → Int} (hc : Pre c) (hd : Pre d) : Pre fun x y => if c x y ≠ 0 then c x y else d x y := by
  refine ⟨fun x y => ?_, fun x y z h1 h2 => ?_⟩
  · have a := hc.anti x y
    have b := hd.anti x y
    by_cases h : c x y = 0
    · rw [if_neg (by omega), if_neg (by omega), b]
    · rw [if_pos (by omega), if_pos (by omega), a]
  · try simp only at h1 h2 ⊢
    have k1 : c x y ≤ 0 := by split at h1 <;> omega
    have k2 : c y z ≤ 0 := by split at h2 <;> omega
    have k3 := hc.tr x y z k1 k2
    by_cases h : c x z = 0
    · obtain ⟨e1, e2⟩ := hc.zero k1 k2 h
      rw [if_neg (by omega)] at h1 h2 ⊢
      exact hd.tr x y z h1 h2
    · rw [if_pos h]; exact k3
theorem Pre.map {α β : Type} {c : β → β → Int} (hc : Pre c) (f : α → β) : Pre fun x y => c (f x) (f y) := ⟨fun x y => hc.anti _ _, fun x y z => hc.tr _ _ _⟩
def lexL {α : Type} (c : α → α → Int) : List α → List α → Int
  | [], [] => 0
  | [], _ :: _ => -1
  | _ :: _, [] => 1
  | x :: xs, y :: ys => if c x y ≠ 0 then c x y else lexL c xs ys
theorem lexL_pre {α : Type} {c : α → α → Int} (hc : Pre c) : Pre (lexL c) := by
  constructor
  · intro x
    induction x with
    | nil => intro y; cases y <;> rfl
    | cons a x ih =>
      intro y
      cases y with
      | nil => rfl
      | cons b y =>
        unfold lexL
        have h1 := hc.anti a b
        have h2 := ih y
        by_cases h : c a b = 0
        · rw [if_neg (by omega), if_neg (by omega), h2]
        · rw [if_pos (by omega), if_pos (by omega), h1]
  · intro x
    induction x with
    | nil => intro y z; cases y <;> cases z <;> simp [lexL]
    | cons a x ih =>
      intro y z h1 h2
      cases y with
      | nil => exact absurd h1 (by simp [lexL])
      | cons b y =>
        cases z with
        | nil => exact absurd h2 (by simp [lexL])
        | cons d z =>
          unfold lexL at h1 h2 ⊢
          have k1 : c a b ≤ 0 := by split at h1 <;> omega
          have k2 : c b d ≤ 0 := by split at h2 <;> omega
          have k3 := hc.tr a b d k1 k2
          by_cases h : c a d = 0
          · obtain ⟨e1, e2⟩ := hc.zero k1 k2 h
            rw [if_neg (by omega)] at h1 h2 ⊢
            exact ih y z h1 h2
          · rw [if_pos h]; exact k3
theorem lexL_zero {α : Type} {c : α → α → Int} (hc : ∀ x y, c x y = 0 ↔ x = y) : ∀ x y, lexL c x y = 0 ↔ x = y := by
  intro x
  induction x with
  | nil => intro y; cases y <;> simp [lexL]
  | cons a x ih =>
    intro y
    cases y with
    | nil => simp [lexL]
    | cons b y =>
      unfold lexL
      have h1 := hc a b
      have h2 := ih y
      by_cases h : c a b = 0
      · rw [if_neg (by omega), h2]
        constructor
        · intro e; rw [h1.1 h, e]
        · intro e; exact (List.cons.inj e).2
      · rw [if_pos h]
        constructor
        · intro e; exact absurd e h
        · intro e; exact absurd (h1.2 (List.cons.inj e).1) h
theorem cmpI_pre : Pre cmpI := by
  constructor
  · intro x y; unfold cmpI
    rcases Int.lt_trichotomy x y with h | h | h
    · rw [if_neg (by omega), if_pos h, if_pos h]; rfl
    · rw [if_neg (by omega), if_neg (by omega), if_neg (by omega), if_neg (by omega)]; rfl
    · rw [if_pos h, if_neg (by omega), if_pos h]
  · intro x y z h1 h2
    unfold cmpI at h1 h2 ⊢
    have : x ≤ y := by split at h1; omega; split at h1 <;> omega
    have : y ≤ z := by split at h2; omega; split at h2 <;> omega
    split; decide
    split; omega
    decide
theorem cmpI_zero (x y : Int) : cmpI x y = 0 ↔ x = y := by
  unfold cmpI
  split
  · constructor <;> intro h <;> omega
  · split
    · constructor <;> intro h <;> omega
    · constructor <;> intro h <;> omega
theorem cmpS_lex (x y : List Int) : cmpS x y = lexL cmpI x y := by
  induction x generalizing y with
  | nil => cases y <;> rfl
  | cons a x ih => cases y with
    | nil => rfl
    | cons b y => unfold cmpS lexL; rw [ih]
theorem cmpS_eq : cmpS = lexL cmpI := funext fun x => funext fun y => cmpS_lex x y
theorem cmpT_lex (x y : List (List Int)) : cmpT x y = lexL cmpS x y := by
  induction x generalizing y with
  | nil => cases y <;> rfl
  | cons a x ih => cases y with
    | nil => rfl
    | cons b y => unfold cmpT lexL; rw [ih]
theorem cmpT_eq : cmpT = lexL cmpS := funext fun x => funext fun y => cmpT_lex x y
def cmpB (x y : UInt8) : Int := cmpI x.toNat y.toNat
theorem cmpB_pre : Pre cmpB := cmpI_pre.map fun x : UInt8 => (x.toNat : Int)
theorem cmpB_zero (x y : UInt8) : cmpB x y = 0 ↔ x = y := by
  unfold cmpB
  rw [cmpI_zero]
  constructor
  · intro h; exact UInt8.toNat_inj.1 (by omega)
  · rintro rfl; rfl
theorem compareBytes_lex (x y : List UInt8) : compareBytes x y = lexL cmpB x y := by
  induction x generalizing y with
  | nil => cases y <;> rfl
  | cons a x ih => cases y with
    | nil => rfl
    | cons b y =>
      unfold compareBytes lexL
      have e : cmpB a b = if a < b then -1 else if b < a then 1 else 0 := by
        unfold cmpB cmpI
        simp only [UInt8.lt_iff_toNat_lt, gt_iff_lt, Int.ofNat_lt]
      rw [e]
      by_cases h1 : a < b
      · simp [h1]
      · by_cases h2 : b < a
        · simp [h1, h2]
        · simp only [h1, h2, if_false, ne_eq, not_true]; exact ih y
theorem compareBytes_eq : compareBytes = lexL cmpB := funext fun x => funext fun y => compareBytes_lex x y
theorem cmpM_pre : Pre cmpM := by
  have h := ((cmpI_pre.map fun x : Mat => lastM x.st).lex (((lexL_pre (lexL_pre cmpI_pre)).map fun x : Mat => x.st).lex ((lexL_pre cmpB_pre).map fun x : Mat => x.key)))
  rw [← cmpS_eq, ← cmpT_eq, ← compareBytes_eq] at h
  exact h
theorem cmpT_zero (x y : List (List Int)) : cmpT x y = 0 ↔ x = y := by
  rw [cmpT_eq, cmpS_eq]; exact lexL_zero (lexL_zero cmpI_zero) x y
theorem cmpM_zero (x y : Mat) : cmpM x y = 0 ↔ x = y := by
  constructor
  · intro h
    unfold cmpM at h
    split at h
    · exact absurd h (by assumption)
    · split at h
      · exact absurd h (by assumption)
      · rename_i h1 h2
        rw [compareBytes_eq] at h
        have k1 := (cmpT_zero x.st y.st).1 (by omega)
        have k2 := (lexL_zero cmpB_zero _ _).1 h
        obtain ⟨a, b⟩ := x
        obtain ⟨c, d⟩ := y
        simp only at k1 k2
        rw [k1, k2]
  · rintro rfl; exact cmpM_pre.refl x
theorem lexL_bd {α : Type} {c : α → α → Int} (hc : ∀ x y, -1 ≤ c x y ∧ c x y ≤ 1) : ∀ x y, -1 ≤ lexL c x y ∧ lexL c x y ≤ 1 := by
  intro x
  induction x with
  | nil => intro y; cases y <;> simp [lexL]
  | cons a x ih =>
    intro y
    cases y with
    | nil => simp [lexL]
    | cons b y =>
      unfold lexL
      split
      · exact hc a b
      · exact ih y
theorem cmpI_bd (x y : Int) : -1 ≤ cmpI x y ∧ cmpI x y ≤ 1 := by unfold cmpI; split; decide; split <;> decide
theorem cmpM_bd (x y : Mat) : -1 ≤ cmpM x y ∧ cmpM x y ≤ 1 := by
  unfold cmpM
  split
  · exact cmpI_bd _ _
  · split
    · rw [cmpT_eq, cmpS_eq]; exact lexL_bd (lexL_bd cmpI_bd) _ _
    · rw [compareBytes_eq]; exact lexL_bd (fun x y => cmpI_bd _ _) _ _
end Go.Ev

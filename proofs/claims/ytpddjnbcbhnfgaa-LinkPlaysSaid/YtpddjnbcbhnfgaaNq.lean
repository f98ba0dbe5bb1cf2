/- The link's plain laws. Own work. -/
import Derived.Test.YtpddjnbcbhnfgaaN6
namespace Go.Proofs.Ytpddjnbcbhnfgaa
open Go Go.Sy Go.Pk
set_option maxRecDepth 100000
set_option linter.unusedVariables false
set_option linter.unusedSimpArgs false

theorem isP_bytes {k most e n : Int} {t : List UInt8} (hk : k = 0 ∨ k = 1) (ht : k ≠ 0 → t = []) (he : 0 ≤ e ∧ e ≤ 1073741824) (hn : 0 ≤ n ∧ n ≤ most) (hm : most ≤ 1073741825) (hl : t.length ≤ 60000) : isP k most (bytesP k e n t) e n t := by
  refine ⟨?_, ht, he, hn, hl⟩
  have hI : ∀ x ∈ itemsP k e n t, okI x := by
    intro x hx
    unfold itemsP at hx
    rcases List.mem_append.1 hx with hx | hx
    · simp only [List.mem_cons, List.not_mem_nil, or_false] at hx
      rcases hx with rfl | rfl | rfl
      · exact ⟨by show (-9223372036854775808 : Int) ≤ k; omega, by show k ≤ 9223372036854775807; omega, by simp⟩
      · exact ⟨by show (-9223372036854775808 : Int) ≤ e; omega, by show e ≤ 9223372036854775807; omega, by simp⟩
      · exact ⟨by show (-9223372036854775808 : Int) ≤ n; omega, by show n ≤ 9223372036854775807; omega, by simp⟩
    · split at hx
      · rw [List.mem_singleton.1 hx]; exact ⟨(by decide : (-9223372036854775808 : Int) ≤ 0), (by decide : (0 : Int) ≤ 9223372036854775807), by show t.length ≤ _; omega⟩
      · cases hx
  have hone : ∀ x ∈ itemsP k e n t, (one x).length ≤ 11 + x.s.length := fun x hx => one_len (hI x hx)
  have hall : encR (itemsP k e n t) = (allB (itemsP k e n t), 0) := by
    rcases hk with rfl | rfl
    · have hi : itemsP 0 e n t = [⟨false, 0, []⟩, ⟨false, e, []⟩, ⟨false, n, []⟩, ⟨true, 0, t⟩] := rfl
      rw [hi] at hone ⊢
      have h0 := hone ⟨false, 0, []⟩ (by simp)
      have h1 := hone ⟨false, e, []⟩ (by simp)
      have h2 := hone ⟨false, n, []⟩ (by simp)
      have h3 := hone ⟨true, 0, t⟩ (by simp)
      simp only [List.length_nil] at h0 h1 h2 h3
      refine encR_of (by simp) rfl ?_
      show (List.flatMap one _).length ≤ _
      simp only [List.flatMap_cons, List.flatMap_nil, List.length_append, List.length_nil]
      omega
    · have hi : itemsP 1 e n t = [⟨false, 1, []⟩, ⟨false, e, []⟩, ⟨false, n, []⟩] := rfl
      rw [hi] at hone ⊢
      have h0 := hone ⟨false, 1, []⟩ (by simp)
      have h1 := hone ⟨false, e, []⟩ (by simp)
      have h2 := hone ⟨false, n, []⟩ (by simp)
      simp only [List.length_nil] at h0 h1 h2
      refine encR_of (by simp) rfl ?_
      show (List.flatMap one _).length ≤ _
      simp only [List.flatMap_cons, List.flatMap_nil, List.length_append, List.length_nil]
      omega
  refine dec_enc hI ?_
  unfold bytesP
  rw [hall]
theorem pkt_data {e n : Int} {t : List UInt8} (he : 0 ≤ e ∧ e ≤ 1073741824) (hn : 0 ≤ n ∧ n ≤ 1073741824) (hl : t.length ≤ 60000) : pktOf 0 1073741824 (bytesP 0 e n t) = some (e, n, t) :=
  pktOf_some (isP_bytes (.inl rfl) (fun h => absurd rfl h) he hn (by decide) hl)
theorem pkt_ack {e n : Int} (he : 0 ≤ e ∧ e ≤ 1073741824) (hn : 0 ≤ n ∧ n ≤ 1073741825) : pktOf 1 1073741825 (bytesP 1 e n []) = some (e, n, []) :=
  pktOf_some (isP_bytes (.inr rfl) (fun _ => rfl) he hn (by decide) (by simp))

/-- What is told lies in the texts that were pushed. -/
theorem drain_law (P : List (List UInt8)) : ∀ (f : Nat) (L : List (Int × List UInt8)) (m : Nat) (out : List (List UInt8)), m ≤ P.length → (∀ x ∈ L, ∃ j : Nat, x.1 = j ∧ P[j]? = some x.2) →
    ∃ k, m ≤ k ∧ k ≤ P.length ∧ (drain f L m out).1 = out ++ (P.drop m).take (k - m) ∧ (drain f L m out).2.2 = (k : Int) ∧ ∀ x ∈ (drain f L m out).2.1, x ∈ L
  | 0, L, m, out, hm, hL => ⟨m, Nat.le_refl m, hm, by simp [drain], rfl, fun x hx => hx⟩
  | f + 1, L, m, out, hm, hL => by
    cases hg : getM L (m : Int) with
    | none =>
      refine ⟨m, Nat.le_refl m, hm, ?_⟩
      have : drain (f + 1) L m out = (out, L, (m : Int)) := by
        show (match getM L (m : Int) with | none => _ | some t => _) = _
        rw [hg]
      rw [this]
      exact ⟨by simp, rfl, fun x hx => hx⟩
    | some t =>
      obtain ⟨g1, _, g3⟩ := getM_mem hg
      obtain ⟨j, j1, j2⟩ := hL _ g1
      have hjm : j = m := by have j1 : (m : Int) = j := j1; omega
      subst hjm
      have hlt := (List.getElem?_eq_some_iff.1 j2).1
      obtain ⟨k, k1, k2, k3, k4, k5⟩ := drain_law P f (delM L (j : Int)) (j + 1) (out ++ [t]) hlt fun x hx => hL x (g3 x hx)
      have : drain (f + 1) L j out = drain f (delM L (j : Int)) ((j + 1 : Nat) : Int) (out ++ [t]) := by
        show (match getM L (j : Int) with | none => _ | some t => _) = _
        rw [hg]; rfl
      rw [this]
      refine ⟨k, by omega, k2, ?_, k4, fun x hx => g3 x (k5 x hx)⟩
      rw [k3]
      have hd : P.drop j = t :: P.drop (j + 1) := by
        rw [List.drop_eq_getElem_cons hlt]
        congr 1
        exact (List.getElem?_eq_some_iff.1 j2).2
      rw [hd, show k - j = (k - (j + 1)) + 1 by omega, List.take_succ_cons, List.append_assoc]; rfl
def invR (P : List (List UInt8)) (R : Rcv) (told : Nat) : Prop := R.next = told ∧ told ≤ P.length ∧ ∀ x ∈ R.early, ∃ j : Nat, x.1 = j ∧ P[j]? = some x.2
theorem takeR_law {P : List (List UInt8)} {R : Rcv} {told n : Nat} {t : List UInt8} (h : invR P R told) (he : 0 ≤ R.epoch ∧ R.epoch ≤ 1073741824) (hn : P[n]? = some t) (hn2 : n ≤ 1073741824) (hl : t.length ≤ 60000) :
    ∃ k R', told ≤ k ∧ k ≤ P.length ∧ takeR R (bytesP 0 R.epoch n t) = (((P.drop told).take (k - told), bytesP 1 R.epoch k [], 0), R') ∧ invR P R' k ∧ R'.epoch = R.epoch ∧ R'.window = R.window := by
  obtain ⟨ep, wd, nx, E⟩ := R
  obtain ⟨h1, h2, h3⟩ := h
  dsimp only at h1 h3 he
  subst h1
  have hS : ∀ x ∈ storeR ⟨ep, wd, told, E⟩ n t, ∃ j : Nat, x.1 = j ∧ P[j]? = some x.2 := by
    intro x hx
    unfold storeR at hx
    split at hx
    · rcases List.mem_append.1 hx with hx | hx
      · exact h3 x hx
      · rw [List.mem_singleton.1 hx]; exact ⟨n, rfl, hn⟩
    · exact h3 x hx
  obtain ⟨k, k1, k2, k3, k4, k5⟩ := drain_law P (storeR ⟨ep, wd, told, E⟩ n t).length (storeR ⟨ep, wd, told, E⟩ n t) told [] h2 hS
  refine ⟨k, ⟨ep, wd, k, (drain (storeR ⟨ep, wd, told, E⟩ n t).length (storeR ⟨ep, wd, told, E⟩ n t) told []).2.1⟩, k1, k2, ?_, ⟨rfl, k2, fun x hx => hS x (k5 x hx)⟩, rfl, rfl⟩
  unfold takeR
  rw [pkt_data he (by omega) hl]
  dsimp only
  rw [if_neg (by simp), k3, k4]
  rfl

/-- Of the first ones all wait: nothing is due. -/
theorem due_none {S : Snd} {now : Int} : ∀ {k : Nat}, (∀ j < k, ∀ x, S.l[j]? = some x → waits S.patience now x = true) → k ≤ S.l.length → dueOut S now k = [] ∧ dueL S now k = S.l
  | 0, _, _ => ⟨rfl, dueL_zero S now⟩
  | k + 1, h, hk => by
    obtain ⟨i1, i2⟩ := due_none (k := k) (fun j hj x hx => h j (by omega) x hx) (by omega)
    obtain ⟨x, hx⟩ : ∃ x, S.l[k]? = some x := ⟨_, List.getElem?_eq_getElem (by omega)⟩
    have hw := h k (by omega) x hx
    refine ⟨by rw [dueOut_skip hx hw, i1], ?_⟩
    rw [dueL_step hx, hw, if_pos rfl, i2, set_id hx]
/-- Of the first ones none waits: all are due. -/
theorem due_all {S : Snd} {now : Int} : ∀ {k : Nat}, (∀ j < k, ∀ x, S.l[j]? = some x → waits S.patience now x = false) → k ≤ S.l.length →
    (dueOut S now k).length = k ∧ (∀ j < k, ∀ x, S.l[j]? = some x → (dueOut S now k)[j]? = some (bytesP 0 S.epoch (S.first + (j : Int)) x.1))
  | 0, _, _ => ⟨rfl, fun j hj => absurd hj (by omega)⟩
  | k + 1, h, hk => by
    obtain ⟨i1, i2⟩ := due_all (k := k) (fun j hj x hx => h j (by omega) x hx) (by omega)
    obtain ⟨x, hx⟩ : ∃ x, S.l[k]? = some x := ⟨_, List.getElem?_eq_getElem (by omega)⟩
    have hw := h k (by omega) x hx
    rw [dueOut_more hx hw]
    refine ⟨by simp [i1], fun j hj y hy => ?_⟩
    by_cases hjk : j < k
    · rw [List.getElem?_append_left (by omega)]; exact i2 j hjk y hy
    · have : j = k := by omega
      subst this
      rw [hx] at hy
      cases hy
      rw [List.getElem?_append_right (by omega), i1, Nat.sub_self]; rfl
theorem dueL_get {S : Snd} {now : Int} {k j : Nat} (hk : k ≤ S.l.length) : (dueL S now k)[j]? = (S.l[j]?).map fun x => if j < k ∧ waits S.patience now x = false then (x.1, now + 1) else x := by
  unfold dueL
  have hl : ((S.l.take k).map fun x => if waits S.patience now x = true then x else (x.1, now + 1)).length = k := by simp; omega
  by_cases hj : j < k
  · rw [List.getElem?_append_left (by omega), List.getElem?_map, List.getElem?_take_of_lt hj]
    congr 1
    funext x
    cases hw : waits S.patience now x <;> simp [hj]
  · rw [List.getElem?_append_right (by omega), hl, List.getElem?_drop, show k + (j - k) = j by omega]
    cases S.l[j]? with
    | none => rfl
    | some x => simp [hj]
theorem dueOut_mem {S : Snd} {now : Int} {k : Nat} {b : List UInt8} (h : b ∈ dueOut S now k) : ∃ (i : Nat) (x : List UInt8 × Int), i < k ∧ S.l[i]? = some x ∧ b = bytesP 0 S.epoch (S.first + (i : Int)) x.1 := by
  unfold dueOut at h
  obtain ⟨i, hi, hb⟩ := List.mem_filterMap.1 h
  cases hx : S.l[i]? with
  | none => rw [hx] at hb; cases hb
  | some x =>
    rw [hx] at hb
    dsimp only at hb
    split at hb
    · cases hb
    · exact ⟨i, x, List.mem_range.1 hi, hx, (Option.some.inj hb).symm⟩
theorem dueL_fst (S : Snd) (now : Int) (k : Nat) : (dueL S now k).map (·.1) = S.l.map (·.1) := by
  unfold dueL
  rw [List.map_append, List.map_map]
  rw [show ((fun x : List UInt8 × Int => x.1) ∘ fun x => if waits S.patience now x = true then x else (x.1, now + 1)) = (·.1) from by funext x; dsimp only [Function.comp]; split <;> rfl]
  rw [← List.map_append, List.take_append_drop]
end Go.Proofs.Ytpddjnbcbhnfgaa

/- The credit laws' own steps: among, works. Own work. -/
import Derived.Test.YtbmdmeljflmcgaaC1
namespace Go.Proofs.Ytbmdmeljflmcgaa
open Go Go.Sx
set_option maxRecDepth 100000
set_option linter.unusedVariables false
set_option linter.unusedSimpArgs false
set_option maxHeartbeats 4000000

theorem among_ob (x : Int) (n : Nat) (h0 : 0 < n) (h1 : n ≤ 1000000) (H : SH) (K : SV → SH → Prop) (h : ∀ r : Nat, r < n → K (.int .i64 r) H) :
    FnOb Try.prog 14 [.int .i64 x, .int .i64 n] H K := by
  have a1 : x.tmod n < n := Int.tmod_lt_of_pos _ (by omega)
  have a2 : -(n : Int) < x.tmod n := by
    have := Int.lt_tmod_of_pos x (show (0 : Int) < n by omega)
    omega
  have e0 : IntKind.i64.wrap (x.tmod n + n) = x.tmod n + n := wr (by omega) (by omega)
  have e1 : (x.tmod n + n).tmod n = (((x.tmod n + n).toNat % n : Nat) : Int) := by
    rw [← tmod_nat]; congr 1; omega
  apply en14
  repeat' first | refine And.intro trivial ?_ | refine And.intro rfl ?_ | (refine And.intro (fun h => ?_) (fun h => ?_) <;> try (first | (exact absurd h (by decide)) | (exfalso; simp only [decide_eq_true_eq, decide_eq_false_iff_not, Bool.not_eq_true', Bool.not_eq_false', cond_true, cond_false, Bool.false_eq_true, Bool.true_eq_false, Bool.not_true, Bool.not_false, reduceCtorEq, not_true_eq_false, not_false_eq_true, eq_self, ne_eq] at h; first | done | omega | contradiction))) | refine And.intro ?_ ?_ | exact rfl
  · omega
  · omega
  · conv => whnf
    rw [e0, e1]
    exact h _ (Nat.mod_lt _ h0)

theorem works_ob (H : SH) (K : SV → SH → Prop) (h : K (.bool true) H) : FnOb Try.prog 13 [] H K := by
  apply FnOb.pure
  apply en13
  refine new_ob 2 _ (fun h => by omega) fun cap b bR hcap h1 h2 => ?_
  obtain rfl : cap = 2 := by omega
  repeat' first | refine And.intro trivial ?_ | refine And.intro rfl ?_ | (refine And.intro (fun h => ?_) (fun h => ?_) <;> try (first | (exact absurd h (by decide)) | (exfalso; simp only [decide_eq_true_eq, decide_eq_false_iff_not, Bool.not_eq_true', Bool.not_eq_false', cond_true, cond_false, Bool.false_eq_true, Bool.true_eq_false, Bool.not_true, Bool.not_false, reduceCtorEq, not_true_eq_false, not_false_eq_true, eq_self, ne_eq] at h; first | done | omega | contradiction))) | refine And.intro ?_ ?_ | exact rfl
  refine FnOb.frame [1, 0] (give_ob ⟨b, 0⟩ ⟨bR, 0⟩ 2 0 0 2 0 (List.replicate 256 []) 5 (by omega) _ (fun h => by omega) fun n h0 hn => ?_) (by decide) rfl rfl
  obtain rfl : n = 2 := by omega
  repeat' first | refine And.intro trivial ?_ | refine And.intro rfl ?_ | (refine And.intro (fun h => ?_) (fun h => ?_) <;> try (first | (exact absurd h (by decide)) | (exfalso; simp only [decide_eq_true_eq, decide_eq_false_iff_not, Bool.not_eq_true', Bool.not_eq_false', cond_true, cond_false, Bool.false_eq_true, Bool.true_eq_false, Bool.not_true, Bool.not_false, reduceCtorEq, not_true_eq_false, not_false_eq_true, eq_self, ne_eq] at h; first | done | omega | contradiction))) | refine And.intro ?_ ?_ | exact rfl
  refine FnOb.frame [1, 0] (put_ob ⟨b, 0⟩ ⟨bR, 0⟩ 2 0 0 0 2 (List.replicate 256 []) [97] (by omega) (by omega) (by omega) (by omega) (by simp) _ (fun h => by omega) fun _ => ?_) (by decide) rfl rfl
  repeat' first | refine And.intro trivial ?_ | refine And.intro rfl ?_ | (refine And.intro (fun h => ?_) (fun h => ?_) <;> try (first | (exact absurd h (by decide)) | (exfalso; simp only [decide_eq_true_eq, decide_eq_false_iff_not, Bool.not_eq_true', Bool.not_eq_false', cond_true, cond_false, Bool.false_eq_true, Bool.true_eq_false, Bool.not_true, Bool.not_false, reduceCtorEq, not_true_eq_false, not_false_eq_true, eq_self, ne_eq] at h; first | done | omega | contradiction))) | refine And.intro ?_ ?_ | exact rfl
  refine FnOb.frame [1, 0] (put_ob ⟨b, 0⟩ ⟨bR, 0⟩ 2 0 1 0 1 _ [98] (by omega) (by omega) (by omega) (by omega) (by simp) _ (fun h => by omega) fun _ => ?_) (by decide) rfl rfl
  repeat' first | refine And.intro trivial ?_ | refine And.intro rfl ?_ | (refine And.intro (fun h => ?_) (fun h => ?_) <;> try (first | (exact absurd h (by decide)) | (exfalso; simp only [decide_eq_true_eq, decide_eq_false_iff_not, Bool.not_eq_true', Bool.not_eq_false', cond_true, cond_false, Bool.false_eq_true, Bool.true_eq_false, Bool.not_true, Bool.not_false, reduceCtorEq, not_true_eq_false, not_false_eq_true, eq_self, ne_eq] at h; first | done | omega | contradiction))) | refine And.intro ?_ ?_ | exact rfl
  refine FnOb.frame [1, 0] (put_ob ⟨b, 0⟩ ⟨bR, 0⟩ 2 0 2 0 0 _ [99] (by omega) (by omega) (by omega) (by omega) (by simp) _ (fun _ => ?_) fun h => by omega) (by decide) rfl rfl
  repeat' first | refine And.intro trivial ?_ | refine And.intro rfl ?_ | (refine And.intro (fun h => ?_) (fun h => ?_) <;> try (first | (exact absurd h (by decide)) | (exfalso; simp only [decide_eq_true_eq, decide_eq_false_iff_not, Bool.not_eq_true', Bool.not_eq_false', cond_true, cond_false, Bool.false_eq_true, Bool.true_eq_false, Bool.not_true, Bool.not_false, reduceCtorEq, not_true_eq_false, not_false_eq_true, eq_self, ne_eq] at h; first | done | omega | contradiction))) | refine And.intro ?_ ?_ | exact rfl
  refine FnOb.frame [1, 0] (take_ob ⟨b, 0⟩ ⟨bR, 0⟩ 2 0 2 0 0 _ (by omega) (by omega) (by omega) (by omega) (by simp) _ (fun h => by omega) fun x _ hx => ?_) (by decide) rfl rfl
  obtain rfl : x = [97] := by simpa using hx.symm
  repeat' first | refine And.intro trivial ?_ | refine And.intro rfl ?_ | (refine And.intro (fun h => ?_) (fun h => ?_) <;> try (first | (exact absurd h (by decide)) | (exfalso; simp only [decide_eq_true_eq, decide_eq_false_iff_not, Bool.not_eq_true', Bool.not_eq_false', cond_true, cond_false, Bool.false_eq_true, Bool.true_eq_false, Bool.not_true, Bool.not_false, reduceCtorEq, not_true_eq_false, not_false_eq_true, eq_self, ne_eq] at h; first | done | omega | contradiction))) | refine And.intro ?_ ?_ | exact rfl
  refine FnOb.frame [1, 0] (give_ob ⟨b, 0⟩ ⟨bR, 0⟩ 2 1 1 1 0 _ 5 (by omega) _ (fun h => by omega) fun n h0 hn => ?_) (by decide) rfl rfl
  obtain rfl : n = 1 := by omega
  repeat' first | refine And.intro trivial ?_ | refine And.intro rfl ?_ | (refine And.intro (fun h => ?_) (fun h => ?_) <;> try (first | (exact absurd h (by decide)) | (exfalso; simp only [decide_eq_true_eq, decide_eq_false_iff_not, Bool.not_eq_true', Bool.not_eq_false', cond_true, cond_false, Bool.false_eq_true, Bool.true_eq_false, Bool.not_true, Bool.not_false, reduceCtorEq, not_true_eq_false, not_false_eq_true, eq_self, ne_eq] at h; first | done | omega | contradiction))) | refine And.intro ?_ ?_ | exact rfl
  refine FnOb.frame [1, 0] (put_ob ⟨b, 0⟩ ⟨bR, 0⟩ 2 1 1 0 1 _ [99] (by omega) (by omega) (by omega) (by omega) (by simp) _ (fun h => by omega) fun _ => ?_) (by decide) rfl rfl
  repeat' first | refine And.intro trivial ?_ | refine And.intro rfl ?_ | (refine And.intro (fun h => ?_) (fun h => ?_) <;> try (first | (exact absurd h (by decide)) | (exfalso; simp only [decide_eq_true_eq, decide_eq_false_iff_not, Bool.not_eq_true', Bool.not_eq_false', cond_true, cond_false, Bool.false_eq_true, Bool.true_eq_false, Bool.not_true, Bool.not_false, reduceCtorEq, not_true_eq_false, not_false_eq_true, eq_self, ne_eq] at h; first | done | omega | contradiction))) | refine And.intro ?_ ?_ | exact rfl
  refine FnOb.frame [1, 0] (len_ob ⟨b, 0⟩ ⟨bR, 0⟩ 2 1 2 0 0 _ _ ?_) (by decide) rfl rfl
  repeat' first | refine And.intro trivial ?_ | refine And.intro rfl ?_ | (refine And.intro (fun h => ?_) (fun h => ?_) <;> try (first | (exact absurd h (by decide)) | (exfalso; simp only [decide_eq_true_eq, decide_eq_false_iff_not, Bool.not_eq_true', Bool.not_eq_false', cond_true, cond_false, Bool.false_eq_true, Bool.true_eq_false, Bool.not_true, Bool.not_false, reduceCtorEq, not_true_eq_false, not_false_eq_true, eq_self, ne_eq] at h; first | done | omega | contradiction))) | refine And.intro ?_ ?_ | exact rfl
  exact ‹K (.bool true) H›

/-- A ring's texts, first to last. -/
def Ring (cap first : Nat) (R Q : List (List UInt8)) : Prop := first < cap ∧ Q.length ≤ cap ∧ cap ≤ R.length ∧ ∀ k, k < Q.length → R[(first + k) % cap]? = Q[k]?

def inSV (i b j m c : Nat) : Nat → SV
  | 0 => .nils
  | _ => .sl i ⟨b, 0⟩ 1 j m c

/-- The blocks: what came in, the store, its ring, the queue's. -/
def turnsH (xs : List (List UInt8)) (B : Bs) (b bR cap first many : Nat) (R : List (List UInt8)) (J : SH) : SH :=
  (B, .win encStr 1 xs) :: (⟨b, 0⟩, .lit [.sl 2 ⟨bR, 0⟩ 1 0 cap cap, .int .i64 first, .int .i64 many, .int .i64 (cap - many : Nat), .int .i64 (0 : Nat)]) :: (⟨bR, 0⟩, .tab encStr 1 R) :: J

def turnsL (xs : List (List UInt8)) (B : Bs) (C b cap k : Nat) (q : SV) : List (Nat × SV) :=
  [(0, .int .i64 cap), (1, .sl 0 B 1 0 xs.length C), (4, .bool false), (5, .ptr 1 ⟨b, 0⟩ 0 0 0), (7, q), (8, .int .i64 k)]

/-- What holds at the head of the loop. -/
def turnsInv (xs : List (List UInt8)) (B : Bs) (C cap : Nat) : Nat → List (Nat × SV) → SH → Prop := fun n live H =>
  ∃ (k b bR first : Nat) (R Q : List (List UInt8)), n + k = 101 ∧ Ring cap first R Q ∧
    ((Q = [] ∧ live = turnsL xs B C b cap k .nils ∧ H = turnsH xs B b bR cap first Q.length R []) ∨
    (∃ (bI j c : Nat) (L : List (List UInt8)), (L.drop j).take Q.length = Q ∧ Q.length ≤ c ∧ j + c ≤ L.length ∧
      live = turnsL xs B C b cap k (.sl 3 ⟨bI, 0⟩ 1 j Q.length c) ∧ H = turnsH xs B b bR cap first Q.length R [(⟨bI, 0⟩, .tab encStr 1 L)]))

theorem ring_push {cap first : Nat} {R Q : List (List UInt8)} (t : List UInt8) (h : Ring cap first R Q) (hlt : Q.length < cap) : Ring cap first (R.set ((first + Q.length) % cap) t) (Q ++ [t]) := by
  obtain ⟨hf, hq, hR, hg⟩ := h
  refine ⟨hf, by simp; omega, by simpa using hR, fun k hk => ?_⟩
  have hk' : k < Q.length + 1 := by simpa using hk
  have hm : (first + Q.length) % cap < R.length := Nat.lt_of_lt_of_le (Nat.mod_lt _ (by omega)) hR
  by_cases he : k = Q.length
  · subst he
    rw [List.getElem?_set_self hm]; simp
  · rw [List.getElem?_set_ne, hg k (by omega), List.getElem?_append_left (by omega)]
    intro heq
    have e1 : (first + Q.length) % cap = if first + Q.length < cap then first + Q.length else first + Q.length - cap := by
      split
      · exact Nat.mod_eq_of_lt (by assumption)
      · rw [Nat.mod_eq_sub_mod (by omega), Nat.mod_eq_of_lt (by omega)]
    have e2 : (first + k) % cap = if first + k < cap then first + k else first + k - cap := by
      split
      · exact Nat.mod_eq_of_lt (by assumption)
      · rw [Nat.mod_eq_sub_mod (by omega), Nat.mod_eq_of_lt (by omega)]
    rw [e1, e2] at heq
    split at heq <;> split at heq <;> omega

theorem ring_pop {cap first : Nat} {R Q : List (List UInt8)} {q : List UInt8} (h : Ring cap first R (q :: Q)) : R[first]? = some q ∧ Ring cap ((first + 1) % cap) (R.set first []) Q := by
  obtain ⟨hf, hq, hR, hg⟩ := h
  simp only [List.length_cons] at hq hg
  refine ⟨?_, Nat.mod_lt _ (by omega), by omega, by simpa using hR, fun k hk => ?_⟩
  · have := hg 0 (by omega)
    rw [Nat.add_zero, Nat.mod_eq_of_lt hf] at this
    simpa using this
  · have e0 : ((first + 1) % cap + k) % cap = (first + (k + 1)) % cap := by
      rw [Nat.mod_add_mod]; congr 1; omega
    rw [e0, List.getElem?_set_ne]
    · have := hg (k + 1) (by omega)
      simpa using this
    · intro heq
      have e2 : (first + (k + 1)) % cap = if first + (k + 1) < cap then first + (k + 1) else first + (k + 1) - cap := by
        split
        · exact Nat.mod_eq_of_lt (by assumption)
        · rw [Nat.mod_eq_sub_mod (by omega), Nat.mod_eq_of_lt (by omega)]
      rw [e2] at heq
      split at heq <;> omega

theorem inv_intro {xs : List (List UInt8)} {B : Bs} {C cap n k b bR bN first m J M c : Nat} {R Q L : List (List UInt8)} {t : List UInt8} (hn : n + k = 101) (hn0 : 0 < n) (h : Ring cap first R Q) (hlt : Q.length < cap) (hm : m = Q.length) (hM : M = m + 1)
    (hL : (L.drop J).take M = Q ++ [t]) (hc : M ≤ c) (hJ : J + c ≤ L.length) :
    turnsInv xs B C cap (n - 1) (turnsL xs B C b cap (k + 1) (.sl 3 ⟨bN, 0⟩ 1 J M c)) (turnsH xs B b bR cap first M (R.set ((first + m) % cap) t) [(⟨bN, 0⟩, .tab encStr 1 L)]) := by
  subst hm; subst hM
  have hl : (Q ++ [t]).length = Q.length + 1 := by simp
  refine ⟨k + 1, b, bR, first, _, Q ++ [t], by omega, ring_push t h hlt, .inr ⟨bN, J, c, L, ?_, ?_, hJ, ?_, ?_⟩⟩ <;> rw [hl]
  · exact hL
  · exact hc
theorem q_fits {L Q : List (List UInt8)} {j m c : Nat} (t : List UInt8) (hL : (L.drop j).take m = Q) (h : m + 1 ≤ c) (hj : j + c ≤ L.length) :
    ((L.take (j + m) ++ [t] ++ L.drop (j + m + [t].length)).drop j).take (m + 1) = Q ++ [t] ∧ (L.take (j + m) ++ [t] ++ L.drop (j + m + [t].length)).length = L.length := by
  constructor
  · have e : L.take (j + m) = L.take j ++ Q := by rw [← hL, List.take_add]
    have l : (L.take j).length = j := by simp; omega
    have lQ : Q.length = m := by rw [← hL]; simp; omega
    rw [e, List.append_assoc, List.append_assoc, List.drop_append_of_le_length (by omega), List.drop_eq_nil_of_le (by omega), List.nil_append, ← List.append_assoc, List.take_append_of_le_length (by simp; omega), List.take_of_length_le (by simp; omega)]
  · simp; omega
theorem strs_take (L : List (List UInt8)) (j n : Nat) : List.take (n * (0 + 1)) (List.drop (j * 1) (L.flatMap encStr)) = ((L.drop j).take n).flatMap encStr := by
  have e : ∀ l : List (List UInt8), l.flatMap encStr = l.map SV.str := fun l => by
    induction l with
    | nil => rfl
    | cons a l ih => rw [List.flatMap_cons, ih]; rfl
  rw [e, e, List.map_take, List.map_drop]; simp
theorem strs_len (l : List (List UInt8)) : (l.flatMap encStr).length = l.length := by
  have := flatMap_length encStr 1 l (fun _ _ => rfl)
  omega
theorem turns_ob (x : Int) (xs : List (List UInt8)) (B : Bs) (C : Nat) : FnOb Try.prog 3 [.int .i64 x, .sl 0 B 1 0 xs.length C] [(B, .win encStr 1 xs)] fun r _ => r = .bool true := by
  apply en3
  refine works_ob _ _ ?_
  repeat' first | refine And.intro trivial ?_ | refine And.intro rfl ?_ | (refine And.intro (fun h => ?_) (fun h => ?_) <;> try (first | (exact absurd h (by decide)) | (exfalso; simp only [decide_eq_true_eq, decide_eq_false_iff_not, Bool.not_eq_true', Bool.not_eq_false', cond_true, cond_false, Bool.false_eq_true, Bool.true_eq_false, Bool.not_true, Bool.not_false, reduceCtorEq, not_true_eq_false, not_false_eq_true, eq_self, ne_eq] at h; first | done | omega | contradiction))) | refine And.intro ?_ ?_ | exact rfl
  refine among_ob _ 9 (by omega) (by omega) _ _ fun r hr => ?_
  repeat' first | refine And.intro trivial ?_ | refine And.intro rfl ?_ | (refine And.intro (fun h => ?_) (fun h => ?_) <;> try (first | (exact absurd h (by decide)) | (exfalso; simp only [decide_eq_true_eq, decide_eq_false_iff_not, Bool.not_eq_true', Bool.not_eq_false', cond_true, cond_false, Bool.false_eq_true, Bool.true_eq_false, Bool.not_true, Bool.not_false, reduceCtorEq, not_true_eq_false, not_false_eq_true, eq_self, ne_eq] at h; first | done | omega | contradiction))) | refine And.intro ?_ ?_ | exact rfl
  conv => whnf
  have e1 : IntKind.i64.wrap (1 + (r : Int)) = ((r + 1 : Nat) : Int) := by rw [wr (by omega) (by omega)]; omega
  rw [e1]
  refine FnOb.grow [] [1, 2] (new_ob _ _ (fun h => by omega) fun cap b bR hcap h1 h2 => ?_) (by decide) rfl rfl
  obtain rfl : cap = r + 1 := by omega
  repeat' first | refine And.intro trivial ?_ | refine And.intro rfl ?_ | (refine And.intro (fun h => ?_) (fun h => ?_) <;> try (first | (exact absurd h (by decide)) | (exfalso; simp only [decide_eq_true_eq, decide_eq_false_iff_not, Bool.not_eq_true', Bool.not_eq_false', cond_true, cond_false, Bool.false_eq_true, Bool.true_eq_false, Bool.not_true, Bool.not_false, reduceCtorEq, not_true_eq_false, not_false_eq_true, eq_self, ne_eq] at h; first | done | omega | contradiction))) | refine And.intro ?_ ?_ | exact rfl
  refine loop_live mixed (S := sch3) (by kernel_rfl) 125 (turnsInv xs B C (r + 1)) ⟨101, turnsL xs B C b (r + 1) 0 .nils, turnsH xs B b bR (r + 1) 0 0 (List.replicate 256 []) [], ?_, ?_, ?_, ?_⟩ ?_
  · rfl
  · exact ⟨rfl, rfl, rfl, rfl, rfl, rfl, trivial⟩
  · exact Tells.pick [0, 2, 1] [0, 2, 1] (by decide) rfl
  · refine ⟨0, b, bR, 0, List.replicate 256 [], [], rfl, ⟨by omega, by simp, by simp; omega, fun k hk => by simp at hk⟩, .inl ⟨rfl, rfl, rfl⟩⟩
  clear b bR hcap h1 h2
  intro n live H J ⟨k, b, bR, first, R, Q, hn, ⟨hf, hq, hR, hget⟩, hcase⟩
  rcases hcase with ⟨rfl, rfl, rfl⟩ | ⟨bI, j, c, L, hL, hc, hjc, rfl, rfl⟩
  · repeat' first | refine And.intro trivial ?_ | refine And.intro rfl ?_ | (refine And.intro (fun h => ?_) (fun h => ?_) <;> try (first | (exact absurd h (by decide)) | (exfalso; simp only [decide_eq_true_eq, decide_eq_false_iff_not, Bool.not_eq_true', Bool.not_eq_false', cond_true, cond_false, Bool.false_eq_true, Bool.true_eq_false, Bool.not_true, Bool.not_false, reduceCtorEq, not_true_eq_false, not_false_eq_true, eq_self, ne_eq] at h; first | done | omega | contradiction))) | refine And.intro ?_ ?_ | exact rfl
    rename_i _ _ _ _ _ hkx _ _ hkh
    have hk1 : k < xs.length := by simpa using hkx
    have hk2 : k < 100 := by have := of_decide_eq_true hkh; omega
    refine FnOb.frame [1, 2] (give_ob ⟨b, 0⟩ ⟨bR, 0⟩ (r + 1) first 0 (r + 1) 0 R 1 (by omega) _ (fun h => by omega) fun n1 h0 hn1 => ?_) (by decide) rfl rfl
    obtain rfl : n1 = 1 := by omega
    repeat' first | refine And.intro trivial ?_ | refine And.intro rfl ?_ | (refine And.intro (fun h => ?_) (fun h => ?_) <;> try (first | (exact absurd h (by decide)) | (exfalso; simp only [decide_eq_true_eq, decide_eq_false_iff_not, Bool.not_eq_true', Bool.not_eq_false', cond_true, cond_false, Bool.false_eq_true, Bool.true_eq_false, Bool.not_true, Bool.not_false, reduceCtorEq, not_true_eq_false, not_false_eq_true, eq_self, ne_eq] at h; first | done | omega | contradiction))) | refine And.intro ?_ ?_ | exact rfl
    · omega
    · omega
    · show 0 + (k : Int).toNat < xs.length
      omega
    intro t ht
    repeat' first | refine And.intro trivial ?_ | refine And.intro rfl ?_ | (refine And.intro (fun h => ?_) (fun h => ?_) <;> try (first | (exact absurd h (by decide)) | (exfalso; simp only [decide_eq_true_eq, decide_eq_false_iff_not, Bool.not_eq_true', Bool.not_eq_false', cond_true, cond_false, Bool.false_eq_true, Bool.true_eq_false, Bool.not_true, Bool.not_false, reduceCtorEq, not_true_eq_false, not_false_eq_true, eq_self, ne_eq] at h; first | done | omega | contradiction))) | refine And.intro ?_ ?_ | exact rfl
    refine FnOb.frame [1, 2] (put_ob ⟨b, 0⟩ ⟨bR, 0⟩ (r + 1) first 0 ((r + 1) - 1) (0 + 1) R t (by omega) (by omega) (by omega) (by omega) (by first | omega | (simp; omega)) _ (fun h => by omega) fun _ => ?_) (by decide) rfl rfl
    repeat' first | refine And.intro trivial ?_ | refine And.intro rfl ?_ | (refine And.intro (fun h => ?_) (fun h => ?_) <;> try (first | (exact absurd h (by decide)) | (exfalso; simp only [decide_eq_true_eq, decide_eq_false_iff_not, Bool.not_eq_true', Bool.not_eq_false', cond_true, cond_false, Bool.false_eq_true, Bool.true_eq_false, Bool.not_true, Bool.not_false, reduceCtorEq, not_true_eq_false, not_false_eq_true, eq_self, ne_eq] at h; first | done | omega | contradiction))) | refine And.intro ?_ ?_ | exact rfl
    · omega
    · omega
    · show 0 + (k : Int).toNat < xs.length
      omega
    intro t' ht'
    obtain rfl : t' = t := by rw [ht] at ht'; exact (Option.some.inj ht').symm
    repeat' first | refine And.intro trivial ?_ | refine And.intro rfl ?_ | (refine And.intro (fun h => ?_) (fun h => ?_) <;> try (first | (exact absurd h (by decide)) | (exfalso; simp only [decide_eq_true_eq, decide_eq_false_iff_not, Bool.not_eq_true', Bool.not_eq_false', cond_true, cond_false, Bool.false_eq_true, Bool.true_eq_false, Bool.not_true, Bool.not_false, reduceCtorEq, not_true_eq_false, not_false_eq_true, eq_self, ne_eq] at h; first | done | omega | contradiction))) | refine And.intro ?_ ?_ | exact rfl
    conv => whnf
    intro bA
    repeat' first | refine And.intro trivial ?_ | refine And.intro rfl ?_ | (refine And.intro (fun h => ?_) (fun h => ?_) <;> try (first | (exact absurd h (by decide)) | (exfalso; simp only [decide_eq_true_eq, decide_eq_false_iff_not, Bool.not_eq_true', Bool.not_eq_false', cond_true, cond_false, Bool.false_eq_true, Bool.true_eq_false, Bool.not_true, Bool.not_false, reduceCtorEq, not_true_eq_false, not_false_eq_true, eq_self, ne_eq] at h; first | done | omega | contradiction))) | refine And.intro ?_ ?_ | exact rfl
    · show (0 + 1) * 16 ≤ 140737488355328
      omega
    · omega
    conv => whnf
    refine ⟨List UInt8, encStr, [], [t'], [], fun _ => rfl, rfl, rfl, rfl, ?_⟩
    intro bN cN hcN
    repeat' first | refine And.intro trivial ?_ | refine And.intro rfl ?_ | (refine And.intro (fun h => ?_) (fun h => ?_) <;> try (first | (exact absurd h (by decide)) | (exfalso; simp only [decide_eq_true_eq, decide_eq_false_iff_not, Bool.not_eq_true', Bool.not_eq_false', cond_true, cond_false, Bool.false_eq_true, Bool.true_eq_false, Bool.not_true, Bool.not_false, reduceCtorEq, not_true_eq_false, not_false_eq_true, eq_self, ne_eq] at h; first | done | omega | contradiction))) | refine And.intro ?_ ?_ | exact rfl
    refine FnOb.frame [1, 2] (len_ob ⟨b, 0⟩ ⟨bR, 0⟩ _ _ _ _ _ _ _ ?_) (by decide) rfl rfl
    repeat' first | refine And.intro trivial ?_ | refine And.intro rfl ?_ | (refine And.intro (fun h => ?_) (fun h => ?_) <;> try (first | (exact absurd h (by decide)) | (exfalso; simp only [decide_eq_true_eq, decide_eq_false_iff_not, Bool.not_eq_true', Bool.not_eq_false', cond_true, cond_false, Bool.false_eq_true, Bool.true_eq_false, Bool.not_true, Bool.not_false, reduceCtorEq, not_true_eq_false, not_false_eq_true, eq_self, ne_eq] at h; first | done | omega | contradiction))) | refine And.intro ?_ ?_ | exact rfl
    refine FnOb.frame [1, 2] (owed_ob ⟨b, 0⟩ ⟨bR, 0⟩ _ _ _ _ _ _ _ ?_) (by decide) rfl rfl
    repeat' first | refine And.intro trivial ?_ | refine And.intro rfl ?_ | (refine And.intro (fun h => ?_) (fun h => ?_) <;> try (first | (exact absurd h (by decide)) | (exfalso; simp only [decide_eq_true_eq, decide_eq_false_iff_not, Bool.not_eq_true', Bool.not_eq_false', cond_true, cond_false, Bool.false_eq_true, Bool.true_eq_false, Bool.not_true, Bool.not_false, reduceCtorEq, not_true_eq_false, not_false_eq_true, eq_self, ne_eq] at h; first | done | omega | contradiction))) | refine And.intro ?_ ?_ | exact rfl
    conv => whnf
    refine ⟨n - 1, turnsL xs B C b (r + 1) (k + 1) (.sl 3 ⟨bN, 0⟩ 1 0 1 cN), turnsH xs B b bR (r + 1) first 1 (R.set ((first + 0) % (r + 1)) t') [(⟨bN, 0⟩, .tab encStr 1 ([] ++ [t'] ++ List.replicate (cN - (0 + 1)) []))], by omega, rfl, ⟨rfl, rfl, rfl, rfl, rfl, ?_, trivial⟩, ?_, ?_⟩
    · show SV.den (.int .i64 (IntKind.i64.wrap ((k : Int) + 1))) = _
      rw [wr (by omega) (by omega)]; rfl
    · refine Tells.pick [0, 1, 2, 4] [0, 1, 2, 9, 3] (by decide) ?_
      rfl
    exact inv_intro (Q := []) hn (by omega) ⟨hf, hq, hR, hget⟩ (by simp) rfl rfl (by simp) hcN (by simp; omega)
  · have hlen : ((L.drop j).take Q.length).length = Q.length := by rw [hL]
    repeat' first | refine And.intro trivial ?_ | refine And.intro rfl ?_ | (refine And.intro (fun h => ?_) (fun h => ?_) <;> try (first | (exact absurd h (by decide)) | (exfalso; simp only [decide_eq_true_eq, decide_eq_false_iff_not, Bool.not_eq_true', Bool.not_eq_false', cond_true, cond_false, Bool.false_eq_true, Bool.true_eq_false, Bool.not_true, Bool.not_false, reduceCtorEq, not_true_eq_false, not_false_eq_true, eq_self, ne_eq] at h; first | done | omega | contradiction))) | refine And.intro ?_ ?_ | exact rfl
    · rename_i _ _ _ _ _ hkx _ _ hkh
      have hfull : Q.length = r + 1 := by have := of_decide_eq_true h; omega
      obtain ⟨q0, Q', hQ⟩ : ∃ q0 Q', Q = q0 :: Q' := by
        cases Q with
        | nil => simp at hfull
        | cons q0 Q' => exact ⟨q0, Q', rfl⟩
      have hL0 : L[j]? = some q0 := by
        have := congrArg (fun l => l[0]?) hL
        rw [hQ] at this
        simpa [List.getElem?_take, List.getElem?_drop] using this
      have hQl : Q'.length = r := by rw [hQ] at hfull; simpa using hfull
      refine FnOb.frame [1, 2] (give_ob ⟨b, 0⟩ ⟨bR, 0⟩ (r + 1) first Q.length (r + 1 - Q.length) 0 R 9 (by omega) _ (fun h => by omega) fun n0 h0 hn0 => ?_) (by decide) rfl rfl
      obtain rfl : n0 = 0 := by omega
      repeat' first | refine And.intro trivial ?_ | refine And.intro rfl ?_ | (refine And.intro (fun h => ?_) (fun h => ?_) <;> try (first | (exact absurd h (by decide)) | (exfalso; simp only [decide_eq_true_eq, decide_eq_false_iff_not, Bool.not_eq_true', Bool.not_eq_false', cond_true, cond_false, Bool.false_eq_true, Bool.true_eq_false, Bool.not_true, Bool.not_false, reduceCtorEq, not_true_eq_false, not_false_eq_true, eq_self, ne_eq] at h; first | done | omega | contradiction))) | refine And.intro ?_ ?_ | exact rfl
      refine FnOb.frame [1, 2] (peek_ob ⟨b, 0⟩ ⟨bR, 0⟩ (r + 1) first Q.length (r + 1 - Q.length - 0) (0 + 0) R hf hR _ (fun h => by omega) fun x0 _ hx0 => ?_) (by decide) rfl rfl
      repeat' first | refine And.intro trivial ?_ | refine And.intro rfl ?_ | (refine And.intro (fun h => ?_) (fun h => ?_) <;> try (first | (exact absurd h (by decide)) | (exfalso; simp only [decide_eq_true_eq, decide_eq_false_iff_not, Bool.not_eq_true', Bool.not_eq_false', cond_true, cond_false, Bool.false_eq_true, Bool.true_eq_false, Bool.not_true, Bool.not_false, reduceCtorEq, not_true_eq_false, not_false_eq_true, eq_self, ne_eq] at h; first | done | omega | contradiction))) | refine And.intro ?_ ?_ | exact rfl
      refine FnOb.frame [1, 2] (take_ob ⟨b, 0⟩ ⟨bR, 0⟩ (r + 1) first Q.length (r + 1 - Q.length - 0) (0 + 0) R (by omega) (by omega) hf (by omega) hR _ (fun h => by omega) fun y0 _ hy0 => ?_) (by decide) rfl rfl
      obtain ⟨hr0, hring⟩ := ring_pop (q := q0) (Q := Q') (R := R) (cap := r + 1) (first := first) (hQ ▸ ⟨hf, hq, hR, hget⟩)
      obtain rfl : x0 = q0 := by rw [hr0] at hx0; exact (Option.some.inj hx0).symm
      obtain rfl : y0 = x0 := by rw [hr0] at hy0; exact (Option.some.inj hy0).symm
      repeat' first | refine And.intro trivial ?_ | refine And.intro rfl ?_ | (refine And.intro (fun h => ?_) (fun h => ?_) <;> try (first | (exact absurd h (by decide)) | (exfalso; simp only [decide_eq_true_eq, decide_eq_false_iff_not, Bool.not_eq_true', Bool.not_eq_false', cond_true, cond_false, Bool.false_eq_true, Bool.true_eq_false, Bool.not_true, Bool.not_false, reduceCtorEq, not_true_eq_false, not_false_eq_true, eq_self, ne_eq] at h; first | done | omega | contradiction))) | refine And.intro ?_ ?_ | exact rfl
      · omega
      · omega
      · show j + 0 < L.length
        omega
      intro z hz
      obtain rfl : z = y0 := by
        replace hz : L[j]? = some z := hz
        rw [hL0] at hz; exact (Option.some.inj hz).symm
      repeat' first | refine And.intro trivial ?_ | refine And.intro rfl ?_ | (refine And.intro (fun h => ?_) (fun h => ?_) <;> try (first | (exact absurd h (by decide)) | (exfalso; simp only [decide_eq_true_eq, decide_eq_false_iff_not, Bool.not_eq_true', Bool.not_eq_false', cond_true, cond_false, Bool.false_eq_true, Bool.true_eq_false, Bool.not_true, Bool.not_false, reduceCtorEq, not_true_eq_false, not_false_eq_true, eq_self, ne_eq] at h; first | done | omega | contradiction))) | refine And.intro ?_ ?_ | exact rfl
      · omega
      · omega
      · show j + 0 < L.length
        omega
      intro z' hz'
      obtain rfl : z' = z := by
        replace hz' : L[j]? = some z' := hz'
        rw [hL0] at hz'; exact (Option.some.inj hz').symm
      repeat' first | refine And.intro trivial ?_ | refine And.intro rfl ?_ | (refine And.intro (fun h => ?_) (fun h => ?_) <;> try (first | (exact absurd h (by decide)) | (exfalso; simp only [decide_eq_true_eq, decide_eq_false_iff_not, Bool.not_eq_true', Bool.not_eq_false', cond_true, cond_false, Bool.false_eq_true, Bool.true_eq_false, Bool.not_true, Bool.not_false, reduceCtorEq, not_true_eq_false, not_false_eq_true, eq_self, ne_eq] at h; first | done | omega | contradiction))) | refine And.intro ?_ ?_ | exact rfl
      · omega
      · omega
      · have hc1 : c = 1 := h
        have hL2 : (L.drop j).take (Q.length - 1) = Q' := by
          have : Q.length - 1 = 0 := by omega
          rw [this, List.take_zero]
          exact (List.length_eq_zero_iff.1 (by omega)).symm
        have hf2 := hring.1
        have hk1 : k < xs.length := by simpa using hkx
        have hk2 : k < 100 := by have := of_decide_eq_true hkh; omega
        refine FnOb.frame [1, 2] (give_ob ⟨b, 0⟩ ⟨bR, 0⟩ (r + 1) ((first + 1) % (r + 1)) (Q.length - 1) (r + 1 - Q.length - 0 + 1) 0 (R.set first []) 1 (by omega) _ (fun h => by omega) fun n1 h0 hn1 => ?_) (by decide) rfl rfl
        obtain rfl : n1 = 1 := by omega
        repeat' first | refine And.intro trivial ?_ | refine And.intro rfl ?_ | (refine And.intro (fun h => ?_) (fun h => ?_) <;> try (first | (exact absurd h (by decide)) | (exfalso; simp only [decide_eq_true_eq, decide_eq_false_iff_not, Bool.not_eq_true', Bool.not_eq_false', cond_true, cond_false, Bool.false_eq_true, Bool.true_eq_false, Bool.not_true, Bool.not_false, reduceCtorEq, not_true_eq_false, not_false_eq_true, eq_self, ne_eq] at h; first | done | omega | contradiction))) | refine And.intro ?_ ?_ | exact rfl
        · omega
        · omega
        · show 0 + (k : Int).toNat < xs.length
          omega
        intro t ht
        repeat' first | refine And.intro trivial ?_ | refine And.intro rfl ?_ | (refine And.intro (fun h => ?_) (fun h => ?_) <;> try (first | (exact absurd h (by decide)) | (exfalso; simp only [decide_eq_true_eq, decide_eq_false_iff_not, Bool.not_eq_true', Bool.not_eq_false', cond_true, cond_false, Bool.false_eq_true, Bool.true_eq_false, Bool.not_true, Bool.not_false, reduceCtorEq, not_true_eq_false, not_false_eq_true, eq_self, ne_eq] at h; first | done | omega | contradiction))) | refine And.intro ?_ ?_ | exact rfl
        refine FnOb.frame [1, 2] (put_ob ⟨b, 0⟩ ⟨bR, 0⟩ (r + 1) ((first + 1) % (r + 1)) (Q.length - 1) ((r + 1 - Q.length - 0 + 1) - 1) (0 + 1) (R.set first []) t (by omega) (by omega) (by omega) (by omega) (by first | omega | (simp; omega)) _ (fun h => by omega) fun _ => ?_) (by decide) rfl rfl
        repeat' first | refine And.intro trivial ?_ | refine And.intro rfl ?_ | (refine And.intro (fun h => ?_) (fun h => ?_) <;> try (first | (exact absurd h (by decide)) | (exfalso; simp only [decide_eq_true_eq, decide_eq_false_iff_not, Bool.not_eq_true', Bool.not_eq_false', cond_true, cond_false, Bool.false_eq_true, Bool.true_eq_false, Bool.not_true, Bool.not_false, reduceCtorEq, not_true_eq_false, not_false_eq_true, eq_self, ne_eq] at h; first | done | omega | contradiction))) | refine And.intro ?_ ?_ | exact rfl
        · omega
        · omega
        · show 0 + (k : Int).toNat < xs.length
          omega
        intro t' ht'
        obtain rfl : t' = t := by rw [ht] at ht'; exact (Option.some.inj ht').symm
        repeat' first | refine And.intro trivial ?_ | refine And.intro rfl ?_ | (refine And.intro (fun h => ?_) (fun h => ?_) <;> try (first | (exact absurd h (by decide)) | (exfalso; simp only [decide_eq_true_eq, decide_eq_false_iff_not, Bool.not_eq_true', Bool.not_eq_false', cond_true, cond_false, Bool.false_eq_true, Bool.true_eq_false, Bool.not_true, Bool.not_false, reduceCtorEq, not_true_eq_false, not_false_eq_true, eq_self, ne_eq] at h; first | done | omega | contradiction))) | refine And.intro ?_ ?_ | exact rfl
        conv => whnf
        intro bA
        repeat' first | refine And.intro trivial ?_ | refine And.intro rfl ?_ | (refine And.intro (fun h => ?_) (fun h => ?_) <;> try (first | (exact absurd h (by decide)) | (exfalso; simp only [decide_eq_true_eq, decide_eq_false_iff_not, Bool.not_eq_true', Bool.not_eq_false', cond_true, cond_false, Bool.false_eq_true, Bool.true_eq_false, Bool.not_true, Bool.not_false, reduceCtorEq, not_true_eq_false, not_false_eq_true, eq_self, ne_eq] at h; first | done | omega | contradiction))) | refine And.intro ?_ ?_ | exact rfl
        · exfalso; omega
        · show ((Q.length - 1) + 1) * 16 ≤ 140737488355328
          omega
        · omega
        · show ((((L.flatMap encStr).drop (j * 1))).take ((Q.length - 1) * (0 + 1))).length = _
          rw [strs_take, strs_len]; simp; omega
        conv => whnf
        refine ⟨List UInt8, encStr, Q', [t'], [], fun _ => rfl, (by show Q'.flatMap encStr = (((L.flatMap encStr).drop (j * 1))).take ((Q.length - 1) * (0 + 1)); rw [strs_take, hL2]), rfl, rfl, ?_⟩
        intro bN cN hcN
        repeat' first | refine And.intro trivial ?_ | refine And.intro rfl ?_ | (refine And.intro (fun h => ?_) (fun h => ?_) <;> try (first | (exact absurd h (by decide)) | (exfalso; simp only [decide_eq_true_eq, decide_eq_false_iff_not, Bool.not_eq_true', Bool.not_eq_false', cond_true, cond_false, Bool.false_eq_true, Bool.true_eq_false, Bool.not_true, Bool.not_false, reduceCtorEq, not_true_eq_false, not_false_eq_true, eq_self, ne_eq] at h; first | done | omega | contradiction))) | refine And.intro ?_ ?_ | exact rfl
        refine FnOb.frame [1, 2] (len_ob ⟨b, 0⟩ ⟨bR, 0⟩ _ _ _ _ _ _ _ ?_) (by decide) rfl rfl
        repeat' first | refine And.intro trivial ?_ | refine And.intro rfl ?_ | (refine And.intro (fun h => ?_) (fun h => ?_) <;> try (first | (exact absurd h (by decide)) | (exfalso; simp only [decide_eq_true_eq, decide_eq_false_iff_not, Bool.not_eq_true', Bool.not_eq_false', cond_true, cond_false, Bool.false_eq_true, Bool.true_eq_false, Bool.not_true, Bool.not_false, reduceCtorEq, not_true_eq_false, not_false_eq_true, eq_self, ne_eq] at h; first | done | omega | contradiction))) | refine And.intro ?_ ?_ | exact rfl
        refine FnOb.frame [1, 2] (owed_ob ⟨b, 0⟩ ⟨bR, 0⟩ _ _ _ _ _ _ _ ?_) (by decide) rfl rfl
        repeat' first | refine And.intro trivial ?_ | refine And.intro rfl ?_ | (refine And.intro (fun h => ?_) (fun h => ?_) <;> try (first | (exact absurd h (by decide)) | (exfalso; simp only [decide_eq_true_eq, decide_eq_false_iff_not, Bool.not_eq_true', Bool.not_eq_false', cond_true, cond_false, Bool.false_eq_true, Bool.true_eq_false, Bool.not_true, Bool.not_false, reduceCtorEq, not_true_eq_false, not_false_eq_true, eq_self, ne_eq] at h; first | done | omega | contradiction))) | refine And.intro ?_ ?_ | exact rfl
        conv => whnf
        refine ⟨n - 1, turnsL xs B C b (r + 1) (k + 1) (.sl 3 ⟨bN, 0⟩ 1 0 (Q.length - 1 + 1) cN), turnsH xs B b bR (r + 1) ((first + 1) % (r + 1)) (Q.length - 1 + 1) ((R.set first []).set (((first + 1) % (r + 1) + (Q.length - 1)) % (r + 1)) t') [(⟨bN, 0⟩, .tab encStr 1 (Q' ++ [t'] ++ List.replicate (cN - (Q.length - 1 + 1)) []))], by omega, rfl, ⟨rfl, rfl, rfl, rfl, rfl, ?_, trivial⟩, ?_, ?_⟩
        · show SV.den (.int .i64 (IntKind.i64.wrap ((k : Int) + 1))) = _
          rw [wr (by omega) (by omega)]; rfl
        · refine Tells.pick [0, 1, 2, 5] [0, 1, 2, 9, 9, 3] (by decide) ?_
          unfold turnsH
          rw [show r + 1 - (Q.length - 1 + 1) = r + 1 - Q.length - 0 + 1 - 1 from by omega]
          rfl
        exact inv_intro hn (by omega) hring (by omega) (by omega) rfl (by rw [List.drop_zero, List.take_append_of_le_length (by simp; omega), List.take_of_length_le (by simp; omega)]) hcN (by simp; omega)
      · have hc1 : c ≠ 1 := h
        have hL2 : (L.drop (j + 1)).take (Q.length - 1) = Q' := by
          have := congrArg List.tail hL
          rw [hQ] at this
          simp only [List.length_cons, List.tail_cons] at this
          rw [← List.drop_one, List.drop_take, List.drop_drop, Nat.add_sub_cancel] at this
          rw [hQ, List.length_cons, Nat.add_sub_cancel]
          exact this
        have hf2 := hring.1
        have hk1 : k < xs.length := by simpa using hkx
        have hk2 : k < 100 := by have := of_decide_eq_true hkh; omega
        refine FnOb.frame [1, 2] (give_ob ⟨b, 0⟩ ⟨bR, 0⟩ (r + 1) ((first + 1) % (r + 1)) (Q.length - 1) (r + 1 - Q.length - 0 + 1) 0 (R.set first []) 1 (by omega) _ (fun h => by omega) fun n1 h0 hn1 => ?_) (by decide) rfl rfl
        obtain rfl : n1 = 1 := by omega
        repeat' first | refine And.intro trivial ?_ | refine And.intro rfl ?_ | (refine And.intro (fun h => ?_) (fun h => ?_) <;> try (first | (exact absurd h (by decide)) | (exfalso; simp only [decide_eq_true_eq, decide_eq_false_iff_not, Bool.not_eq_true', Bool.not_eq_false', cond_true, cond_false, Bool.false_eq_true, Bool.true_eq_false, Bool.not_true, Bool.not_false, reduceCtorEq, not_true_eq_false, not_false_eq_true, eq_self, ne_eq] at h; first | done | omega | contradiction))) | refine And.intro ?_ ?_ | exact rfl
        · omega
        · omega
        · show 0 + (k : Int).toNat < xs.length
          omega
        intro t ht
        repeat' first | refine And.intro trivial ?_ | refine And.intro rfl ?_ | (refine And.intro (fun h => ?_) (fun h => ?_) <;> try (first | (exact absurd h (by decide)) | (exfalso; simp only [decide_eq_true_eq, decide_eq_false_iff_not, Bool.not_eq_true', Bool.not_eq_false', cond_true, cond_false, Bool.false_eq_true, Bool.true_eq_false, Bool.not_true, Bool.not_false, reduceCtorEq, not_true_eq_false, not_false_eq_true, eq_self, ne_eq] at h; first | done | omega | contradiction))) | refine And.intro ?_ ?_ | exact rfl
        refine FnOb.frame [1, 2] (put_ob ⟨b, 0⟩ ⟨bR, 0⟩ (r + 1) ((first + 1) % (r + 1)) (Q.length - 1) ((r + 1 - Q.length - 0 + 1) - 1) (0 + 1) (R.set first []) t (by omega) (by omega) (by omega) (by omega) (by first | omega | (simp; omega)) _ (fun h => by omega) fun _ => ?_) (by decide) rfl rfl
        repeat' first | refine And.intro trivial ?_ | refine And.intro rfl ?_ | (refine And.intro (fun h => ?_) (fun h => ?_) <;> try (first | (exact absurd h (by decide)) | (exfalso; simp only [decide_eq_true_eq, decide_eq_false_iff_not, Bool.not_eq_true', Bool.not_eq_false', cond_true, cond_false, Bool.false_eq_true, Bool.true_eq_false, Bool.not_true, Bool.not_false, reduceCtorEq, not_true_eq_false, not_false_eq_true, eq_self, ne_eq] at h; first | done | omega | contradiction))) | refine And.intro ?_ ?_ | exact rfl
        · omega
        · omega
        · show 0 + (k : Int).toNat < xs.length
          omega
        intro t' ht'
        obtain rfl : t' = t := by rw [ht] at ht'; exact (Option.some.inj ht').symm
        repeat' first | refine And.intro trivial ?_ | refine And.intro rfl ?_ | (refine And.intro (fun h => ?_) (fun h => ?_) <;> try (first | (exact absurd h (by decide)) | (exfalso; simp only [decide_eq_true_eq, decide_eq_false_iff_not, Bool.not_eq_true', Bool.not_eq_false', cond_true, cond_false, Bool.false_eq_true, Bool.true_eq_false, Bool.not_true, Bool.not_false, reduceCtorEq, not_true_eq_false, not_false_eq_true, eq_self, ne_eq] at h; first | done | omega | contradiction))) | refine And.intro ?_ ?_ | exact rfl
        conv => whnf
        intro bA
        repeat' first | refine And.intro trivial ?_ | refine And.intro rfl ?_ | (refine And.intro (fun h => ?_) (fun h => ?_) <;> try (first | (exact absurd h (by decide)) | (exfalso; simp only [decide_eq_true_eq, decide_eq_false_iff_not, Bool.not_eq_true', Bool.not_eq_false', cond_true, cond_false, Bool.false_eq_true, Bool.true_eq_false, Bool.not_true, Bool.not_false, reduceCtorEq, not_true_eq_false, not_false_eq_true, eq_self, ne_eq] at h; first | done | omega | contradiction))) | refine And.intro ?_ ?_ | exact rfl
        · have hfit := h
          conv => whnf
          refine ⟨[t'], rfl, fun y _ => rfl, by simp; omega, ?_⟩
          repeat' first | refine And.intro trivial ?_ | refine And.intro rfl ?_ | (refine And.intro (fun h => ?_) (fun h => ?_) <;> try (first | (exact absurd h (by decide)) | (exfalso; simp only [decide_eq_true_eq, decide_eq_false_iff_not, Bool.not_eq_true', Bool.not_eq_false', cond_true, cond_false, Bool.false_eq_true, Bool.true_eq_false, Bool.not_true, Bool.not_false, reduceCtorEq, not_true_eq_false, not_false_eq_true, eq_self, ne_eq] at h; first | done | omega | contradiction))) | refine And.intro ?_ ?_ | exact rfl
          refine FnOb.frame [1, 2] (len_ob ⟨b, 0⟩ ⟨bR, 0⟩ _ _ _ _ _ _ _ ?_) (by decide) rfl rfl
          repeat' first | refine And.intro trivial ?_ | refine And.intro rfl ?_ | (refine And.intro (fun h => ?_) (fun h => ?_) <;> try (first | (exact absurd h (by decide)) | (exfalso; simp only [decide_eq_true_eq, decide_eq_false_iff_not, Bool.not_eq_true', Bool.not_eq_false', cond_true, cond_false, Bool.false_eq_true, Bool.true_eq_false, Bool.not_true, Bool.not_false, reduceCtorEq, not_true_eq_false, not_false_eq_true, eq_self, ne_eq] at h; first | done | omega | contradiction))) | refine And.intro ?_ ?_ | exact rfl
          refine FnOb.frame [1, 2] (owed_ob ⟨b, 0⟩ ⟨bR, 0⟩ _ _ _ _ _ _ _ ?_) (by decide) rfl rfl
          repeat' first | refine And.intro trivial ?_ | refine And.intro rfl ?_ | (refine And.intro (fun h => ?_) (fun h => ?_) <;> try (first | (exact absurd h (by decide)) | (exfalso; simp only [decide_eq_true_eq, decide_eq_false_iff_not, Bool.not_eq_true', Bool.not_eq_false', cond_true, cond_false, Bool.false_eq_true, Bool.true_eq_false, Bool.not_true, Bool.not_false, reduceCtorEq, not_true_eq_false, not_false_eq_true, eq_self, ne_eq] at h; first | done | omega | contradiction))) | refine And.intro ?_ ?_ | exact rfl
          conv => whnf
          refine ⟨n - 1, turnsL xs B C b (r + 1) (k + 1) (.sl 3 ⟨bI, 0⟩ 1 (j + 1) (Q.length - 1 + 1) (c - 1)), turnsH xs B b bR (r + 1) ((first + 1) % (r + 1)) (Q.length - 1 + 1) ((R.set first []).set (((first + 1) % (r + 1) + (Q.length - 1)) % (r + 1)) t') [(⟨bI, 0⟩, .tab encStr 1 (L.take (j + 1 + (Q.length - 1)) ++ [t'] ++ L.drop (j + 1 + (Q.length - 1) + [t'].length)))], by omega, rfl, ⟨rfl, rfl, rfl, rfl, rfl, ?_, trivial⟩, ?_, ?_⟩
          · show SV.den (.int .i64 (IntKind.i64.wrap ((k : Int) + 1))) = _
            rw [wr (by omega) (by omega)]; rfl
          · refine Tells.pick [0, 1, 2, 3] [0, 1, 2, 3] (by decide) ?_
            unfold turnsH
            rw [show r + 1 - (Q.length - 1 + 1) = r + 1 - Q.length - 0 + 1 - 1 from by omega]
            rfl
          exact inv_intro hn (by omega) hring (by omega) (by omega) rfl (q_fits t' hL2 hfit (by omega)).1 hfit (by rw [(q_fits (c := c - 1) t' hL2 hfit (by omega)).2]; omega)
        · show ((Q.length - 1) + 1) * 16 ≤ 140737488355328
          omega
        · omega
        · show ((((L.flatMap encStr).drop ((j + 1) * 1))).take ((Q.length - 1) * (0 + 1))).length = _
          rw [strs_take, strs_len]; simp; omega
        conv => whnf
        refine ⟨List UInt8, encStr, Q', [t'], [], fun _ => rfl, (by show Q'.flatMap encStr = (((L.flatMap encStr).drop ((j + 1) * 1))).take ((Q.length - 1) * (0 + 1)); rw [strs_take, hL2]), rfl, rfl, ?_⟩
        intro bN cN hcN
        repeat' first | refine And.intro trivial ?_ | refine And.intro rfl ?_ | (refine And.intro (fun h => ?_) (fun h => ?_) <;> try (first | (exact absurd h (by decide)) | (exfalso; simp only [decide_eq_true_eq, decide_eq_false_iff_not, Bool.not_eq_true', Bool.not_eq_false', cond_true, cond_false, Bool.false_eq_true, Bool.true_eq_false, Bool.not_true, Bool.not_false, reduceCtorEq, not_true_eq_false, not_false_eq_true, eq_self, ne_eq] at h; first | done | omega | contradiction))) | refine And.intro ?_ ?_ | exact rfl
        refine FnOb.frame [1, 2] (len_ob ⟨b, 0⟩ ⟨bR, 0⟩ _ _ _ _ _ _ _ ?_) (by decide) rfl rfl
        repeat' first | refine And.intro trivial ?_ | refine And.intro rfl ?_ | (refine And.intro (fun h => ?_) (fun h => ?_) <;> try (first | (exact absurd h (by decide)) | (exfalso; simp only [decide_eq_true_eq, decide_eq_false_iff_not, Bool.not_eq_true', Bool.not_eq_false', cond_true, cond_false, Bool.false_eq_true, Bool.true_eq_false, Bool.not_true, Bool.not_false, reduceCtorEq, not_true_eq_false, not_false_eq_true, eq_self, ne_eq] at h; first | done | omega | contradiction))) | refine And.intro ?_ ?_ | exact rfl
        refine FnOb.frame [1, 2] (owed_ob ⟨b, 0⟩ ⟨bR, 0⟩ _ _ _ _ _ _ _ ?_) (by decide) rfl rfl
        repeat' first | refine And.intro trivial ?_ | refine And.intro rfl ?_ | (refine And.intro (fun h => ?_) (fun h => ?_) <;> try (first | (exact absurd h (by decide)) | (exfalso; simp only [decide_eq_true_eq, decide_eq_false_iff_not, Bool.not_eq_true', Bool.not_eq_false', cond_true, cond_false, Bool.false_eq_true, Bool.true_eq_false, Bool.not_true, Bool.not_false, reduceCtorEq, not_true_eq_false, not_false_eq_true, eq_self, ne_eq] at h; first | done | omega | contradiction))) | refine And.intro ?_ ?_ | exact rfl
        conv => whnf
        refine ⟨n - 1, turnsL xs B C b (r + 1) (k + 1) (.sl 3 ⟨bN, 0⟩ 1 0 (Q.length - 1 + 1) cN), turnsH xs B b bR (r + 1) ((first + 1) % (r + 1)) (Q.length - 1 + 1) ((R.set first []).set (((first + 1) % (r + 1) + (Q.length - 1)) % (r + 1)) t') [(⟨bN, 0⟩, .tab encStr 1 (Q' ++ [t'] ++ List.replicate (cN - (Q.length - 1 + 1)) []))], by omega, rfl, ⟨rfl, rfl, rfl, rfl, rfl, ?_, trivial⟩, ?_, ?_⟩
        · show SV.den (.int .i64 (IntKind.i64.wrap ((k : Int) + 1))) = _
          rw [wr (by omega) (by omega)]; rfl
        · refine Tells.pick [0, 1, 2, 5] [0, 1, 2, 9, 9, 3] (by decide) ?_
          unfold turnsH
          rw [show r + 1 - (Q.length - 1 + 1) = r + 1 - Q.length - 0 + 1 - 1 from by omega]
          rfl
        exact inv_intro hn (by omega) hring (by omega) (by omega) rfl (by rw [List.drop_zero, List.take_append_of_le_length (by simp; omega), List.take_of_length_le (by simp; omega)]) hcN (by simp; omega)
    · rename_i _ _ _ _ _ hkx _ _ hkh
      have hne : Q.length ≠ r + 1 := by have := of_decide_eq_false h; omega
      have hk1 : k < xs.length := by simpa using hkx
      have hk2 : k < 100 := by have := of_decide_eq_true hkh; omega
      refine FnOb.frame [1, 2] (give_ob ⟨b, 0⟩ ⟨bR, 0⟩ (r + 1) first Q.length (r + 1 - Q.length) 0 R 1 (by omega) _ (fun h => by omega) fun n1 h0 hn1 => ?_) (by decide) rfl rfl
      obtain rfl : n1 = 1 := by omega
      repeat' first | refine And.intro trivial ?_ | refine And.intro rfl ?_ | (refine And.intro (fun h => ?_) (fun h => ?_) <;> try (first | (exact absurd h (by decide)) | (exfalso; simp only [decide_eq_true_eq, decide_eq_false_iff_not, Bool.not_eq_true', Bool.not_eq_false', cond_true, cond_false, Bool.false_eq_true, Bool.true_eq_false, Bool.not_true, Bool.not_false, reduceCtorEq, not_true_eq_false, not_false_eq_true, eq_self, ne_eq] at h; first | done | omega | contradiction))) | refine And.intro ?_ ?_ | exact rfl
      · omega
      · omega
      · show 0 + (k : Int).toNat < xs.length
        omega
      intro t ht
      repeat' first | refine And.intro trivial ?_ | refine And.intro rfl ?_ | (refine And.intro (fun h => ?_) (fun h => ?_) <;> try (first | (exact absurd h (by decide)) | (exfalso; simp only [decide_eq_true_eq, decide_eq_false_iff_not, Bool.not_eq_true', Bool.not_eq_false', cond_true, cond_false, Bool.false_eq_true, Bool.true_eq_false, Bool.not_true, Bool.not_false, reduceCtorEq, not_true_eq_false, not_false_eq_true, eq_self, ne_eq] at h; first | done | omega | contradiction))) | refine And.intro ?_ ?_ | exact rfl
      refine FnOb.frame [1, 2] (put_ob ⟨b, 0⟩ ⟨bR, 0⟩ (r + 1) first Q.length ((r + 1 - Q.length) - 1) (0 + 1) R t (by omega) (by omega) (by omega) (by omega) (by first | omega | (simp; omega)) _ (fun h => by omega) fun _ => ?_) (by decide) rfl rfl
      repeat' first | refine And.intro trivial ?_ | refine And.intro rfl ?_ | (refine And.intro (fun h => ?_) (fun h => ?_) <;> try (first | (exact absurd h (by decide)) | (exfalso; simp only [decide_eq_true_eq, decide_eq_false_iff_not, Bool.not_eq_true', Bool.not_eq_false', cond_true, cond_false, Bool.false_eq_true, Bool.true_eq_false, Bool.not_true, Bool.not_false, reduceCtorEq, not_true_eq_false, not_false_eq_true, eq_self, ne_eq] at h; first | done | omega | contradiction))) | refine And.intro ?_ ?_ | exact rfl
      · omega
      · omega
      · show 0 + (k : Int).toNat < xs.length
        omega
      intro t' ht'
      obtain rfl : t' = t := by rw [ht] at ht'; exact (Option.some.inj ht').symm
      repeat' first | refine And.intro trivial ?_ | refine And.intro rfl ?_ | (refine And.intro (fun h => ?_) (fun h => ?_) <;> try (first | (exact absurd h (by decide)) | (exfalso; simp only [decide_eq_true_eq, decide_eq_false_iff_not, Bool.not_eq_true', Bool.not_eq_false', cond_true, cond_false, Bool.false_eq_true, Bool.true_eq_false, Bool.not_true, Bool.not_false, reduceCtorEq, not_true_eq_false, not_false_eq_true, eq_self, ne_eq] at h; first | done | omega | contradiction))) | refine And.intro ?_ ?_ | exact rfl
      conv => whnf
      intro bA
      repeat' first | refine And.intro trivial ?_ | refine And.intro rfl ?_ | (refine And.intro (fun h => ?_) (fun h => ?_) <;> try (first | (exact absurd h (by decide)) | (exfalso; simp only [decide_eq_true_eq, decide_eq_false_iff_not, Bool.not_eq_true', Bool.not_eq_false', cond_true, cond_false, Bool.false_eq_true, Bool.true_eq_false, Bool.not_true, Bool.not_false, reduceCtorEq, not_true_eq_false, not_false_eq_true, eq_self, ne_eq] at h; first | done | omega | contradiction))) | refine And.intro ?_ ?_ | exact rfl
      · have hfit := h
        conv => whnf
        refine ⟨[t'], rfl, fun y _ => rfl, by simp; omega, ?_⟩
        repeat' first | refine And.intro trivial ?_ | refine And.intro rfl ?_ | (refine And.intro (fun h => ?_) (fun h => ?_) <;> try (first | (exact absurd h (by decide)) | (exfalso; simp only [decide_eq_true_eq, decide_eq_false_iff_not, Bool.not_eq_true', Bool.not_eq_false', cond_true, cond_false, Bool.false_eq_true, Bool.true_eq_false, Bool.not_true, Bool.not_false, reduceCtorEq, not_true_eq_false, not_false_eq_true, eq_self, ne_eq] at h; first | done | omega | contradiction))) | refine And.intro ?_ ?_ | exact rfl
        refine FnOb.frame [1, 2] (len_ob ⟨b, 0⟩ ⟨bR, 0⟩ _ _ _ _ _ _ _ ?_) (by decide) rfl rfl
        repeat' first | refine And.intro trivial ?_ | refine And.intro rfl ?_ | (refine And.intro (fun h => ?_) (fun h => ?_) <;> try (first | (exact absurd h (by decide)) | (exfalso; simp only [decide_eq_true_eq, decide_eq_false_iff_not, Bool.not_eq_true', Bool.not_eq_false', cond_true, cond_false, Bool.false_eq_true, Bool.true_eq_false, Bool.not_true, Bool.not_false, reduceCtorEq, not_true_eq_false, not_false_eq_true, eq_self, ne_eq] at h; first | done | omega | contradiction))) | refine And.intro ?_ ?_ | exact rfl
        refine FnOb.frame [1, 2] (owed_ob ⟨b, 0⟩ ⟨bR, 0⟩ _ _ _ _ _ _ _ ?_) (by decide) rfl rfl
        repeat' first | refine And.intro trivial ?_ | refine And.intro rfl ?_ | (refine And.intro (fun h => ?_) (fun h => ?_) <;> try (first | (exact absurd h (by decide)) | (exfalso; simp only [decide_eq_true_eq, decide_eq_false_iff_not, Bool.not_eq_true', Bool.not_eq_false', cond_true, cond_false, Bool.false_eq_true, Bool.true_eq_false, Bool.not_true, Bool.not_false, reduceCtorEq, not_true_eq_false, not_false_eq_true, eq_self, ne_eq] at h; first | done | omega | contradiction))) | refine And.intro ?_ ?_ | exact rfl
        conv => whnf
        refine ⟨n - 1, turnsL xs B C b (r + 1) (k + 1) (.sl 3 ⟨bI, 0⟩ 1 j (Q.length + 1) c), turnsH xs B b bR (r + 1) first (Q.length + 1) (R.set ((first + Q.length) % (r + 1)) t') [(⟨bI, 0⟩, .tab encStr 1 (L.take (j + Q.length) ++ [t'] ++ L.drop (j + Q.length + [t'].length)))], by omega, rfl, ⟨rfl, rfl, rfl, rfl, rfl, ?_, trivial⟩, ?_, ?_⟩
        · show SV.den (.int .i64 (IntKind.i64.wrap ((k : Int) + 1))) = _
          rw [wr (by omega) (by omega)]; rfl
        · refine Tells.pick [0, 1, 2, 3] [0, 1, 2, 3] (by decide) ?_
          rfl
        exact inv_intro hn (by omega) ⟨hf, hq, hR, hget⟩ (by omega) rfl rfl (q_fits t' hL hfit hjc).1 hfit (by rw [(q_fits t' hL hfit hjc).2]; exact hjc)
      · show (Q.length + 1) * 16 ≤ 140737488355328
        omega
      · omega
      · show ((((L.flatMap encStr).drop (j * 1))).take (Q.length * (0 + 1))).length = _
        rw [strs_take, strs_len]; simp; omega
      conv => whnf
      refine ⟨List UInt8, encStr, Q, [t'], [], fun _ => rfl, (by show Q.flatMap encStr = (((L.flatMap encStr).drop (j * 1))).take (Q.length * (0 + 1)); rw [strs_take, hL]), rfl, rfl, ?_⟩
      intro bN cN hcN
      repeat' first | refine And.intro trivial ?_ | refine And.intro rfl ?_ | (refine And.intro (fun h => ?_) (fun h => ?_) <;> try (first | (exact absurd h (by decide)) | (exfalso; simp only [decide_eq_true_eq, decide_eq_false_iff_not, Bool.not_eq_true', Bool.not_eq_false', cond_true, cond_false, Bool.false_eq_true, Bool.true_eq_false, Bool.not_true, Bool.not_false, reduceCtorEq, not_true_eq_false, not_false_eq_true, eq_self, ne_eq] at h; first | done | omega | contradiction))) | refine And.intro ?_ ?_ | exact rfl
      refine FnOb.frame [1, 2] (len_ob ⟨b, 0⟩ ⟨bR, 0⟩ _ _ _ _ _ _ _ ?_) (by decide) rfl rfl
      repeat' first | refine And.intro trivial ?_ | refine And.intro rfl ?_ | (refine And.intro (fun h => ?_) (fun h => ?_) <;> try (first | (exact absurd h (by decide)) | (exfalso; simp only [decide_eq_true_eq, decide_eq_false_iff_not, Bool.not_eq_true', Bool.not_eq_false', cond_true, cond_false, Bool.false_eq_true, Bool.true_eq_false, Bool.not_true, Bool.not_false, reduceCtorEq, not_true_eq_false, not_false_eq_true, eq_self, ne_eq] at h; first | done | omega | contradiction))) | refine And.intro ?_ ?_ | exact rfl
      refine FnOb.frame [1, 2] (owed_ob ⟨b, 0⟩ ⟨bR, 0⟩ _ _ _ _ _ _ _ ?_) (by decide) rfl rfl
      repeat' first | refine And.intro trivial ?_ | refine And.intro rfl ?_ | (refine And.intro (fun h => ?_) (fun h => ?_) <;> try (first | (exact absurd h (by decide)) | (exfalso; simp only [decide_eq_true_eq, decide_eq_false_iff_not, Bool.not_eq_true', Bool.not_eq_false', cond_true, cond_false, Bool.false_eq_true, Bool.true_eq_false, Bool.not_true, Bool.not_false, reduceCtorEq, not_true_eq_false, not_false_eq_true, eq_self, ne_eq] at h; first | done | omega | contradiction))) | refine And.intro ?_ ?_ | exact rfl
      conv => whnf
      refine ⟨n - 1, turnsL xs B C b (r + 1) (k + 1) (.sl 3 ⟨bN, 0⟩ 1 0 (Q.length + 1) cN), turnsH xs B b bR (r + 1) first (Q.length + 1) (R.set ((first + Q.length) % (r + 1)) t') [(⟨bN, 0⟩, .tab encStr 1 (Q ++ [t'] ++ List.replicate (cN - (Q.length + 1)) []))], by omega, rfl, ⟨rfl, rfl, rfl, rfl, rfl, ?_, trivial⟩, ?_, ?_⟩
      · show SV.den (.int .i64 (IntKind.i64.wrap ((k : Int) + 1))) = _
        rw [wr (by omega) (by omega)]; rfl
      · refine Tells.pick [0, 1, 2, 5] [0, 1, 2, 9, 9, 3] (by decide) ?_
        rfl
      exact inv_intro hn (by omega) ⟨hf, hq, hR, hget⟩ (by omega) rfl rfl (by rw [List.drop_zero, List.take_append_of_le_length (by simp), List.take_of_length_le (by simp)]) hcN (by simp; omega)

theorem turns_ob_nil (x : Int) (B : Bs) : FnOb Try.prog 3 [.int .i64 x, .nils] [(B, .win encStr 1 [])] fun r _ => r = .bool true := by
  apply en3
  refine works_ob _ _ ?_
  repeat' first | refine And.intro trivial ?_ | refine And.intro rfl ?_ | (refine And.intro (fun h => ?_) (fun h => ?_) <;> try (first | (exact absurd h (by decide)) | (exfalso; simp only [decide_eq_true_eq, decide_eq_false_iff_not, Bool.not_eq_true', Bool.not_eq_false', cond_true, cond_false, Bool.false_eq_true, Bool.true_eq_false, Bool.not_true, Bool.not_false, reduceCtorEq, not_true_eq_false, not_false_eq_true, eq_self, ne_eq] at h; first | done | omega | contradiction))) | refine And.intro ?_ ?_ | exact rfl
  refine among_ob _ 9 (by omega) (by omega) _ _ fun r hr => ?_
  repeat' first | refine And.intro trivial ?_ | refine And.intro rfl ?_ | (refine And.intro (fun h => ?_) (fun h => ?_) <;> try (first | (exact absurd h (by decide)) | (exfalso; simp only [decide_eq_true_eq, decide_eq_false_iff_not, Bool.not_eq_true', Bool.not_eq_false', cond_true, cond_false, Bool.false_eq_true, Bool.true_eq_false, Bool.not_true, Bool.not_false, reduceCtorEq, not_true_eq_false, not_false_eq_true, eq_self, ne_eq] at h; first | done | omega | contradiction))) | refine And.intro ?_ ?_ | exact rfl
  conv => whnf
  have e1 : IntKind.i64.wrap (1 + (r : Int)) = ((r + 1 : Nat) : Int) := by rw [wr (by omega) (by omega)]; omega
  rw [e1]
  refine FnOb.grow [] [1, 2] (new_ob _ _ (fun h => by omega) fun cap b bR hcap h1 h2 => ?_) (by decide) rfl rfl
  obtain rfl : cap = r + 1 := by omega
  repeat' first | refine And.intro trivial ?_ | refine And.intro rfl ?_ | (refine And.intro (fun h => ?_) (fun h => ?_) <;> try (first | (exact absurd h (by decide)) | (exfalso; simp only [decide_eq_true_eq, decide_eq_false_iff_not, Bool.not_eq_true', Bool.not_eq_false', cond_true, cond_false, Bool.false_eq_true, Bool.true_eq_false, Bool.not_true, Bool.not_false, reduceCtorEq, not_true_eq_false, not_false_eq_true, eq_self, ne_eq] at h; first | done | omega | contradiction))) | refine And.intro ?_ ?_ | exact rfl
  refine loop_live mixed (S := sch3) (by kernel_rfl) 125 (fun n live H => live = [(1, .nils), (8, .int .i64 0)]) ⟨1, [(1, .nils), (8, .int .i64 0)], _, rfl, ⟨rfl, rfl, trivial⟩, Tells.refl _, rfl⟩ ?_
  intro n live H J hinv
  subst hinv
  repeat' first | refine And.intro trivial ?_ | refine And.intro rfl ?_ | (refine And.intro (fun h => ?_) (fun h => ?_) <;> try (first | (exact absurd h (by decide)) | (exfalso; simp only [decide_eq_true_eq, decide_eq_false_iff_not, Bool.not_eq_true', Bool.not_eq_false', cond_true, cond_false, Bool.false_eq_true, Bool.true_eq_false, Bool.not_true, Bool.not_false, reduceCtorEq, not_true_eq_false, not_false_eq_true, eq_self, ne_eq] at h; first | done | omega | contradiction))) | refine And.intro ?_ ?_ | exact rfl
end Go.Proofs.Ytbmdmeljflmcgaa

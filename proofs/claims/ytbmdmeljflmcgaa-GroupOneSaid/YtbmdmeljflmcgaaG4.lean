/- The groups that move. Own work. -/
import Derived.Test.YtbmdmeljflmcgaaG3
namespace Go.Proofs.Ytbmdmeljflmcgaa
open Go Go.Sx
set_option maxRecDepth 100000
set_option linter.unusedVariables false
set_option linter.unusedSimpArgs false
set_option maxHeartbeats 4000000

theorem ints_get (k : IntKind) : ∀ (L : List Int) (j : Nat), (L.flatMap (encInt k))[j]? = (L[j]?).map (SV.int k)
  | [], j => by simp
  | x :: L, 0 => by simp [encInt]
  | x :: L, j + 1 => by
    rw [List.flatMap_cons]
    show ([SV.int k x] ++ L.flatMap (encInt k))[j + 1]? = _
    rw [List.getElem?_append_right (by simp)]
    simpa using ints_get k L j

theorem owner_ob (g t k : Int) (H : SH) (K : SV → SH → Prop)
    (h1 : ¬ (May g t ∧ 0 ≤ k ∧ k < g) → K (.tup [.int .i64 0, .int .i64 1]) H)
    (h2 : ∀ (g' t' k' : Nat), g = g' → t = t' → k = k' → May g t → k' < g' → K (.tup [.int .i64 (ownN g' t' k'), .int .i64 0]) H) :
    FnOb Try.prog 31 [.int .i64 g, .int .i64 t, .int .i64 k] H K := by
  apply en31
  repeat' first | refine And.intro trivial ?_ | refine And.intro rfl ?_ | (refine And.intro (fun h => ?_) (fun h => ?_) <;> try (first | (exact absurd h (by decide)) | (exfalso; simp only [decide_eq_true_eq, decide_eq_false_iff_not, Bool.not_eq_true', Bool.not_eq_false', cond_true, cond_false, Bool.false_eq_true, Bool.true_eq_false, Bool.not_true, Bool.not_false, reduceCtorEq, not_true_eq_false, not_false_eq_true, eq_self, ne_eq] at h; first | done | omega | contradiction))) | refine And.intro ?_ ?_ | exact rfl
  refine may_ob g t _ _ fun b hb => ?_
  cases b with
  | false =>
    repeat' first | refine And.intro trivial ?_ | refine And.intro rfl ?_ | (refine And.intro (fun h => ?_) (fun h => ?_) <;> try (first | (exact absurd h (by decide)) | (exfalso; simp only [decide_eq_true_eq, decide_eq_false_iff_not, Bool.not_eq_true', Bool.not_eq_false', cond_true, cond_false, Bool.false_eq_true, Bool.true_eq_false, Bool.not_true, Bool.not_false, reduceCtorEq, not_true_eq_false, not_false_eq_true, eq_self, ne_eq] at h; first | done | omega | contradiction))) | refine And.intro ?_ ?_ | exact rfl
    exact h1 (fun hm => by have := hb.2 hm.1; cases this)
  | true =>
    have hM := hb.1 rfl
    obtain ⟨m1, m2, m3, m4, m5⟩ := id hM
    repeat' first | refine And.intro trivial ?_ | refine And.intro rfl ?_ | (refine And.intro (fun h => ?_) (fun h => ?_) <;> try (first | (exact absurd h (by decide)) | (exfalso; simp only [decide_eq_true_eq, decide_eq_false_iff_not, Bool.not_eq_true', Bool.not_eq_false', cond_true, cond_false, Bool.false_eq_true, Bool.true_eq_false, Bool.not_true, Bool.not_false, reduceCtorEq, not_true_eq_false, not_false_eq_true, eq_self, ne_eq] at h; first | done | omega | contradiction))) | refine And.intro ?_ ?_ | exact rfl
    · exact h1 (fun hm => by have := of_decide_eq_true h; omega)
    · have hlt := of_decide_eq_false h
      have hi0 : ¬ k < 0 := of_decide_eq_false ‹decide (k < 0) = false›
      obtain ⟨g', rfl⟩ : ∃ g' : Nat, g = g' := ⟨g.toNat, by omega⟩
      obtain ⟨t', rfl⟩ : ∃ t' : Nat, t = t' := ⟨t.toNat, by omega⟩
      obtain ⟨k', rfl⟩ : ∃ k' : Nat, k = k' := ⟨k.toNat, by omega⟩
      refine owners_ob g' t' hM _ _ ?_
      repeat' first | refine And.intro trivial ?_ | refine And.intro rfl ?_ | (refine And.intro (fun h => ?_) (fun h => ?_) <;> try (first | (exact absurd h (by decide)) | (exfalso; simp only [decide_eq_true_eq, decide_eq_false_iff_not, Bool.not_eq_true', Bool.not_eq_false', cond_true, cond_false, Bool.false_eq_true, Bool.true_eq_false, Bool.not_true, Bool.not_false, reduceCtorEq, not_true_eq_false, not_false_eq_true, eq_self, ne_eq] at h; first | done | omega | contradiction))) | refine And.intro ?_ ?_ | exact rfl
      · omega
      · show (k' : Int) < 128
        omega
      · refine partK_one (v := .int .i64 (ownN g' t' k')) rfl rfl rfl ?_ ?_
        · show (List.flatMap (encInt .i64) (ownL g' t' g'))[k' * 1]? = _
          rw [Nat.mul_one, ints_get, ownL_get g' t' g' k' (by omega), if_pos (by omega)]; rfl
        · repeat' first | refine And.intro trivial ?_ | refine And.intro rfl ?_ | (refine And.intro (fun h => ?_) (fun h => ?_) <;> try (first | (exact absurd h (by decide)) | (exfalso; simp only [decide_eq_true_eq, decide_eq_false_iff_not, Bool.not_eq_true', Bool.not_eq_false', cond_true, cond_false, Bool.false_eq_true, Bool.true_eq_false, Bool.not_true, Bool.not_false, reduceCtorEq, not_true_eq_false, not_false_eq_true, eq_self, ne_eq] at h; first | done | omega | contradiction))) | refine And.intro ?_ ?_ | exact rfl
          conv => whnf
          exact h2 g' t' k' rfl rfl rfl hM (by omega)
    · exact h1 (fun hm => by have := of_decide_eq_true ‹decide (k < 0) = true›; omega)

/-- A row of three. -/
def enc3 : Int × Int × Int → List SV := fun x => [.int .i64 x.1, .int .i64 x.2.1, .int .i64 x.2.2]

/-- Those that move, of the first k. -/
def moves (g a b k : Nat) : List (Int × Int × Int) := (List.range k).flatMap fun j => if ownN g a j = ownN g b j then [] else [((j : Int), (ownN g a j : Int), (ownN g b j : Int))]
theorem moves_succ (g a b k : Nat) : moves g a b (k + 1) = moves g a b k ++ (if ownN g a k = ownN g b k then [] else [((k : Int), (ownN g a k : Int), (ownN g b k : Int))]) := by
  unfold moves
  rw [List.range_succ, List.flatMap_append]; simp
theorem moves_len (g a b k : Nat) : (moves g a b k).length ≤ k := by
  induction k with
  | zero => simp [moves]
  | succ k ih =>
    rw [moves_succ, List.length_append]
    split <;> simp <;> omega

theorem moves_same (g a b : Nat) (h : ownL g a g = ownL g b g) (hg : g ≤ 128) : ∀ k, k ≤ g → moves g a b k = [] := by
  intro k
  induction k with
  | zero => intro _; rfl
  | succ k ih =>
    intro hk
    rw [moves_succ, ih (by omega)]
    have e1 := ownL_get g a g k (by omega)
    have e2 := ownL_get g b g k (by omega)
    rw [h, e2, if_pos (by omega), if_pos (by omega)] at e1
    have : ownN g a k = ownN g b k := by have := Option.some.inj e1; omega
    rw [if_pos this]; rfl

def movesR (i : Nat) (bo : Nat) (L : List (Int × Int × Int)) (c : Nat) : SV := match L with
  | [] => .nils
  | _ => .sl i ⟨bo, 0⟩ 3 0 L.length c

def movesK (g a b : Int) : SV → SH → Prop := fun r H' =>
  (¬ (May g a ∧ May g b) ∧ r = .tup [.nils, .int .i64 1]) ∨
  ∃ (g' a' b' : Nat), g = g' ∧ a = a' ∧ b = b' ∧ May g a ∧ May g b ∧
    ((moves g' a' b' g' = [] ∧ r = .tup [.nils, .int .i64 0]) ∨
    ∃ (i bo c : Nat) (J : List (Int × Int × Int)), moves g' a' b' g' ≠ [] ∧ (moves g' a' b' g').length ≤ c ∧ c ≤ (moves g' a' b' g' ++ J).length ∧ r = .tup [.sl i ⟨bo, 0⟩ 3 0 (moves g' a' b' g').length c, .int .i64 0] ∧
      H'[i]? = some (⟨bo, 0⟩, .tab enc3 3 (moves g' a' b' g' ++ J)))

def movesH (g a b bA bB : Nat) (Y : SH) : SH := (⟨bA, 0⟩, .tab (encInt .i64) 1 (ownL g a g)) :: (⟨bB, 0⟩, .tab (encInt .i64) 1 (ownL g b g)) :: Y
def movesL (g bA bB k : Nat) (q : SV) : List (Nat × SV) := [(8, .ptr 0 ⟨bA, 0⟩ 1 0 0), (9, .ptr 1 ⟨bB, 0⟩ 1 0 0), (10, q), (31, .int .i64 g), (32, .int .i64 k)]
def movesInv (g a b bA bB : Nat) : Nat → List (Nat × SV) → SH → Prop := fun n live H =>
  ∃ k, n + k = g ∧ ((moves g a b k = [] ∧ live = movesL g bA bB k .nils ∧ H = movesH g a b bA bB []) ∨
    ∃ (bo c : Nat) (X : List (Int × Int × Int)), moves g a b k ≠ [] ∧ (moves g a b k).length ≤ c ∧ c ≤ (moves g a b k ++ X).length ∧
      live = movesL g bA bB k (.sl 2 ⟨bo, 0⟩ 3 0 (moves g a b k).length c) ∧ H = movesH g a b bA bB [(⟨bo, 0⟩, .tab enc3 3 (moves g a b k ++ X))])

theorem moves_raw (g a b : Int) : FnOb Try.prog 22 [.int .i64 g, .int .i64 a, .int .i64 b] [] (movesK g a b) := by
  apply en22
  repeat' first | refine And.intro trivial ?_ | refine And.intro rfl ?_ | (refine And.intro (fun h => ?_) (fun h => ?_) <;> try (first | (exact absurd h (by decide)) | (exfalso; simp only [decide_eq_true_eq, decide_eq_false_iff_not, Bool.not_eq_true', Bool.not_eq_false', cond_true, cond_false, Bool.false_eq_true, Bool.true_eq_false, Bool.not_true, Bool.not_false, reduceCtorEq, not_true_eq_false, not_false_eq_true, eq_self, ne_eq] at h; first | done | omega | contradiction))) | refine And.intro ?_ ?_ | exact rfl
  refine may_ob g a _ _ fun x hx => ?_
  cases x with
  | false =>
    repeat' first | refine And.intro trivial ?_ | refine And.intro rfl ?_ | (refine And.intro (fun h => ?_) (fun h => ?_) <;> try (first | (exact absurd h (by decide)) | (exfalso; simp only [decide_eq_true_eq, decide_eq_false_iff_not, Bool.not_eq_true', Bool.not_eq_false', cond_true, cond_false, Bool.false_eq_true, Bool.true_eq_false, Bool.not_true, Bool.not_false, reduceCtorEq, not_true_eq_false, not_false_eq_true, eq_self, ne_eq] at h; first | done | omega | contradiction))) | refine And.intro ?_ ?_ | exact rfl
    exact .inl ⟨fun hm => (by have := hx.2 hm.1; cases this), rfl⟩
  | true =>
    have hM := hx.1 rfl
    repeat' first | refine And.intro trivial ?_ | refine And.intro rfl ?_ | (refine And.intro (fun h => ?_) (fun h => ?_) <;> try (first | (exact absurd h (by decide)) | (exfalso; simp only [decide_eq_true_eq, decide_eq_false_iff_not, Bool.not_eq_true', Bool.not_eq_false', cond_true, cond_false, Bool.false_eq_true, Bool.true_eq_false, Bool.not_true, Bool.not_false, reduceCtorEq, not_true_eq_false, not_false_eq_true, eq_self, ne_eq] at h; first | done | omega | contradiction))) | refine And.intro ?_ ?_ | exact rfl
    refine may_ob g b _ _ fun y hy => ?_
    cases y with
    | false =>
      repeat' first | refine And.intro trivial ?_ | refine And.intro rfl ?_ | (refine And.intro (fun h => ?_) (fun h => ?_) <;> try (first | (exact absurd h (by decide)) | (exfalso; simp only [decide_eq_true_eq, decide_eq_false_iff_not, Bool.not_eq_true', Bool.not_eq_false', cond_true, cond_false, Bool.false_eq_true, Bool.true_eq_false, Bool.not_true, Bool.not_false, reduceCtorEq, not_true_eq_false, not_false_eq_true, eq_self, ne_eq] at h; first | done | omega | contradiction))) | refine And.intro ?_ ?_ | exact rfl
      exact .inl ⟨fun hm => (by have := hy.2 hm.2; cases this), rfl⟩
    | true =>
      have hN := hy.1 rfl
      obtain ⟨m1, m2, m3, m4, m5⟩ := id hM
      obtain ⟨_, _, n3, n4, n5⟩ := id hN
      obtain ⟨g', rfl⟩ : ∃ g' : Nat, g = g' := ⟨g.toNat, by omega⟩
      obtain ⟨a', rfl⟩ : ∃ a' : Nat, a = a' := ⟨a.toNat, by omega⟩
      obtain ⟨b', rfl⟩ : ∃ b' : Nat, b = b' := ⟨b.toNat, by omega⟩
      have e128 : ∀ t, List.take ((127 + 1) / 1) (List.drop 0 (ownL g' t g')) = ownL g' t g' := fun t => by
        rw [List.drop_zero]; exact List.take_of_length_le (by rw [ownL_len]; exact Nat.le_refl 128)
      repeat' first | refine And.intro trivial ?_ | refine And.intro rfl ?_ | (refine And.intro (fun h => ?_) (fun h => ?_) <;> try (first | (exact absurd h (by decide)) | (exfalso; simp only [decide_eq_true_eq, decide_eq_false_iff_not, Bool.not_eq_true', Bool.not_eq_false', cond_true, cond_false, Bool.false_eq_true, Bool.true_eq_false, Bool.not_true, Bool.not_false, reduceCtorEq, not_true_eq_false, not_false_eq_true, eq_self, ne_eq] at h; first | done | omega | contradiction))) | refine And.intro ?_ ?_ | exact rfl
      refine owners_ob g' a' hM _ _ ?_
      repeat' first | refine And.intro trivial ?_ | refine And.intro rfl ?_ | (refine And.intro (fun h => ?_) (fun h => ?_) <;> try (first | (exact absurd h (by decide)) | (exfalso; simp only [decide_eq_true_eq, decide_eq_false_iff_not, Bool.not_eq_true', Bool.not_eq_false', cond_true, cond_false, Bool.false_eq_true, Bool.true_eq_false, Bool.not_true, Bool.not_false, reduceCtorEq, not_true_eq_false, not_false_eq_true, eq_self, ne_eq] at h; first | done | omega | contradiction))) | refine And.intro ?_ ?_ | exact rfl
      refine owners_ob g' b' hN _ _ ?_
      repeat' first | refine And.intro trivial ?_ | refine And.intro rfl ?_ | (refine And.intro (fun h => ?_) (fun h => ?_) <;> try (first | (exact absurd h (by decide)) | (exfalso; simp only [decide_eq_true_eq, decide_eq_false_iff_not, Bool.not_eq_true', Bool.not_eq_false', cond_true, cond_false, Bool.false_eq_true, Bool.true_eq_false, Bool.not_true, Bool.not_false, reduceCtorEq, not_true_eq_false, not_false_eq_true, eq_self, ne_eq] at h; first | done | omega | contradiction))) | refine And.intro ?_ ?_ | exact rfl
      intro bA
      repeat' first | refine And.intro trivial ?_ | refine And.intro rfl ?_ | (refine And.intro (fun h => ?_) (fun h => ?_) <;> try (first | (exact absurd h (by decide)) | (exfalso; simp only [decide_eq_true_eq, decide_eq_false_iff_not, Bool.not_eq_true', Bool.not_eq_false', cond_true, cond_false, Bool.false_eq_true, Bool.true_eq_false, Bool.not_true, Bool.not_false, reduceCtorEq, not_true_eq_false, not_false_eq_true, eq_self, ne_eq] at h; first | done | omega | contradiction))) | refine And.intro ?_ ?_ | exact rfl
      intro bB
      repeat' first | refine And.intro trivial ?_ | refine And.intro rfl ?_ | (refine And.intro (fun h => ?_) (fun h => ?_) <;> try (first | (exact absurd h (by decide)) | (exfalso; simp only [decide_eq_true_eq, decide_eq_false_iff_not, Bool.not_eq_true', Bool.not_eq_false', cond_true, cond_false, Bool.false_eq_true, Bool.true_eq_false, Bool.not_true, Bool.not_false, reduceCtorEq, not_true_eq_false, not_false_eq_true, eq_self, ne_eq] at h; first | done | omega | contradiction))) | refine And.intro ?_ ?_ | exact rfl
      have efull : ∀ t, List.take 0 (List.replicate 128 (0 : Int)) ++ ownL g' t g' ++ List.drop (0 + (ownL g' t g').length) (List.replicate 128 0) = ownL g' t g' := fun t => by
        rw [ownL_len, List.drop_eq_nil_of_le (by rw [List.length_replicate]; exact Nat.le_refl 128)]; simp
      refine ⟨ownL g' a' g', rfl, fun x _ => rfl, by rw [ownL_len, List.length_replicate]; exact Nat.le_refl 128, ?_⟩
      rw [efull]
      repeat' first | refine And.intro trivial ?_ | refine And.intro rfl ?_ | (refine And.intro (fun h => ?_) (fun h => ?_) <;> try (first | (exact absurd h (by decide)) | (exfalso; simp only [decide_eq_true_eq, decide_eq_false_iff_not, Bool.not_eq_true', Bool.not_eq_false', cond_true, cond_false, Bool.false_eq_true, Bool.true_eq_false, Bool.not_true, Bool.not_false, reduceCtorEq, not_true_eq_false, not_false_eq_true, eq_self, ne_eq] at h; first | done | omega | contradiction))) | refine And.intro ?_ ?_ | exact rfl
      refine ⟨ownL g' b' g', rfl, fun x _ => rfl, by rw [ownL_len, List.length_replicate]; exact Nat.le_refl 128, ?_⟩
      rw [efull]
      repeat' first | refine And.intro trivial ?_ | refine And.intro rfl ?_ | (refine And.intro (fun h => ?_) (fun h => ?_) <;> try (first | (exact absurd h (by decide)) | (exfalso; simp only [decide_eq_true_eq, decide_eq_false_iff_not, Bool.not_eq_true', Bool.not_eq_false', cond_true, cond_false, Bool.false_eq_true, Bool.true_eq_false, Bool.not_true, Bool.not_false, reduceCtorEq, not_true_eq_false, not_false_eq_true, eq_self, ne_eq] at h; first | done | omega | contradiction))) | refine And.intro ?_ ?_ | exact rfl
      · rw [ownL_len]; exact Nat.le_refl 128
      · rw [ownL_len]; exact Nat.le_refl 128
      rw [e128, e128]
      refine ⟨.i64, ownL g' a' g', ownL g' b' g', rfl, rfl, rfl, ownL_len _ _ _, ownL_len _ _ _, ?_⟩
      repeat' first | refine And.intro trivial ?_ | refine And.intro rfl ?_ | (refine And.intro (fun h => ?_) (fun h => ?_) <;> try (first | (exact absurd h (by decide)) | (exfalso; simp only [decide_eq_true_eq, decide_eq_false_iff_not, Bool.not_eq_true', Bool.not_eq_false', cond_true, cond_false, Bool.false_eq_true, Bool.true_eq_false, Bool.not_true, Bool.not_false, reduceCtorEq, not_true_eq_false, not_false_eq_true, eq_self, ne_eq] at h; first | done | omega | contradiction))) | refine And.intro ?_ ?_ | exact rfl
      · exact .inr ⟨g', a', b', rfl, rfl, rfl, hM, hN, .inl ⟨moves_same g' a' b' (of_decide_eq_true h) (by omega) g' (Nat.le_refl _), rfl⟩⟩
      refine loop_live mixed (S := sch22) (by kernel_rfl) 55 (movesInv g' a' b' bA bB) ⟨g', movesL g' bA bB 0 .nils, movesH g' a' b' bA bB [], rfl, ⟨rfl, rfl, rfl, rfl, rfl, trivial⟩, Tells.refl _, 0, by omega, .inl ⟨rfl, rfl, rfl⟩⟩ ?_
      clear h
      intro n live H J ⟨k, hn, hcase⟩
      rcases hcase with ⟨hnil, rfl, rfl⟩ | ⟨bo, c, X, hne, hc1, hc2, rfl, rfl⟩
      · by_cases hk : k < g'
        · by_cases hne : ownN g' a' k = ownN g' b' k
          · have hm : moves g' a' b' (k + 1) = [] := by rw [moves_succ, hnil, if_pos hne]; rfl
            repeat' first | refine And.intro trivial ?_ | refine And.intro rfl ?_ | (refine And.intro (fun h => ?_) (fun h => ?_) <;> try (first | (exact absurd h (by decide)) | (exfalso; simp only [decide_eq_true_eq, decide_eq_false_iff_not, Bool.not_eq_true', Bool.not_eq_false', cond_true, cond_false, Bool.false_eq_true, Bool.true_eq_false, Bool.not_true, Bool.not_false, reduceCtorEq, not_true_eq_false, not_false_eq_true, eq_self, ne_eq] at h; first | done | omega | contradiction))) | refine And.intro ?_ ?_ | exact rfl
            · omega
            · show (k : Int) < 128
              omega
            · rw [ownL_len]; omega
            intro x hx
            obtain rfl : x = (ownN g' a' k : Nat) := by
              rw [show 0 + (k : Int).toNat = k from by omega, ownL_get g' a' g' k (by omega), if_pos hk] at hx
              exact (Option.some.inj hx).symm
            repeat' first | refine And.intro trivial ?_ | refine And.intro rfl ?_ | (refine And.intro (fun h => ?_) (fun h => ?_) <;> try (first | (exact absurd h (by decide)) | (exfalso; simp only [decide_eq_true_eq, decide_eq_false_iff_not, Bool.not_eq_true', Bool.not_eq_false', cond_true, cond_false, Bool.false_eq_true, Bool.true_eq_false, Bool.not_true, Bool.not_false, reduceCtorEq, not_true_eq_false, not_false_eq_true, eq_self, ne_eq] at h; first | done | omega | contradiction))) | refine And.intro ?_ ?_ | exact rfl
            · omega
            · show (k : Int) < 128
              omega
            · rw [ownL_len]; omega
            intro x hx
            obtain rfl : x = (ownN g' b' k : Nat) := by
              rw [show 0 + (k : Int).toNat = k from by omega, ownL_get g' b' g' k (by omega), if_pos hk] at hx
              exact (Option.some.inj hx).symm
            repeat' first | refine And.intro trivial ?_ | refine And.intro rfl ?_ | (refine And.intro (fun h => ?_) (fun h => ?_) <;> try (first | (exact absurd h (by decide)) | (exfalso; simp only [decide_eq_true_eq, decide_eq_false_iff_not, Bool.not_eq_true', Bool.not_eq_false', cond_true, cond_false, Bool.false_eq_true, Bool.true_eq_false, Bool.not_true, Bool.not_false, reduceCtorEq, not_true_eq_false, not_false_eq_true, eq_self, ne_eq] at h; first | done | omega | contradiction))) | refine And.intro ?_ ?_ | exact rfl
            conv => whnf
            refine ⟨n - 1, movesL g' bA bB (k + 1) .nils, movesH g' a' b' bA bB [], by omega, rfl, ⟨rfl, rfl, rfl, rfl, ?_, trivial⟩, Tells.refl _, k + 1, by omega, .inl ⟨hm, rfl, rfl⟩⟩
            show SV.den (.int .i64 (IntKind.i64.wrap ((k : Int) + 1))) = _
            rw [wr (by omega) (by omega)]; rfl
          · have hm : moves g' a' b' (k + 1) = [((k : Int), (ownN g' a' k : Int), (ownN g' b' k : Int))] := by rw [moves_succ, hnil, if_neg hne]; rfl
            repeat' first | refine And.intro trivial ?_ | refine And.intro rfl ?_ | (refine And.intro (fun h => ?_) (fun h => ?_) <;> try (first | (exact absurd h (by decide)) | (exfalso; simp only [decide_eq_true_eq, decide_eq_false_iff_not, Bool.not_eq_true', Bool.not_eq_false', cond_true, cond_false, Bool.false_eq_true, Bool.true_eq_false, Bool.not_true, Bool.not_false, reduceCtorEq, not_true_eq_false, not_false_eq_true, eq_self, ne_eq] at h; first | done | omega | contradiction))) | refine And.intro ?_ ?_ | exact rfl
            · omega
            · show (k : Int) < 128
              omega
            · rw [ownL_len]; omega
            intro x hx
            obtain rfl : x = (ownN g' a' k : Nat) := by
              rw [show 0 + (k : Int).toNat = k from by omega, ownL_get g' a' g' k (by omega), if_pos hk] at hx
              exact (Option.some.inj hx).symm
            repeat' first | refine And.intro trivial ?_ | refine And.intro rfl ?_ | (refine And.intro (fun h => ?_) (fun h => ?_) <;> try (first | (exact absurd h (by decide)) | (exfalso; simp only [decide_eq_true_eq, decide_eq_false_iff_not, Bool.not_eq_true', Bool.not_eq_false', cond_true, cond_false, Bool.false_eq_true, Bool.true_eq_false, Bool.not_true, Bool.not_false, reduceCtorEq, not_true_eq_false, not_false_eq_true, eq_self, ne_eq] at h; first | done | omega | contradiction))) | refine And.intro ?_ ?_ | exact rfl
            · omega
            · show (k : Int) < 128
              omega
            · rw [ownL_len]; omega
            intro x hx
            obtain rfl : x = (ownN g' b' k : Nat) := by
              rw [show 0 + (k : Int).toNat = k from by omega, ownL_get g' b' g' k (by omega), if_pos hk] at hx
              exact (Option.some.inj hx).symm
            repeat' first | refine And.intro trivial ?_ | refine And.intro rfl ?_ | (refine And.intro (fun h => ?_) (fun h => ?_) <;> try (first | (exact absurd h (by decide)) | (exfalso; simp only [decide_eq_true_eq, decide_eq_false_iff_not, Bool.not_eq_true', Bool.not_eq_false', cond_true, cond_false, Bool.false_eq_true, Bool.true_eq_false, Bool.not_true, Bool.not_false, reduceCtorEq, not_true_eq_false, not_false_eq_true, eq_self, ne_eq] at h; first | done | omega | contradiction))) | refine And.intro ?_ ?_ | exact rfl
            · omega
            · show (k : Int) < 128
              omega
            · rw [ownL_len]; omega
            intro x hx
            obtain rfl : x = (ownN g' a' k : Nat) := by
              rw [show 0 + (k : Int).toNat = k from by omega, ownL_get g' a' g' k (by omega), if_pos hk] at hx
              exact (Option.some.inj hx).symm
            repeat' first | refine And.intro trivial ?_ | refine And.intro rfl ?_ | (refine And.intro (fun h => ?_) (fun h => ?_) <;> try (first | (exact absurd h (by decide)) | (exfalso; simp only [decide_eq_true_eq, decide_eq_false_iff_not, Bool.not_eq_true', Bool.not_eq_false', cond_true, cond_false, Bool.false_eq_true, Bool.true_eq_false, Bool.not_true, Bool.not_false, reduceCtorEq, not_true_eq_false, not_false_eq_true, eq_self, ne_eq] at h; first | done | omega | contradiction))) | refine And.intro ?_ ?_ | exact rfl
            · omega
            · show (k : Int) < 128
              omega
            · rw [ownL_len]; omega
            intro x hx
            obtain rfl : x = (ownN g' b' k : Nat) := by
              rw [show 0 + (k : Int).toNat = k from by omega, ownL_get g' b' g' k (by omega), if_pos hk] at hx
              exact (Option.some.inj hx).symm
            repeat' first | refine And.intro trivial ?_ | refine And.intro rfl ?_ | (refine And.intro (fun h => ?_) (fun h => ?_) <;> try (first | (exact absurd h (by decide)) | (exfalso; simp only [decide_eq_true_eq, decide_eq_false_iff_not, Bool.not_eq_true', Bool.not_eq_false', cond_true, cond_false, Bool.false_eq_true, Bool.true_eq_false, Bool.not_true, Bool.not_false, reduceCtorEq, not_true_eq_false, not_false_eq_true, eq_self, ne_eq] at h; first | done | omega | contradiction))) | refine And.intro ?_ ?_ | exact rfl
            conv => whnf
            intro bL
            repeat' first | refine And.intro trivial ?_ | refine And.intro rfl ?_ | (refine And.intro (fun h => ?_) (fun h => ?_) <;> try (first | (exact absurd h (by decide)) | (exfalso; simp only [decide_eq_true_eq, decide_eq_false_iff_not, Bool.not_eq_true', Bool.not_eq_false', cond_true, cond_false, Bool.false_eq_true, Bool.true_eq_false, Bool.not_true, Bool.not_false, reduceCtorEq, not_true_eq_false, not_false_eq_true, eq_self, ne_eq] at h; first | done | omega | contradiction))) | refine And.intro ?_ ?_ | exact rfl
            · show (0 + 1) * 24 ≤ 140737488355328
              omega
            · omega
            conv => whnf
            refine ⟨Int × Int × Int, enc3, [], [((k : Int), (ownN g' a' k : Int), (ownN g' b' k : Int))], (0, 0, 0), fun _ => rfl, rfl, rfl, rfl, ?_⟩
            intro bN cN hcN
            repeat' first | refine And.intro trivial ?_ | refine And.intro rfl ?_ | (refine And.intro (fun h => ?_) (fun h => ?_) <;> try (first | (exact absurd h (by decide)) | (exfalso; simp only [decide_eq_true_eq, decide_eq_false_iff_not, Bool.not_eq_true', Bool.not_eq_false', cond_true, cond_false, Bool.false_eq_true, Bool.true_eq_false, Bool.not_true, Bool.not_false, reduceCtorEq, not_true_eq_false, not_false_eq_true, eq_self, ne_eq] at h; first | done | omega | contradiction))) | refine And.intro ?_ ?_ | exact rfl
            conv => whnf
            refine ⟨n - 1, movesL g' bA bB (k + 1) (.sl 2 ⟨bN, 0⟩ 3 0 1 cN), movesH g' a' b' bA bB [(⟨bN, 0⟩, .tab enc3 3 ([] ++ [((k : Int), (ownN g' a' k : Int), (ownN g' b' k : Int))] ++ List.replicate (cN - (0 + 1)) (0, 0, 0)))], by omega, rfl, ⟨rfl, rfl, rfl, rfl, ?_, trivial⟩, Tells.pick [0, 1, 3] [0, 1, 9, 2] (by decide) rfl, k + 1, by omega, .inr ⟨bN, cN, List.replicate (cN - (0 + 1)) (0, 0, 0), by rw [hm]; simp, by rw [hm]; exact hcN, by rw [hm]; simp; omega, by rw [hm]; rfl, by rw [hm]; rfl⟩⟩
            show SV.den (.int .i64 (IntKind.i64.wrap ((k : Int) + 1))) = _
            rw [wr (by omega) (by omega)]; rfl
        · repeat' first | refine And.intro trivial ?_ | refine And.intro rfl ?_ | (refine And.intro (fun h => ?_) (fun h => ?_) <;> try (first | (exact absurd h (by decide)) | (exfalso; simp only [decide_eq_true_eq, decide_eq_false_iff_not, Bool.not_eq_true', Bool.not_eq_false', cond_true, cond_false, Bool.false_eq_true, Bool.true_eq_false, Bool.not_true, Bool.not_false, reduceCtorEq, not_true_eq_false, not_false_eq_true, eq_self, ne_eq] at h; first | done | omega | contradiction))) | refine And.intro ?_ ?_ | exact rfl
          obtain rfl : k = g' := by omega
          exact .inr ⟨k, a', b', rfl, rfl, rfl, hM, hN, .inl ⟨hnil, rfl⟩⟩
      · by_cases hk : k < g'
        · by_cases hne' : ownN g' a' k = ownN g' b' k
          · have hm : moves g' a' b' (k + 1) = moves g' a' b' k := by rw [moves_succ, if_pos hne', List.append_nil]
            repeat' first | refine And.intro trivial ?_ | refine And.intro rfl ?_ | (refine And.intro (fun h => ?_) (fun h => ?_) <;> try (first | (exact absurd h (by decide)) | (exfalso; simp only [decide_eq_true_eq, decide_eq_false_iff_not, Bool.not_eq_true', Bool.not_eq_false', cond_true, cond_false, Bool.false_eq_true, Bool.true_eq_false, Bool.not_true, Bool.not_false, reduceCtorEq, not_true_eq_false, not_false_eq_true, eq_self, ne_eq] at h; first | done | omega | contradiction))) | refine And.intro ?_ ?_ | exact rfl
            · omega
            · show (k : Int) < 128
              omega
            · rw [ownL_len]; omega
            intro x hx
            obtain rfl : x = (ownN g' a' k : Nat) := by
              rw [show 0 + (k : Int).toNat = k from by omega, ownL_get g' a' g' k (by omega), if_pos hk] at hx
              exact (Option.some.inj hx).symm
            repeat' first | refine And.intro trivial ?_ | refine And.intro rfl ?_ | (refine And.intro (fun h => ?_) (fun h => ?_) <;> try (first | (exact absurd h (by decide)) | (exfalso; simp only [decide_eq_true_eq, decide_eq_false_iff_not, Bool.not_eq_true', Bool.not_eq_false', cond_true, cond_false, Bool.false_eq_true, Bool.true_eq_false, Bool.not_true, Bool.not_false, reduceCtorEq, not_true_eq_false, not_false_eq_true, eq_self, ne_eq] at h; first | done | omega | contradiction))) | refine And.intro ?_ ?_ | exact rfl
            · omega
            · show (k : Int) < 128
              omega
            · rw [ownL_len]; omega
            intro x hx
            obtain rfl : x = (ownN g' b' k : Nat) := by
              rw [show 0 + (k : Int).toNat = k from by omega, ownL_get g' b' g' k (by omega), if_pos hk] at hx
              exact (Option.some.inj hx).symm
            repeat' first | refine And.intro trivial ?_ | refine And.intro rfl ?_ | (refine And.intro (fun h => ?_) (fun h => ?_) <;> try (first | (exact absurd h (by decide)) | (exfalso; simp only [decide_eq_true_eq, decide_eq_false_iff_not, Bool.not_eq_true', Bool.not_eq_false', cond_true, cond_false, Bool.false_eq_true, Bool.true_eq_false, Bool.not_true, Bool.not_false, reduceCtorEq, not_true_eq_false, not_false_eq_true, eq_self, ne_eq] at h; first | done | omega | contradiction))) | refine And.intro ?_ ?_ | exact rfl
            conv => whnf
            refine ⟨n - 1, movesL g' bA bB (k + 1) (.sl 2 ⟨bo, 0⟩ 3 0 (moves g' a' b' k).length c), movesH g' a' b' bA bB [(⟨bo, 0⟩, .tab enc3 3 (moves g' a' b' k ++ X))], by omega, rfl, ⟨rfl, rfl, rfl, rfl, ?_, trivial⟩, Tells.refl _, k + 1, by omega, .inr ⟨bo, c, X, by rw [hm]; exact hne, by rw [hm]; exact hc1, by rw [hm]; exact hc2, by rw [hm], by rw [hm]⟩⟩
            show SV.den (.int .i64 (IntKind.i64.wrap ((k : Int) + 1))) = _
            rw [wr (by omega) (by omega)]; rfl
          · have hm : moves g' a' b' (k + 1) = moves g' a' b' k ++ [((k : Int), (ownN g' a' k : Int), (ownN g' b' k : Int))] := by rw [moves_succ, if_neg hne']
            have hlen := moves_len g' a' b' k
            repeat' first | refine And.intro trivial ?_ | refine And.intro rfl ?_ | (refine And.intro (fun h => ?_) (fun h => ?_) <;> try (first | (exact absurd h (by decide)) | (exfalso; simp only [decide_eq_true_eq, decide_eq_false_iff_not, Bool.not_eq_true', Bool.not_eq_false', cond_true, cond_false, Bool.false_eq_true, Bool.true_eq_false, Bool.not_true, Bool.not_false, reduceCtorEq, not_true_eq_false, not_false_eq_true, eq_self, ne_eq] at h; first | done | omega | contradiction))) | refine And.intro ?_ ?_ | exact rfl
            · omega
            · show (k : Int) < 128
              omega
            · rw [ownL_len]; omega
            intro x hx
            obtain rfl : x = (ownN g' a' k : Nat) := by
              rw [show 0 + (k : Int).toNat = k from by omega, ownL_get g' a' g' k (by omega), if_pos hk] at hx
              exact (Option.some.inj hx).symm
            repeat' first | refine And.intro trivial ?_ | refine And.intro rfl ?_ | (refine And.intro (fun h => ?_) (fun h => ?_) <;> try (first | (exact absurd h (by decide)) | (exfalso; simp only [decide_eq_true_eq, decide_eq_false_iff_not, Bool.not_eq_true', Bool.not_eq_false', cond_true, cond_false, Bool.false_eq_true, Bool.true_eq_false, Bool.not_true, Bool.not_false, reduceCtorEq, not_true_eq_false, not_false_eq_true, eq_self, ne_eq] at h; first | done | omega | contradiction))) | refine And.intro ?_ ?_ | exact rfl
            · omega
            · show (k : Int) < 128
              omega
            · rw [ownL_len]; omega
            intro x hx
            obtain rfl : x = (ownN g' b' k : Nat) := by
              rw [show 0 + (k : Int).toNat = k from by omega, ownL_get g' b' g' k (by omega), if_pos hk] at hx
              exact (Option.some.inj hx).symm
            repeat' first | refine And.intro trivial ?_ | refine And.intro rfl ?_ | (refine And.intro (fun h => ?_) (fun h => ?_) <;> try (first | (exact absurd h (by decide)) | (exfalso; simp only [decide_eq_true_eq, decide_eq_false_iff_not, Bool.not_eq_true', Bool.not_eq_false', cond_true, cond_false, Bool.false_eq_true, Bool.true_eq_false, Bool.not_true, Bool.not_false, reduceCtorEq, not_true_eq_false, not_false_eq_true, eq_self, ne_eq] at h; first | done | omega | contradiction))) | refine And.intro ?_ ?_ | exact rfl
            · omega
            · show (k : Int) < 128
              omega
            · rw [ownL_len]; omega
            intro x hx
            obtain rfl : x = (ownN g' a' k : Nat) := by
              rw [show 0 + (k : Int).toNat = k from by omega, ownL_get g' a' g' k (by omega), if_pos hk] at hx
              exact (Option.some.inj hx).symm
            repeat' first | refine And.intro trivial ?_ | refine And.intro rfl ?_ | (refine And.intro (fun h => ?_) (fun h => ?_) <;> try (first | (exact absurd h (by decide)) | (exfalso; simp only [decide_eq_true_eq, decide_eq_false_iff_not, Bool.not_eq_true', Bool.not_eq_false', cond_true, cond_false, Bool.false_eq_true, Bool.true_eq_false, Bool.not_true, Bool.not_false, reduceCtorEq, not_true_eq_false, not_false_eq_true, eq_self, ne_eq] at h; first | done | omega | contradiction))) | refine And.intro ?_ ?_ | exact rfl
            · omega
            · show (k : Int) < 128
              omega
            · rw [ownL_len]; omega
            intro x hx
            obtain rfl : x = (ownN g' b' k : Nat) := by
              rw [show 0 + (k : Int).toNat = k from by omega, ownL_get g' b' g' k (by omega), if_pos hk] at hx
              exact (Option.some.inj hx).symm
            repeat' first | refine And.intro trivial ?_ | refine And.intro rfl ?_ | (refine And.intro (fun h => ?_) (fun h => ?_) <;> try (first | (exact absurd h (by decide)) | (exfalso; simp only [decide_eq_true_eq, decide_eq_false_iff_not, Bool.not_eq_true', Bool.not_eq_false', cond_true, cond_false, Bool.false_eq_true, Bool.true_eq_false, Bool.not_true, Bool.not_false, reduceCtorEq, not_true_eq_false, not_false_eq_true, eq_self, ne_eq] at h; first | done | omega | contradiction))) | refine And.intro ?_ ?_ | exact rfl
            conv => whnf
            intro bL
            repeat' first | refine And.intro trivial ?_ | refine And.intro rfl ?_ | (refine And.intro (fun h => ?_) (fun h => ?_) <;> try (first | (exact absurd h (by decide)) | (exfalso; simp only [decide_eq_true_eq, decide_eq_false_iff_not, Bool.not_eq_true', Bool.not_eq_false', cond_true, cond_false, Bool.false_eq_true, Bool.true_eq_false, Bool.not_true, Bool.not_false, reduceCtorEq, not_true_eq_false, not_false_eq_true, eq_self, ne_eq] at h; first | done | omega | contradiction))) | refine And.intro ?_ ?_ | exact rfl
            · have hfit := h
              refine ⟨[((k : Int), (ownN g' a' k : Int), (ownN g' b' k : Int))], rfl, fun _ _ => rfl, by simp at hc2 ⊢; omega, ?_⟩
              have eT : List.take (0 + (moves g' a' b' k).length) (moves g' a' b' k ++ X) ++ [((k : Int), (ownN g' a' k : Int), (ownN g' b' k : Int))] ++ List.drop (0 + (moves g' a' b' k).length + [((k : Int), (ownN g' a' k : Int), (ownN g' b' k : Int))].length) (moves g' a' b' k ++ X) = moves g' a' b' (k + 1) ++ X.drop 1 := by
                rw [hm, Nat.zero_add, List.take_left']
                · rw [← List.drop_drop, List.drop_left']
                  · rfl
                  · rfl
                · rfl
              rw [eT]
              repeat' first | refine And.intro trivial ?_ | refine And.intro rfl ?_ | (refine And.intro (fun h => ?_) (fun h => ?_) <;> try (first | (exact absurd h (by decide)) | (exfalso; simp only [decide_eq_true_eq, decide_eq_false_iff_not, Bool.not_eq_true', Bool.not_eq_false', cond_true, cond_false, Bool.false_eq_true, Bool.true_eq_false, Bool.not_true, Bool.not_false, reduceCtorEq, not_true_eq_false, not_false_eq_true, eq_self, ne_eq] at h; first | done | omega | contradiction))) | refine And.intro ?_ ?_ | exact rfl
              conv => whnf
              refine ⟨n - 1, movesL g' bA bB (k + 1) (.sl 2 ⟨bo, 0⟩ 3 0 ((moves g' a' b' k).length + 1) c), movesH g' a' b' bA bB [(⟨bo, 0⟩, .tab enc3 3 (moves g' a' b' (k + 1) ++ X.drop 1))], by omega, rfl, ⟨rfl, rfl, rfl, rfl, ?_, trivial⟩, Tells.pick [0, 1, 2] [0, 1, 2] (by decide) rfl, k + 1, by omega, .inr ⟨bo, c, X.drop 1, by rw [hm]; simp, by rw [hm]; simpa using hfit, by rw [hm]; simp at hc2 ⊢; omega, by rw [hm]; simp, rfl⟩⟩
              show SV.den (.int .i64 (IntKind.i64.wrap ((k : Int) + 1))) = _
              rw [wr (by omega) (by omega)]; rfl
            · show ((moves g' a' b' k).length + 1) * 24 ≤ 140737488355328
              omega
            · omega
            · show (List.take ((moves g' a' b' k).length * 3) (List.drop (0 * 3) (List.flatMap enc3 (moves g' a' b' k ++ X)))).length = _
              rw [flatMap_drop enc3 3 _ (fun _ _ => rfl), flatMap_take enc3 3 _ (fun _ _ => rfl), flatMap_length enc3 3 _ (fun _ _ => rfl)]; simp
            conv => whnf
            refine ⟨Int × Int × Int, enc3, moves g' a' b' k, [((k : Int), (ownN g' a' k : Int), (ownN g' b' k : Int))], (0, 0, 0), fun _ => rfl, ?_, rfl, rfl, ?_⟩
            · show _ = List.take ((moves g' a' b' k).length * 3) (List.drop (0 * 3) (List.flatMap enc3 (moves g' a' b' k ++ X)))
              rw [flatMap_drop enc3 3 _ (fun _ _ => rfl), flatMap_take enc3 3 _ (fun _ _ => rfl)]; simp
            intro bN cN hcN
            rw [← hm]
            repeat' first | refine And.intro trivial ?_ | refine And.intro rfl ?_ | (refine And.intro (fun h => ?_) (fun h => ?_) <;> try (first | (exact absurd h (by decide)) | (exfalso; simp only [decide_eq_true_eq, decide_eq_false_iff_not, Bool.not_eq_true', Bool.not_eq_false', cond_true, cond_false, Bool.false_eq_true, Bool.true_eq_false, Bool.not_true, Bool.not_false, reduceCtorEq, not_true_eq_false, not_false_eq_true, eq_self, ne_eq] at h; first | done | omega | contradiction))) | refine And.intro ?_ ?_ | exact rfl
            conv => whnf
            refine ⟨n - 1, movesL g' bA bB (k + 1) (.sl 2 ⟨bN, 0⟩ 3 0 ((moves g' a' b' k).length + 1) cN), movesH g' a' b' bA bB [(⟨bN, 0⟩, .tab enc3 3 (moves g' a' b' (k + 1) ++ List.replicate (cN - ((moves g' a' b' k).length + 1)) (0, 0, 0)))], by omega, rfl, ⟨rfl, rfl, rfl, rfl, ?_, trivial⟩, Tells.pick [0, 1, 4] [0, 1, 9, 9, 2] (by decide) rfl, k + 1, by omega, .inr ⟨bN, cN, _, by rw [hm]; simp, by rw [hm]; simpa using hcN, by rw [hm]; simp; omega, by rw [hm]; simp, rfl⟩⟩
            show SV.den (.int .i64 (IntKind.i64.wrap ((k : Int) + 1))) = _
            rw [wr (by omega) (by omega)]; rfl
        · repeat' first | refine And.intro trivial ?_ | refine And.intro rfl ?_ | (refine And.intro (fun h => ?_) (fun h => ?_) <;> try (first | (exact absurd h (by decide)) | (exfalso; simp only [decide_eq_true_eq, decide_eq_false_iff_not, Bool.not_eq_true', Bool.not_eq_false', cond_true, cond_false, Bool.false_eq_true, Bool.true_eq_false, Bool.not_true, Bool.not_false, reduceCtorEq, not_true_eq_false, not_false_eq_true, eq_self, ne_eq] at h; first | done | omega | contradiction))) | refine And.intro ?_ ?_ | exact rfl
          obtain rfl : k = g' := by omega
          exact .inr ⟨k, a', b', rfl, rfl, rfl, hM, hN, .inr ⟨2, bo, c, X, hne, hc1, hc2, rfl, rfl⟩⟩

theorem moves_ob (g a b : Int) (K : SV → SH → Prop)
    (h1 : ¬ (May g a ∧ May g b) → K (.tup [.nils, .int .i64 1]) [])
    (h2 : ∀ (g' a' b' : Nat), g = g' → a = a' → b = b' → May g a → May g b → moves g' a' b' g' = [] → K (.tup [.nils, .int .i64 0]) [])
    (h3 : ∀ (g' a' b' bo c : Nat) (J : List (Int × Int × Int)), g = g' → a = a' → b = b' → May g a → May g b → moves g' a' b' g' ≠ [] → (moves g' a' b' g').length ≤ c → c ≤ (moves g' a' b' g' ++ J).length → K (.tup [.sl 0 ⟨bo, 0⟩ 3 0 (moves g' a' b' g').length c, .int .i64 0]) [(⟨bo, 0⟩, .tab enc3 3 (moves g' a' b' g' ++ J))]) :
    FnOb Try.prog 22 [.int .i64 g, .int .i64 a, .int .i64 b] [] K := by
  refine (moves_raw g a b).retell fun r H' hr => ?_
  rcases hr with ⟨hn, rfl⟩ | ⟨g', a', b', e1, e2, e3, hM, hN, ⟨hnil, rfl⟩ | ⟨i, bo, c, J, hne, hc1, hc2, rfl, hi⟩⟩
  · exact ⟨_, [], rfl, Tells.drop [] H', h1 hn⟩
  · exact ⟨_, [], rfl, Tells.drop [] H', h2 g' a' b' e1 e2 e3 hM hN hnil⟩
  · refine ⟨_, [(⟨bo, 0⟩, .tab enc3 3 (moves g' a' b' g' ++ J))], ?_, Tells.pick [i] [] (by simp) (by simp [hi, rnP, rnB]), h3 g' a' b' bo c J e1 e2 e3 hM hN hne hc1 hc2⟩
    rfl
end Go.Proofs.Ytbmdmeljflmcgaa

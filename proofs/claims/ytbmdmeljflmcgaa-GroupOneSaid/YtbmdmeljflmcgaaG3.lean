/- The groups: who has a group. Own work. -/
import Derived.Test.YtbmdmeljflmcgaaG2
namespace Go.Proofs.Ytbmdmeljflmcgaa
open Go Go.Sx
set_option maxRecDepth 100000
set_option linter.unusedVariables false
set_option linter.unusedSimpArgs false
set_option maxHeartbeats 4000000

/-- Who has group k. -/
def ownN (g t k : Nat) : Nat := ((k + 1) * t - 1) / g

theorem own_le (g t k i : Nat) (hg : 0 < g) (ht : 0 < t) : (i + 1) * g / t ≤ k ↔ i < ownN g t k := by
  unfold ownN
  have h1 : (i + 1) * g / t ≤ k ↔ (i + 1) * g < (k + 1) * t := by
    rw [← Nat.lt_succ_iff, Nat.div_lt_iff_lt_mul ht]
  have h2 : i < ((k + 1) * t - 1) / g ↔ (i + 1) * g ≤ (k + 1) * t - 1 := by
    rw [← Nat.succ_le_iff, Nat.le_div_iff_mul_le hg]
  rw [h1, h2]
  have : 0 < (k + 1) * t := Nat.mul_pos (by omega) ht
  omega

theorem own_iff (g t k i : Nat) (hg : 0 < g) (ht : 0 < t) : ownN g t k = i ↔ i * g / t ≤ k ∧ k < (i + 1) * g / t := by
  have h1 := own_le g t k i hg ht
  cases i with
  | zero =>
    rw [Nat.zero_mul, Nat.zero_div]
    constructor
    · intro h; exact ⟨by omega, by rw [← Nat.not_le]; intro hh; have := h1.1 hh; omega⟩
    · rintro ⟨_, h⟩
      have := mt h1.2 (by omega); omega
  | succ i =>
    have h2 := own_le g t k i hg ht
    constructor
    · intro h; exact ⟨h2.2 (by omega), by rw [← Nat.not_le]; intro hh; have := h1.1 hh; omega⟩
    · rintro ⟨ha, h⟩
      have := mt h1.2 (by omega)
      have := h2.1 ha
      omega

theorem own_lt (g t k : Nat) (hg : 0 < g) (ht : 0 < t) (hk : k < g) : ownN g t k < t := by
  unfold ownN
  rw [Nat.div_lt_iff_lt_mul hg]
  have : (k + 1) * t ≤ g * t := Nat.mul_le_mul_right t hk
  have : 0 < (k + 1) * t := Nat.mul_pos (by omega) ht
  rw [Nat.mul_comm t g]
  omega

theorem refowner_ob (g t k : Int) (H : SH) (K : SV → SH → Prop)
    (h1 : ¬ (May g t ∧ 0 ≤ k ∧ k < g) → K (.tup [.int .i64 0, .int .i64 1]) H)
    (h2 : ∀ (g' t' k' : Nat), g = g' → t = t' → k = k' → May g t → k' < g' → K (.tup [.int .i64 (ownN g' t' k'), .int .i64 0]) H) :
    FnOb Try.prog 32 [.int .i64 g, .int .i64 t, .int .i64 k] H K := by
  apply en32
  repeat' first | refine And.intro trivial ?_ | refine And.intro rfl ?_ | (refine And.intro (fun h => ?_) (fun h => ?_) <;> try (first | (exact absurd h (by decide)) | (exfalso; simp only [decide_eq_true_eq, decide_eq_false_iff_not, Bool.not_eq_true', Bool.not_eq_false', cond_true, cond_false, Bool.false_eq_true, Bool.true_eq_false, Bool.not_true, Bool.not_false, reduceCtorEq, not_true_eq_false, not_false_eq_true, eq_self, ne_eq] at h; first | done | omega | contradiction))) | refine And.intro ?_ ?_ | exact rfl
  refine refmay_ob g t _ _ fun b hb => ?_
  cases b with
  | false =>
    repeat' first | refine And.intro trivial ?_ | refine And.intro rfl ?_ | (refine And.intro (fun h => ?_) (fun h => ?_) <;> try (first | (exact absurd h (by decide)) | (exfalso; simp only [decide_eq_true_eq, decide_eq_false_iff_not, Bool.not_eq_true', Bool.not_eq_false', cond_true, cond_false, Bool.false_eq_true, Bool.true_eq_false, Bool.not_true, Bool.not_false, reduceCtorEq, not_true_eq_false, not_false_eq_true, eq_self, ne_eq] at h; first | done | omega | contradiction))) | refine And.intro ?_ ?_ | exact rfl
    exact h1 (fun hm => by have := hb.2 hm.1; cases this)
  | true =>
    have hM := hb.1 rfl
    obtain ⟨m1, m2, m3, m4, m5⟩ := id hM
    repeat' first | refine And.intro trivial ?_ | refine And.intro rfl ?_ | (refine And.intro (fun h => ?_) (fun h => ?_) <;> try (first | (exact absurd h (by decide)) | (exfalso; simp only [decide_eq_true_eq, decide_eq_false_iff_not, Bool.not_eq_true', Bool.not_eq_false', cond_true, cond_false, Bool.false_eq_true, Bool.true_eq_false, Bool.not_true, Bool.not_false, reduceCtorEq, not_true_eq_false, not_false_eq_true, eq_self, ne_eq] at h; first | done | omega | contradiction))) | refine And.intro ?_ ?_ | exact rfl
    · exact h1 (fun hm => by have := of_decide_eq_true h; omega)
    · have hlt := of_decide_eq_false h
      have hi0 : ¬ k < 0 := of_decide_eq_false ‹decide (k < 0) = false›
      obtain ⟨g', rfl⟩ : ∃ g' : Nat, g = g' := ⟨g.toNat, by omega⟩
      obtain ⟨t', rfl⟩ : ∃ t' : Nat, t = t' := ⟨t.toNat, by omega⟩
      obtain ⟨k', rfl⟩ : ∃ k' : Nat, k = k' := ⟨k.toNat, by omega⟩
      have hg : 0 < g' := by omega
      have ht : 0 < t' := by omega
      have hown := own_lt g' t' k' hg ht (by omega)
      refine loop_live mixed (S := sch32) (by kernel_rfl) 33 (fun n live H' => ∃ i, n + i = ownN g' t' k' ∧ H' = H ∧ live = [(0, .int .i64 g'), (1, .int .i64 t'), (2, .int .i64 k'), (8, .int .i64 i)]) ⟨ownN g' t' k', [(0, .int .i64 g'), (1, .int .i64 t'), (2, .int .i64 k'), (8, .int .i64 (0 : Nat))], H, rfl, ⟨rfl, rfl, rfl, rfl, trivial⟩, Tells.refl H, 0, by omega, rfl, rfl⟩ ?_
      intro n live H' J ⟨i, hn, e1, e2⟩
      subst e1; subst e2
      have hp : (i + 1) * g' ≤ 17 * 128 := Nat.mul_le_mul (by omega) (by omega)
      have hd : (i + 1) * g' / t' ≤ (i + 1) * g' := Nat.div_le_self _ _
      have ev : ((IntKind.i64.wrap ((IntKind.i64.wrap ((i : Int) + 1)) * (g' : Int))).tdiv (t' : Int)) = (((i + 1) * g' / t' : Nat) : Int) := by
        rw [show IntKind.i64.wrap ((i : Int) + 1) = ((i + 1 : Nat) : Int) from wr (by omega) (by omega), ← Int.natCast_mul, wrn _ (by omega), tdivn]
      have ew : IntKind.i64.wrap (((i + 1) * g' / t' : Nat) : Int) = (((i + 1) * g' / t' : Nat) : Int) := wrn _ (Nat.le_trans hd (Nat.le_trans hp (by omega)))
      have hle := own_le g' t' k' i hg ht
      repeat' first | refine And.intro trivial ?_ | refine And.intro rfl ?_ | (refine And.intro (fun h => ?_) (fun h => ?_) <;> try (first | (exact absurd h (by decide)) | (exfalso; simp only [decide_eq_true_eq, decide_eq_false_iff_not, Bool.not_eq_true', Bool.not_eq_false', cond_true, cond_false, Bool.false_eq_true, Bool.true_eq_false, Bool.not_true, Bool.not_false, reduceCtorEq, not_true_eq_false, not_false_eq_true, eq_self, ne_eq] at h; first | done | omega | contradiction))) | refine And.intro ?_ ?_ | exact rfl
      · omega
      · rw [ev, ew] at h
        have hlt' := hle.1 (Int.ofNat_le.1 (of_decide_eq_true h))
        conv => whnf
        refine ⟨n - 1, [(0, .int .i64 g'), (1, .int .i64 t'), (2, .int .i64 k'), (8, .int .i64 (i + 1 : Nat))], H', by omega, rfl, ⟨rfl, rfl, rfl, ?_, trivial⟩, Tells.refl _, i + 1, by omega, rfl, rfl⟩
        show SV.den (.int .i64 (IntKind.i64.wrap ((i : Int) + 1))) = _
        rw [wr (by omega) (by omega)]; rfl
      · rw [ev, ew] at h
        have hge := mt hle.2 (fun hh => of_decide_eq_false h (Int.ofNat_le.2 hh))
        conv => whnf
        rw [show i = ownN g' t' k' from by omega]
        exact h2 g' t' k' rfl rfl rfl hM (by omega)
    · exact h1 (fun hm => by have := of_decide_eq_true ‹decide (k < 0) = true›; omega)

theorem of_ob (s : List UInt8) (hs : s.length ≤ 9223372036854775807) (g : Int) (H : SH) (K : SV → SH → Prop)
    (h1 : ¬ (1 ≤ g ∧ g ≤ 128) → K (.tup [.int .i64 0, .int .i64 1]) H)
    (h2 : ∀ g' : Nat, g = g' → 1 ≤ g' → g' ≤ 128 → K (.tup [.int .i64 (hashN s % g' : Nat), .int .i64 0]) H) :
    FnOb Try.prog 26 [.str s, .int .i64 g] H K := by
  apply en26
  repeat' first | refine And.intro trivial ?_ | refine And.intro rfl ?_ | (refine And.intro (fun h => ?_) (fun h => ?_) <;> try (first | (exact absurd h (by decide)) | (exfalso; simp only [decide_eq_true_eq, decide_eq_false_iff_not, Bool.not_eq_true', Bool.not_eq_false', cond_true, cond_false, Bool.false_eq_true, Bool.true_eq_false, Bool.not_true, Bool.not_false, reduceCtorEq, not_true_eq_false, not_false_eq_true, eq_self, ne_eq] at h; first | done | omega | contradiction))) | refine And.intro ?_ ?_ | exact rfl
  refine may_ob g 1 _ _ fun b hb => ?_
  cases b with
  | false =>
    repeat' first | refine And.intro trivial ?_ | refine And.intro rfl ?_ | (refine And.intro (fun h => ?_) (fun h => ?_) <;> try (first | (exact absurd h (by decide)) | (exfalso; simp only [decide_eq_true_eq, decide_eq_false_iff_not, Bool.not_eq_true', Bool.not_eq_false', cond_true, cond_false, Bool.false_eq_true, Bool.true_eq_false, Bool.not_true, Bool.not_false, reduceCtorEq, not_true_eq_false, not_false_eq_true, eq_self, ne_eq] at h; first | done | omega | contradiction))) | refine And.intro ?_ ?_ | exact rfl
    exact h1 (fun hm => by have := hb.2 (by unfold May; omega); cases this)
  | true =>
    have hM := hb.1 rfl
    obtain ⟨m1, m2, m3, m4, m5⟩ := id hM
    obtain ⟨g', rfl⟩ : ∃ g' : Nat, g = g' := ⟨g.toNat, by omega⟩
    repeat' first | refine And.intro trivial ?_ | refine And.intro rfl ?_ | (refine And.intro (fun h => ?_) (fun h => ?_) <;> try (first | (exact absurd h (by decide)) | (exfalso; simp only [decide_eq_true_eq, decide_eq_false_iff_not, Bool.not_eq_true', Bool.not_eq_false', cond_true, cond_false, Bool.false_eq_true, Bool.true_eq_false, Bool.not_true, Bool.not_false, reduceCtorEq, not_true_eq_false, not_false_eq_true, eq_self, ne_eq] at h; first | done | omega | contradiction))) | refine And.intro ?_ ?_ | exact rfl
    refine hash_ob s hs _ _ ?_
    have e : IntKind.u32.wrap (g' : Int) = g' := wu32 (by omega) (by omega)
    repeat' first | refine And.intro trivial ?_ | refine And.intro rfl ?_ | (refine And.intro (fun h => ?_) (fun h => ?_) <;> try (first | (exact absurd h (by decide)) | (exfalso; simp only [decide_eq_true_eq, decide_eq_false_iff_not, Bool.not_eq_true', Bool.not_eq_false', cond_true, cond_false, Bool.false_eq_true, Bool.true_eq_false, Bool.not_true, Bool.not_false, reduceCtorEq, not_true_eq_false, not_false_eq_true, eq_self, ne_eq] at h; first | done | omega | contradiction))) | refine And.intro ?_ ?_ | exact rfl
    · rw [e]; omega
    · have hm : hashN s % g' < g' := Nat.mod_lt _ (by omega)
      conv => whnf
      rw [e, tmod_nat, wrn _ (by omega)]
      exact h2 g' rfl (by omega) (by omega)

theorem refof_ob (s : List UInt8) (hs : s.length ≤ 9223372036854775807) (g : Int) (H : SH) (K : SV → SH → Prop)
    (h1 : ¬ (1 ≤ g ∧ g ≤ 128) → K (.tup [.int .i64 0, .int .i64 1]) H)
    (h2 : ∀ g' : Nat, g = g' → 1 ≤ g' → g' ≤ 128 → K (.tup [.int .i64 (hashN s % g' : Nat), .int .i64 0]) H) :
    FnOb Try.prog 27 [.str s, .int .i64 g] H K := by
  apply en27
  repeat' first | refine And.intro trivial ?_ | refine And.intro rfl ?_ | (refine And.intro (fun h => ?_) (fun h => ?_) <;> try (first | (exact absurd h (by decide)) | (exfalso; simp only [decide_eq_true_eq, decide_eq_false_iff_not, Bool.not_eq_true', Bool.not_eq_false', cond_true, cond_false, Bool.false_eq_true, Bool.true_eq_false, Bool.not_true, Bool.not_false, reduceCtorEq, not_true_eq_false, not_false_eq_true, eq_self, ne_eq] at h; first | done | omega | contradiction))) | refine And.intro ?_ ?_ | exact rfl
  refine refmay_ob g 1 _ _ fun b hb => ?_
  cases b with
  | false =>
    repeat' first | refine And.intro trivial ?_ | refine And.intro rfl ?_ | (refine And.intro (fun h => ?_) (fun h => ?_) <;> try (first | (exact absurd h (by decide)) | (exfalso; simp only [decide_eq_true_eq, decide_eq_false_iff_not, Bool.not_eq_true', Bool.not_eq_false', cond_true, cond_false, Bool.false_eq_true, Bool.true_eq_false, Bool.not_true, Bool.not_false, reduceCtorEq, not_true_eq_false, not_false_eq_true, eq_self, ne_eq] at h; first | done | omega | contradiction))) | refine And.intro ?_ ?_ | exact rfl
    exact h1 (fun hm => by have := hb.2 (by unfold May; omega); cases this)
  | true =>
    have hM := hb.1 rfl
    obtain ⟨m1, m2, m3, m4, m5⟩ := id hM
    obtain ⟨g', rfl⟩ : ∃ g' : Nat, g = g' := ⟨g.toNat, by omega⟩
    repeat' first | refine And.intro trivial ?_ | refine And.intro rfl ?_ | (refine And.intro (fun h => ?_) (fun h => ?_) <;> try (first | (exact absurd h (by decide)) | (exfalso; simp only [decide_eq_true_eq, decide_eq_false_iff_not, Bool.not_eq_true', Bool.not_eq_false', cond_true, cond_false, Bool.false_eq_true, Bool.true_eq_false, Bool.not_true, Bool.not_false, reduceCtorEq, not_true_eq_false, not_false_eq_true, eq_self, ne_eq] at h; first | done | omega | contradiction))) | refine And.intro ?_ ?_ | exact rfl
    refine refhash_ob s hs _ _ ?_
    have e : IntKind.u32.wrap (g' : Int) = g' := wu32 (by omega) (by omega)
    repeat' first | refine And.intro trivial ?_ | refine And.intro rfl ?_ | (refine And.intro (fun h => ?_) (fun h => ?_) <;> try (first | (exact absurd h (by decide)) | (exfalso; simp only [decide_eq_true_eq, decide_eq_false_iff_not, Bool.not_eq_true', Bool.not_eq_false', cond_true, cond_false, Bool.false_eq_true, Bool.true_eq_false, Bool.not_true, Bool.not_false, reduceCtorEq, not_true_eq_false, not_false_eq_true, eq_self, ne_eq] at h; first | done | omega | contradiction))) | refine And.intro ?_ ?_ | exact rfl
    · rw [e]; omega
    · have hm : hashN s % g' < g' := Nat.mod_lt _ (by omega)
      conv => whnf
      rw [e, tmod_nat, wrn _ (by omega)]
      exact h2 g' rfl (by omega) (by omega)

/-- Of each group its owner, up to group m. -/
def ownL (g t m : Nat) : List Int := (List.range 128).map fun k => if k < m then (ownN g t k : Int) else 0
theorem ownL_len (g t m : Nat) : (ownL g t m).length = 128 := by simp [ownL]
theorem ownL_zero (g t : Nat) : List.replicate 128 0 = ownL g t 0 := by
  apply List.ext_getElem
  · simp [ownL]
  · intro k h1 h2; rw [List.getElem_replicate]; simp [ownL]
theorem ownL_get (g t m k : Nat) (hk : k < 128) : (ownL g t m)[k]? = some (if k < m then (ownN g t k : Int) else 0) := by
  simp [ownL, hk]
theorem ownL_succ (g t m i : Nat) (hi : ownN g t m = i) : (ownL g t m).set m (i : Int) = ownL g t (m + 1) := by
  subst hi
  apply List.ext_getElem
  · simp [ownL]
  · intro k h1 h2
    simp only [ownL, List.getElem_set, List.getElem_map, List.getElem_range]
    by_cases hk : m = k
    · subst hk; simp
    · rw [if_neg hk]
      have : k < m + 1 ↔ k < m := by omega
      simp only [this]

theorem owners_ob (g t : Nat) (hM : May g t) (H : SH) (K : SV → SH → Prop) (hK : K (.agg ((ownL g t g).flatMap (encInt .i64))) H) : FnOb Try.prog 40 [.int .i64 g, .int .i64 t] H K := by
  obtain ⟨m1, m2, m3, m4, m5⟩ := id hM
  have hg : 0 < g := by omega
  have ht : 0 < t := by omega
  apply FnOb.pure
  apply en40
  repeat' first | refine And.intro trivial ?_ | refine And.intro rfl ?_ | (refine And.intro (fun h => ?_) (fun h => ?_) <;> try (first | (exact absurd h (by decide)) | (exfalso; simp only [decide_eq_true_eq, decide_eq_false_iff_not, Bool.not_eq_true', Bool.not_eq_false', cond_true, cond_false, Bool.false_eq_true, Bool.true_eq_false, Bool.not_true, Bool.not_false, reduceCtorEq, not_true_eq_false, not_false_eq_true, eq_self, ne_eq] at h; first | done | omega | contradiction))) | refine And.intro ?_ ?_ | exact rfl
  intro b
  repeat' first | refine And.intro trivial ?_ | refine And.intro rfl ?_ | (refine And.intro (fun h => ?_) (fun h => ?_) <;> try (first | (exact absurd h (by decide)) | (exfalso; simp only [decide_eq_true_eq, decide_eq_false_iff_not, Bool.not_eq_true', Bool.not_eq_false', cond_true, cond_false, Bool.false_eq_true, Bool.true_eq_false, Bool.not_true, Bool.not_false, reduceCtorEq, not_true_eq_false, not_false_eq_true, eq_self, ne_eq] at h; first | done | omega | contradiction))) | refine And.intro ?_ ?_ | exact rfl
  refine loop_live mixed (S := sch40) (by kernel_rfl) 33 (fun n live H' => ∃ i, n + i = t ∧ H' = [(⟨b, 0⟩, .tab (encInt .i64) 1 (ownL g t (i * g / t)))] ∧ live = [(0, .int .i64 g), (1, .int .i64 t), (4, .ptr 0 ⟨b, 0⟩ 1 0 0), (10, .int .i64 t), (11, .int .i64 i)]) ⟨t, [(0, .int .i64 g), (1, .int .i64 t), (4, .ptr 0 ⟨b, 0⟩ 1 0 0), (10, .int .i64 t), (11, .int .i64 (0 : Nat))], _, rfl, ⟨rfl, rfl, rfl, rfl, rfl, trivial⟩, Tells.refl _, 0, by omega, by rw [Nat.zero_mul, Nat.zero_div, ← ownL_zero]; rfl, rfl⟩ ?_
  intro n live H' J ⟨i, hn, e1, e2⟩
  subst e1; subst e2
  repeat' first | refine And.intro trivial ?_ | refine And.intro rfl ?_ | (refine And.intro (fun h => ?_) (fun h => ?_) <;> try (first | (exact absurd h (by decide)) | (exfalso; simp only [decide_eq_true_eq, decide_eq_false_iff_not, Bool.not_eq_true', Bool.not_eq_false', cond_true, cond_false, Bool.false_eq_true, Bool.true_eq_false, Bool.not_true, Bool.not_false, reduceCtorEq, not_true_eq_false, not_false_eq_true, eq_self, ne_eq] at h; first | done | omega | contradiction))) | refine And.intro ?_ ?_ | exact rfl
  · have hi : i < t := by have := of_decide_eq_true h; omega
    refine range_ob g t i _ _ (fun h => absurd hM h) (fun _ h => by omega) fun g' t' i' eg et ei _ hlt => ?_
    obtain rfl : g = g' := by omega
    obtain rfl : t = t' := by omega
    obtain rfl : i = i' := by omega
    have hmono : i * g / t ≤ (i + 1) * g / t := Nat.div_le_div_right (Nat.mul_le_mul_right g (by omega))
    have htop : (i + 1) * g / t ≤ g := by
      have := Nat.div_le_div_right (c := t) (Nat.mul_le_mul_right g (show i + 1 ≤ t by omega))
      rwa [Nat.mul_div_cancel_left _ ht] at this
    generalize hlo : i * g / t = lo at *
    generalize hup : (i + 1) * g / t = up at *
    repeat' first | refine And.intro trivial ?_ | refine And.intro rfl ?_ | (refine And.intro (fun h => ?_) (fun h => ?_) <;> try (first | (exact absurd h (by decide)) | (exfalso; simp only [decide_eq_true_eq, decide_eq_false_iff_not, Bool.not_eq_true', Bool.not_eq_false', cond_true, cond_false, Bool.false_eq_true, Bool.true_eq_false, Bool.not_true, Bool.not_false, reduceCtorEq, not_true_eq_false, not_false_eq_true, eq_self, ne_eq] at h; first | done | omega | contradiction))) | refine And.intro ?_ ?_ | exact rfl
    refine loop_live mixed (S := sch40) (by kernel_rfl) 33 (fun n live H' => ∃ k, n + k = up ∧ lo ≤ k ∧ H' = [(⟨b, 0⟩, .tab (encInt .i64) 1 (ownL g t k))] ∧ live = [(0, .int .i64 g), (1, .int .i64 t), (4, .ptr 0 ⟨b, 0⟩ 1 0 0), (5, .int .i64 i), (7, .int .i64 up), (9, .int .i64 k), (10, .int .i64 t), (11, .int .i64 i)]) ⟨up - lo, [(0, .int .i64 g), (1, .int .i64 t), (4, .ptr 0 ⟨b, 0⟩ 1 0 0), (5, .int .i64 i), (7, .int .i64 up), (9, .int .i64 lo), (10, .int .i64 t), (11, .int .i64 i)], _, rfl, ⟨rfl, rfl, rfl, rfl, rfl, rfl, rfl, rfl, trivial⟩, Tells.refl _, lo, by omega, by omega, rfl, rfl⟩ ?_
    intro n1 live1 H1 J1 ⟨k, hn1, hk1, e1, e2⟩
    subst e1; subst e2
    repeat' first | refine And.intro trivial ?_ | refine And.intro rfl ?_ | (refine And.intro (fun h => ?_) (fun h => ?_) <;> try (first | (exact absurd h (by decide)) | (exfalso; simp only [decide_eq_true_eq, decide_eq_false_iff_not, Bool.not_eq_true', Bool.not_eq_false', cond_true, cond_false, Bool.false_eq_true, Bool.true_eq_false, Bool.not_true, Bool.not_false, reduceCtorEq, not_true_eq_false, not_false_eq_true, eq_self, ne_eq] at h; first | done | omega | contradiction))) | refine And.intro ?_ ?_ | exact rfl
    · omega
    · have := of_decide_eq_true h; show (k : Int) < 128; omega
    · have := of_decide_eq_true h; rw [ownL_len]; omega
    · have hk := of_decide_eq_true h
      intro x hx
      refine ⟨(i : Int), rfl, ?_⟩
      rw [show 0 + (k : Int).toNat = k from by omega, ownL_succ g t k i ((own_iff g t k i hg ht).2 ⟨by omega, by omega⟩)]
      repeat' first | refine And.intro trivial ?_ | refine And.intro rfl ?_ | (refine And.intro (fun h => ?_) (fun h => ?_) <;> try (first | (exact absurd h (by decide)) | (exfalso; simp only [decide_eq_true_eq, decide_eq_false_iff_not, Bool.not_eq_true', Bool.not_eq_false', cond_true, cond_false, Bool.false_eq_true, Bool.true_eq_false, Bool.not_true, Bool.not_false, reduceCtorEq, not_true_eq_false, not_false_eq_true, eq_self, ne_eq] at h; first | done | omega | contradiction))) | refine And.intro ?_ ?_ | exact rfl
      conv => whnf
      refine ⟨n1 - 1, [(0, .int .i64 g), (1, .int .i64 t), (4, .ptr 0 ⟨b, 0⟩ 1 0 0), (5, .int .i64 i), (7, .int .i64 up), (9, .int .i64 (k + 1 : Nat)), (10, .int .i64 t), (11, .int .i64 i)], _, by omega, rfl, ⟨rfl, rfl, rfl, rfl, rfl, ?_, rfl, rfl, trivial⟩, Tells.refl _, k + 1, by omega, by omega, rfl, rfl⟩
      show SV.den (.int .i64 (IntKind.i64.wrap ((k : Int) + 1))) = _
      rw [wr (by omega) (by omega)]; rfl
    · have hk := of_decide_eq_false h
      obtain rfl : k = up := by omega
      conv => whnf
      refine ⟨n - 1, [(0, .int .i64 g), (1, .int .i64 t), (4, .ptr 0 ⟨b, 0⟩ 1 0 0), (10, .int .i64 t), (11, .int .i64 (i + 1 : Nat))], _, by omega, rfl, ⟨rfl, rfl, rfl, rfl, ?_, trivial⟩, Tells.refl _, i + 1, by omega, by rw [hup], rfl⟩
      show SV.den (.int .i64 (IntKind.i64.wrap ((i : Int) + 1))) = _
      rw [wr (by omega) (by omega)]; rfl
  · rw [ownL_len]; exact Nat.le_refl 128
  · have hi : i = t := by have := of_decide_eq_false h; omega
    subst hi
    rw [Nat.mul_div_cancel_left _ ht]
    refine ⟨ownL g i g, ?_, fun x _ => rfl, ?_, ?_⟩
    · show _ = List.flatMap (encInt .i64) (List.take 128 (List.drop 0 (ownL g i g)))
      rw [List.drop_zero, List.take_of_length_le (by rw [ownL_len]; omega)]
    · rw [ownL_len]; omega
    · have e : List.take 0 (ownL g i g) ++ ownL g i g ++ List.drop (0 + (ownL g i g).length) (ownL g i g) = ownL g i g := by simp
      rw [e]
      repeat' first | refine And.intro trivial ?_ | refine And.intro rfl ?_ | (refine And.intro (fun h => ?_) (fun h => ?_) <;> try (first | (exact absurd h (by decide)) | (exfalso; simp only [decide_eq_true_eq, decide_eq_false_iff_not, Bool.not_eq_true', Bool.not_eq_false', cond_true, cond_false, Bool.false_eq_true, Bool.true_eq_false, Bool.not_true, Bool.not_false, reduceCtorEq, not_true_eq_false, not_false_eq_true, eq_self, ne_eq] at h; first | done | omega | contradiction))) | refine And.intro ?_ ?_ | exact rfl
      · rw [ownL_len]; exact Nat.le_refl 128
      · conv => whnf
        have e2 : List.take ((127 + 1) / 1) (List.drop 0 (ownL g i g)) = ownL g i g := by
          rw [List.drop_zero]; exact List.take_of_length_le (by rw [ownL_len]; exact Nat.le_refl 128)
        rw [e2]
        exact hK
end Go.Proofs.Ytbmdmeljflmcgaa

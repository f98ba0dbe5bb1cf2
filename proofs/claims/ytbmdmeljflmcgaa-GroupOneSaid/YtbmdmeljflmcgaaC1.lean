/- The credit store's methods: what each answers, and what becomes of the store. Own work. -/
import Derived.Test.YtbmdmeljflmcgaaB
namespace Go.Proofs.Ytbmdmeljflmcgaa
open Go Go.Sx
set_option maxRecDepth 100000
set_option linter.unusedVariables false
set_option linter.unusedSimpArgs false

def stH (b bR : Bs) (cap first many free owed : Nat) (R : List (List UInt8)) : SH :=
  [(b, .lit [.sl 1 bR 1 0 cap cap, .int .i64 first, .int .i64 many, .int .i64 free, .int .i64 owed]), (bR, .tab encStr 1 R)]

theorem wr {n : Int} (h0 : -9223372036854775808 ≤ n) (h : n ≤ 9223372036854775807) : IntKind.i64.wrap n = n := by
  simp [IntKind.wrap, IntKind.bits, IntKind.signed]; omega

theorem tmod_nat (a b : Nat) : ((a : Int).tmod (b : Int)) = ((a % b : Nat) : Int) := by
  rw [Int.tmod_eq_emod_of_nonneg (by omega)]; rfl

theorem len_ob (b bR : Bs) (cap first many free owed : Nat) (R : List (List UInt8)) (K : SV → SH → Prop) (h : K (.int .i64 many) (stH b bR cap first many free owed R)) :
    FnOb Try.prog 20 [.ptr 0 b 0 0 0] (stH b bR cap first many free owed R) K := by
  apply en20
  repeat' first | refine And.intro trivial ?_ | refine And.intro rfl ?_ | (refine And.intro (fun h => ?_) (fun h => ?_) <;> try (first | (exact absurd h (by decide)) | (exfalso; simp only [decide_eq_true_eq, decide_eq_false_iff_not, Bool.not_eq_true', Bool.not_eq_false', cond_true, cond_false, Bool.false_eq_true, Bool.true_eq_false, Bool.not_true, Bool.not_false, reduceCtorEq, not_true_eq_false, not_false_eq_true, eq_self, ne_eq] at h; first | done | omega | contradiction))) | refine And.intro ?_ ?_ | exact rfl
  exact h

theorem owed_ob (b bR : Bs) (cap first many free owed : Nat) (R : List (List UInt8)) (K : SV → SH → Prop) (h : K (.int .i64 owed) (stH b bR cap first many free owed R)) :
    FnOb Try.prog 21 [.ptr 0 b 0 0 0] (stH b bR cap first many free owed R) K := by
  apply en21
  repeat' first | refine And.intro trivial ?_ | refine And.intro rfl ?_ | (refine And.intro (fun h => ?_) (fun h => ?_) <;> try (first | (exact absurd h (by decide)) | (exfalso; simp only [decide_eq_true_eq, decide_eq_false_iff_not, Bool.not_eq_true', Bool.not_eq_false', cond_true, cond_false, Bool.false_eq_true, Bool.true_eq_false, Bool.not_true, Bool.not_false, reduceCtorEq, not_true_eq_false, not_false_eq_true, eq_self, ne_eq] at h; first | done | omega | contradiction))) | refine And.intro ?_ ?_ | exact rfl
  exact h

theorem give_ob (b bR : Bs) (cap first many free owed : Nat) (R : List (List UInt8)) (most : Int) (hc : free + owed ≤ 256) (K : SV → SH → Prop)
    (h1 : most < 0 → K (.tup [.int .i64 0, .int .i64 1]) (stH b bR cap first many free owed R))
    (h2 : ∀ n : Nat, 0 ≤ most → (n : Int) = min most free → K (.tup [.int .i64 n, .int .i64 0]) (stH b bR cap first many (free - n) (owed + n) R)) :
    FnOb Try.prog 16 [.ptr 0 b 0 0 0, .int .i64 most] (stH b bR cap first many free owed R) K := by
  apply en16
  repeat' first | refine And.intro trivial ?_ | refine And.intro rfl ?_ | (refine And.intro (fun h => ?_) (fun h => ?_) <;> try (first | (exact absurd h (by decide)) | (exfalso; simp only [decide_eq_true_eq, decide_eq_false_iff_not, Bool.not_eq_true', Bool.not_eq_false', cond_true, cond_false, Bool.false_eq_true, Bool.true_eq_false, Bool.not_true, Bool.not_false, reduceCtorEq, not_true_eq_false, not_false_eq_true, eq_self, ne_eq] at h; first | done | omega | contradiction))) | refine And.intro ?_ ?_ | exact rfl
  · exact h1 (by simpa using h)
  · have h0 : 0 ≤ most := by simpa using h
    obtain ⟨n, hn⟩ : ∃ n : Nat, (n : Int) = min most free := ⟨(min most free).toNat, by omega⟩
    have := h2 n h0 hn
    conv => whnf
    rw [← hn, wr (by omega) (by omega), wr (by omega) (by omega), show ((free : Int) - n) = ((free - n : Nat) : Int) from by omega, show ((owed : Int) + n) = ((owed + n : Nat) : Int) from by omega]
    exact this

theorem peek_ob (b bR : Bs) (cap first many free owed : Nat) (R : List (List UInt8)) (hf : first < cap) (hR : cap ≤ R.length) (K : SV → SH → Prop)
    (h1 : many = 0 → K (.tup [.str [], .int .i64 5]) (stH b bR cap first many free owed R))
    (h2 : ∀ x, many ≠ 0 → R[first]? = some x → K (.tup [.str x, .int .i64 0]) (stH b bR cap first many free owed R)) :
    FnOb Try.prog 17 [.ptr 0 b 0 0 0] (stH b bR cap first many free owed R) K := by
  apply en17
  repeat' first | refine And.intro trivial ?_ | refine And.intro rfl ?_ | (refine And.intro (fun h => ?_) (fun h => ?_) <;> try (first | (exact absurd h (by decide)) | (exfalso; simp only [decide_eq_true_eq, decide_eq_false_iff_not, Bool.not_eq_true', Bool.not_eq_false', cond_true, cond_false, Bool.false_eq_true, Bool.true_eq_false, Bool.not_true, Bool.not_false, reduceCtorEq, not_true_eq_false, not_false_eq_true, eq_self, ne_eq] at h; first | done | omega | contradiction))) | refine And.intro ?_ ?_ | exact rfl
  · exact h1 (by simpa using h)
  · omega
  · omega
  · show 0 + (first : Int).toNat < R.length
    omega
  · intro x hx
    repeat' first | refine And.intro trivial ?_ | refine And.intro rfl ?_ | (refine And.intro (fun h => ?_) (fun h => ?_) <;> try (first | (exact absurd h (by decide)) | (exfalso; simp only [decide_eq_true_eq, decide_eq_false_iff_not, Bool.not_eq_true', Bool.not_eq_false', cond_true, cond_false, Bool.false_eq_true, Bool.true_eq_false, Bool.not_true, Bool.not_false, reduceCtorEq, not_true_eq_false, not_false_eq_true, eq_self, ne_eq] at h; first | done | omega | contradiction))) | refine And.intro ?_ ?_ | exact rfl
    exact h2 x (by simpa using h) (by simpa using hx)

theorem put_ob (b bR : Bs) (cap first many free owed : Nat) (R : List (List UInt8)) (text : List UInt8) (hcap : 0 < cap) (h256 : cap ≤ 256) (hf : first < cap) (hm : many + owed ≤ cap) (hR : cap ≤ R.length) (K : SV → SH → Prop)
    (h1 : owed = 0 → K (.int .i64 200) (stH b bR cap first many free owed R))
    (h2 : owed ≠ 0 → K (.int .i64 0) (stH b bR cap first (many + 1) free (owed - 1) (R.set ((first + many) % cap) text))) :
    FnOb Try.prog 19 [.ptr 0 b 0 0 0, .str text] (stH b bR cap first many free owed R) K := by
  have e0 : IntKind.i64.wrap ((first : Int) + many) = ((first + many : Nat) : Int) := wr (by omega) (by omega)
  have e1 : (((first + many : Nat) : Int).tmod (cap : Int)) = (((first + many) % cap : Nat) : Int) := tmod_nat _ _
  have hlt : (first + many) % cap < cap := Nat.mod_lt _ hcap
  apply en19
  repeat' first | refine And.intro trivial ?_ | refine And.intro rfl ?_ | (refine And.intro (fun h => ?_) (fun h => ?_) <;> try (first | (exact absurd h (by decide)) | (exfalso; simp only [decide_eq_true_eq, decide_eq_false_iff_not, Bool.not_eq_true', Bool.not_eq_false', cond_true, cond_false, Bool.false_eq_true, Bool.true_eq_false, Bool.not_true, Bool.not_false, reduceCtorEq, not_true_eq_false, not_false_eq_true, eq_self, ne_eq] at h; first | done | omega | contradiction))) | refine And.intro ?_ ?_ | exact rfl
  · exact h1 (by simpa using h)
  · omega
  · rw [e0, e1]; omega
  · rw [e0, e1]; omega
  · show 0 + ((IntKind.i64.wrap ((first : Int) + many)).tmod (cap : Int)).toNat < R.length
    rw [e0, e1]; omega
  · rw [e0, e1]
    intro x hx
    refine ⟨text, rfl, ?_⟩
    repeat' first | refine And.intro trivial ?_ | refine And.intro rfl ?_ | (refine And.intro (fun h => ?_) (fun h => ?_) <;> try (first | (exact absurd h (by decide)) | (exfalso; simp only [decide_eq_true_eq, decide_eq_false_iff_not, Bool.not_eq_true', Bool.not_eq_false', cond_true, cond_false, Bool.false_eq_true, Bool.true_eq_false, Bool.not_true, Bool.not_false, reduceCtorEq, not_true_eq_false, not_false_eq_true, eq_self, ne_eq] at h; first | done | omega | contradiction))) | refine And.intro ?_ ?_ | exact rfl
    have ho : owed ≠ 0 := by simpa using h
    have := h2 ho
    conv => whnf
    rw [wr (by omega) (by omega), wr (by omega) (by omega), show ((owed : Int) - 1) = ((owed - 1 : Nat) : Int) from by omega]
    rw [show 0 + (((first + many) % cap : Nat) : Int).toNat = (first + many) % cap from by omega]
    exact this

theorem take_ob (b bR : Bs) (cap first many free owed : Nat) (R : List (List UInt8)) (hcap : 0 < cap) (h256 : cap ≤ 256) (hf : first < cap) (hm : many + free + owed ≤ cap) (hR : cap ≤ R.length) (K : SV → SH → Prop)
    (h1 : many = 0 → K (.tup [.str [], .int .i64 5]) (stH b bR cap first many free owed R))
    (h2 : ∀ x, many ≠ 0 → R[first]? = some x → K (.tup [.str x, .int .i64 0]) (stH b bR cap ((first + 1) % cap) (many - 1) (free + 1) owed (R.set first []))) :
    FnOb Try.prog 18 [.ptr 0 b 0 0 0] (stH b bR cap first many free owed R) K := by
  have e0 : IntKind.i64.wrap ((first : Int) + 1) = ((first + 1 : Nat) : Int) := wr (by omega) (by omega)
  have e1 : (((first + 1 : Nat) : Int).tmod (cap : Int)) = (((first + 1) % cap : Nat) : Int) := tmod_nat _ _
  apply en18
  repeat' first | refine And.intro trivial ?_ | refine And.intro rfl ?_ | (refine And.intro (fun h => ?_) (fun h => ?_) <;> try (first | (exact absurd h (by decide)) | (exfalso; simp only [decide_eq_true_eq, decide_eq_false_iff_not, Bool.not_eq_true', Bool.not_eq_false', cond_true, cond_false, Bool.false_eq_true, Bool.true_eq_false, Bool.not_true, Bool.not_false, reduceCtorEq, not_true_eq_false, not_false_eq_true, eq_self, ne_eq] at h; first | done | omega | contradiction))) | refine And.intro ?_ ?_ | exact rfl
  refine peek_ob b bR cap first many free owed R hf hR _ (fun h0 => ?_) (fun x h0 hx => ?_)
  · repeat' first | refine And.intro trivial ?_ | refine And.intro rfl ?_ | (refine And.intro (fun h => ?_) (fun h => ?_) <;> try (first | (exact absurd h (by decide)) | (exfalso; simp only [decide_eq_true_eq, decide_eq_false_iff_not, Bool.not_eq_true', Bool.not_eq_false', cond_true, cond_false, Bool.false_eq_true, Bool.true_eq_false, Bool.not_true, Bool.not_false, reduceCtorEq, not_true_eq_false, not_false_eq_true, eq_self, ne_eq] at h; first | done | omega | contradiction))) | refine And.intro ?_ ?_ | exact rfl
    exact h1 h0
  · repeat' first | refine And.intro trivial ?_ | refine And.intro rfl ?_ | (refine And.intro (fun h => ?_) (fun h => ?_) <;> try (first | (exact absurd h (by decide)) | (exfalso; simp only [decide_eq_true_eq, decide_eq_false_iff_not, Bool.not_eq_true', Bool.not_eq_false', cond_true, cond_false, Bool.false_eq_true, Bool.true_eq_false, Bool.not_true, Bool.not_false, reduceCtorEq, not_true_eq_false, not_false_eq_true, eq_self, ne_eq] at h; first | done | omega | contradiction))) | refine And.intro ?_ ?_ | exact rfl
    · omega
    · omega
    · omega
    · intro y hy
      refine ⟨[], rfl, ?_⟩
      repeat' first | refine And.intro trivial ?_ | refine And.intro rfl ?_ | (refine And.intro (fun h => ?_) (fun h => ?_) <;> try (first | (exact absurd h (by decide)) | (exfalso; simp only [decide_eq_true_eq, decide_eq_false_iff_not, Bool.not_eq_true', Bool.not_eq_false', cond_true, cond_false, Bool.false_eq_true, Bool.true_eq_false, Bool.not_true, Bool.not_false, reduceCtorEq, not_true_eq_false, not_false_eq_true, eq_self, ne_eq] at h; first | done | omega | contradiction))) | refine And.intro ?_ ?_ | exact rfl
      · omega
      · rw [e0, e1]
        have := h2 x h0 hx
        conv => whnf
        rw [wr (by omega) (by omega), wr (by omega) (by omega), show ((many : Int) - 1) = ((many - 1 : Nat) : Int) from by omega, show ((free : Int) + 1) = ((free + 1 : Nat) : Int) from by omega, show 0 + (first : Int).toNat = first from by omega]
        exact this

theorem new_ob (capacity : Int) (K : SV → SH → Prop)
    (h1 : capacity < 1 ∨ 256 < capacity → K (.tup [.nilp, .int .i64 1]) [])
    (h2 : ∀ (cap b bR : Nat), (cap : Int) = capacity → 1 ≤ cap → cap ≤ 256 → K (.tup [.ptr 1 ⟨b, 0⟩ 0 0 0, .int .i64 0]) [(⟨bR, 0⟩, .tab encStr 1 (List.replicate 256 [])), (⟨b, 0⟩, .lit [.sl 0 ⟨bR, 0⟩ 1 0 cap cap, .int .i64 0, .int .i64 0, .int .i64 cap, .int .i64 0])]) :
    FnOb Try.prog 15 [.int .i64 capacity] [] K := by
  by_cases hlo : capacity < 1
  · apply en15
    repeat' first | refine And.intro trivial ?_ | refine And.intro rfl ?_ | (refine And.intro (fun h => ?_) (fun h => ?_) <;> try (first | (exact absurd h (by decide)) | (exfalso; simp only [decide_eq_true_eq, decide_eq_false_iff_not, Bool.not_eq_true', Bool.not_eq_false', cond_true, cond_false, Bool.false_eq_true, Bool.true_eq_false, Bool.not_true, Bool.not_false, reduceCtorEq, not_true_eq_false, not_false_eq_true, eq_self, ne_eq] at h; first | done | omega | contradiction))) | refine And.intro ?_ ?_ | exact rfl
    exact h1 (.inl hlo)
  by_cases hhi : 256 < capacity
  · apply en15
    repeat' first | refine And.intro trivial ?_ | refine And.intro rfl ?_ | (refine And.intro (fun h => ?_) (fun h => ?_) <;> try (first | (exact absurd h (by decide)) | (exfalso; simp only [decide_eq_true_eq, decide_eq_false_iff_not, Bool.not_eq_true', Bool.not_eq_false', cond_true, cond_false, Bool.false_eq_true, Bool.true_eq_false, Bool.not_true, Bool.not_false, reduceCtorEq, not_true_eq_false, not_false_eq_true, eq_self, ne_eq] at h; first | done | omega | contradiction))) | refine And.intro ?_ ?_ | exact rfl
    exact h1 (.inr hhi)
  obtain ⟨cap, rfl⟩ : ∃ cap : Nat, (cap : Int) = capacity := ⟨capacity.toNat, by omega⟩
  apply en15
  repeat' first | refine And.intro trivial ?_ | refine And.intro rfl ?_ | (refine And.intro (fun h => ?_) (fun h => ?_) <;> try (first | (exact absurd h (by decide)) | (exfalso; simp only [decide_eq_true_eq, decide_eq_false_iff_not, Bool.not_eq_true', Bool.not_eq_false', cond_true, cond_false, Bool.false_eq_true, Bool.true_eq_false, Bool.not_true, Bool.not_false, reduceCtorEq, not_true_eq_false, not_false_eq_true, eq_self, ne_eq] at h; first | done | omega | contradiction))) | refine And.intro ?_ ?_ | exact rfl
  intro bR
  repeat' first | refine And.intro trivial ?_ | refine And.intro rfl ?_ | (refine And.intro (fun h => ?_) (fun h => ?_) <;> try (first | (exact absurd h (by decide)) | (exfalso; simp only [decide_eq_true_eq, decide_eq_false_iff_not, Bool.not_eq_true', Bool.not_eq_false', cond_true, cond_false, Bool.false_eq_true, Bool.true_eq_false, Bool.not_true, Bool.not_false, reduceCtorEq, not_true_eq_false, not_false_eq_true, eq_self, ne_eq] at h; first | done | omega | contradiction))) | refine And.intro ?_ ?_ | exact rfl
  · omega
  · show (cap : Int) ≤ 256
    omega
  · omega
  · show (cap : Int) ≤ ((cap : Int).toNat : Int)
    omega
  · omega
  · show (0 : Int) ≤ ((cap : Int).toNat : Int)
    omega
  · exfalso
    have : Int.toNat 0 = 0 := rfl
    omega
  · conv => whnf
    intro b
    have := h2 cap b bR rfl (by omega) (by omega)
    have e1 : (cap : Int).toNat = cap := by omega
    have e2 : (cap : Int).toNat - Int.toNat 0 = cap := by rw [e1]; rfl
    repeat' first | refine And.intro trivial ?_ | refine And.intro rfl ?_ | (refine And.intro (fun h => ?_) (fun h => ?_) <;> try (first | (exact absurd h (by decide)) | (exfalso; simp only [decide_eq_true_eq, decide_eq_false_iff_not, Bool.not_eq_true', Bool.not_eq_false', cond_true, cond_false, Bool.false_eq_true, Bool.true_eq_false, Bool.not_true, Bool.not_false, reduceCtorEq, not_true_eq_false, not_false_eq_true, eq_self, ne_eq] at h; first | done | omega | contradiction))) | refine And.intro ?_ ?_ | exact rfl
    conv => whnf
    rw [e2]
    exact this
end Go.Proofs.Ytbmdmeljflmcgaa

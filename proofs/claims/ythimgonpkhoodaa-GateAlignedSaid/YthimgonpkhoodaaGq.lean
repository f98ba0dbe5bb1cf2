/- Gates, plainly: what a pull does; channels by a function. Own work. -/
import Derived.Test.YthimgonpkhoodaaGp
namespace Go.Gp
set_option linter.unusedVariables false
set_option linter.unusedSimpArgs false

theorem mod2 {a c : Nat} (h : a < c + c) (hc : 0 < c) : a % c = if a < c then a else a - c := by
  split
  · exact Nat.mod_eq_of_lt (by assumption)
  · rw [Nat.mod_eq_sub_mod (by omega), Nat.mod_eq_of_lt (by omega)]
theorem bang {l : List Chn} {k : Nat} {x : Chn} (h : l[k]? = some x) : l[k]! = x := by
  rw [List.getElem!_eq_getElem?_getD, h]; rfl
theorem pull_some {G : AG} (hna : G.cs.all blk = false) {i : Nat} {x : Chn} (hi : G.cs[i]? = some x) (hr : ready x = true) (ht : G.turn < G.cs.length) :
    ∃ (c : Nat) (y : Chn), G.cs[c]? = some y ∧ ready y = true ∧ pullA G = (((c : Int), (takeX y).1.1, 0, 0), ⟨G.cs.set c (takeX y).2, (c + 1) % G.cs.length⟩) := by
  have hil := (List.getElem?_eq_some_iff.1 hi).1
  cases hl : lookG G with
  | none =>
    exfalso
    unfold lookG at hl
    rw [List.find?_eq_none] at hl
    have key : ∀ k < G.cs.length, (G.turn + k) % G.cs.length = i → False := by
      intro k hk e
      have := hl k (List.mem_range.2 hk)
      rw [e, bang hi, hr] at this
      exact this rfl
    by_cases h : G.turn ≤ i
    · exact key (i - G.turn) (by omega) (by rw [mod2 (by omega) (by omega)]; split <;> omega)
    · exact key (i + G.cs.length - G.turn) (by omega) (by rw [mod2 (by omega) (by omega)]; split <;> omega)
  | some k =>
    have hc : (G.turn + k) % G.cs.length < G.cs.length := Nat.mod_lt _ (by omega)
    have hg := List.getElem?_eq_getElem hc
    have hr2 : ready (G.cs[(G.turn + k) % G.cs.length]!) = true := by
      unfold lookG at hl
      exact List.find?_some (p := fun k => ready G.cs[(G.turn + k) % G.cs.length]!) hl
    rw [bang hg] at hr2
    refine ⟨_, _, hg, hr2, ?_⟩
    unfold pullA
    rw [if_neg (by simp [hna]), hl]
    dsimp only
    rw [bang hg]
theorem pull_none {G : AG} (hna : G.cs.all blk = false) (h : ∀ x ∈ G.cs, ready x = false) : pullA G = ((0, [], 0, 5), G) := by
  have : lookG G = none := by
    unfold lookG
    rw [List.find?_eq_none]
    intro k hk
    have hc : (G.turn + k) % G.cs.length < G.cs.length := Nat.mod_lt _ (by have := List.mem_range.1 hk; omega)
    have hg := List.getElem?_eq_getElem hc
    rw [bang hg, h _ (List.getElem_mem hc)]; simp
  unfold pullA
  rw [if_neg (by simp [hna]), this]

/-- Channels by a function. -/
def fG (n : Nat) (f : Nat → Chn) (t : Nat) : AG := ⟨(List.range n).map f, t⟩
def fup (f : Nat → Chn) (k : Nat) (y : Chn) (j : Nat) : Chn := if j = k then y else f j
theorem fup_at (f : Nat → Chn) (k : Nat) (y : Chn) : fup f k y k = y := if_pos rfl
theorem fG_len (n : Nat) (f : Nat → Chn) (t : Nat) : (fG n f t).cs.length = n := by simp [fG]
theorem fG_get {n : Nat} {f : Nat → Chn} {t k : Nat} (hk : k < n) : (fG n f t).cs[k]? = some (f k) := by simp [fG, hk]
theorem fG_inv {n : Nat} {f : Nat → Chn} {t k : Nat} {y : Chn} (h : (fG n f t).cs[k]? = some y) : k < n ∧ y = f k := by
  have hk := (List.getElem?_eq_some_iff.1 h).1
  rw [fG_len] at hk
  rw [fG_get hk] at h
  exact ⟨hk, (Option.some.inj h).symm⟩
theorem fG_congr {n : Nat} {f g : Nat → Chn} {t : Nat} (h : ∀ j < n, f j = g j) : fG n f t = fG n g t := by
  unfold fG
  rw [List.map_congr_left fun j hj => h j (List.mem_range.1 hj)]
theorem fG_set {n : Nat} {f : Nat → Chn} {k : Nat} (y : Chn) : ((List.range n).map f).set k y = (List.range n).map (fup f k y) := by
  apply List.ext_getElem
  · simp
  · intro j h1 h2
    simp only [List.getElem_set, List.getElem_map, List.getElem_range, fup]
    by_cases e : k = j
    · subst e; simp
    · rw [if_neg e, if_neg (fun h => e h.symm)]
theorem fG_upd {n : Nat} {f : Nat → Chn} {t k : Nat} (y : Chn) : upd (fG n f t) k y = fG n (fup f k y) t := by
  unfold upd fG
  rw [fG_set]
theorem fG_at {n : Nat} {f : Nat → Chn} {t k : Nat} (hk : k < n) : chAt (fG n f t) k = some (f k) := by
  unfold chAt
  rw [if_neg (by omega)]
  exact fG_get hk
theorem fG_give {n : Nat} {f : Nat → Chn} {t k : Nat} (hk : k < n) {fr ow m : Nat} {it : List (Txt × Int)} {nx : Int} (h : f k = ⟨fr, ow, it, nx⟩) (hm : m ≤ fr) :
    giveA (fG n f t) k m = (((m : Int), 0), fG n (fup f k ⟨fr - m, ow + m, it, nx⟩) t) := by
  unfold giveA
  rw [fG_at hk, h]
  dsimp only
  rw [if_neg (by omega), show min (m : Int) (fr : Int) = m by omega, Int.toNat_natCast, Int.toNat_natCast, fG_upd]
theorem fG_text {n : Nat} {f : Nat → Chn} {t k : Nat} (hk : k < n) {fr ow : Nat} {it : List (Txt × Int)} {nx : Int} (s : Txt) (hs : s.length ≤ 60000) (h : f k = ⟨fr, ow + 1, it, nx⟩) :
    textA (fG n f t) k s = (0, fG n (fup f k ⟨fr, ow, it ++ [(s, 0)], nx⟩) t) := by
  unfold textA
  rw [fG_at hk, h]
  dsimp only
  rw [if_neg (by omega), if_neg (by omega), Int.toNat_natCast, fG_upd]
  rfl
theorem fG_barrier {n : Nat} {f : Nat → Chn} {t k : Nat} (hk : k < n) {fr ow : Nat} {it : List (Txt × Int)} {nx : Int} (h : f k = ⟨fr, ow + 1, it, nx⟩) (hb : -9223372036854775808 ≤ nx ∧ nx < 9223372036854775807) :
    barrierA (fG n f t) k nx = (0, fG n (fup f k ⟨fr, ow, it ++ [([], nx)], nx + 1⟩) t) := by
  unfold barrierA
  rw [fG_at hk, h]
  dsimp only
  rw [if_neg (by simp), if_neg (by omega), Int.toNat_natCast, fG_upd]
  have : IntKind.i64.wrap (nx + 1) = nx + 1 := by simp [IntKind.wrap, IntKind.bits, IntKind.signed]; omega
  rw [this]
  rfl
theorem fG_new {n : Nat} {cap first : Int} (h1 : 1 ≤ n) (h2 : n ≤ 64) (h3 : 1 ≤ cap ∧ cap ≤ 256) (h4 : 1 ≤ first ∧ first ≤ 1073741824) : newA n cap first = some (fG n (fun _ => ⟨cap.toNat, 0, [], first⟩) 0) := by
  unfold newA
  rw [if_neg (by omega), Int.toNat_natCast]
  unfold fG
  congr 2
  exact (List.eq_replicate_iff.2 ⟨by simp, fun b hb => by simp at hb; exact hb.2.symm⟩).symm
end Go.Gp

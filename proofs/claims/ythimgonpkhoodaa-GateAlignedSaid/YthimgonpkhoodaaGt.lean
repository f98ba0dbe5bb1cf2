/- Gates, plainly: something comes in on a channel. Own work. -/
import Derived.Test.YthimgonpkhoodaaGs
namespace Go.Gp
set_option linter.unusedVariables false
set_option linter.unusedSimpArgs false

theorem chAt_of {G : AG} {c : Nat} {x : Chn} (hx : G.cs[c]? = some x) : chAt G c = some x := by
  unfold chAt; rw [if_neg (by omega)]; exact hx
theorem al_none {G : AG} {c : Nat} {x : Chn} (hx : G.cs[c]? = some x) (hf : x.free = 0) : giveA G c 1 = ((0, 0), G) := by
  unfold giveA
  rw [chAt_of hx]
  dsimp only
  rw [if_neg (by omega), hf]
  have : upd G c { x with free := 0, owed := x.owed + 0 } = G := by
    have e : ({ x with free := 0, owed := x.owed + 0 } : Chn) = x := by
      obtain ⟨f, o, i, n⟩ := x
      dsimp only at hf
      subst hf; rfl
    rw [e]
    unfold upd
    rw [set_same hx]
  exact congrArg (fun g => (((0 : Int), (0 : Int)), g)) this
theorem al_give {G : AG} {c : Nat} {x : Chn} (hx : G.cs[c]? = some x) (hf : 0 < x.free) : giveA G c 1 = ((1, 0), upd G c { x with free := x.free - 1, owed := x.owed + 1 }) := by
  unfold giveA
  rw [chAt_of hx]
  dsimp only
  rw [if_neg (by omega), show min (1 : Int) x.free = 1 by omega]
  rfl
theorem upd_at {G : AG} {c : Nat} {x y : Chn} (hx : G.cs[c]? = some x) : (upd G c y).cs[c]? = some y := List.getElem?_set_self (List.getElem?_eq_some_iff.1 hx).1
theorem upd_upd {G : AG} {c : Nat} {y z : Chn} : upd (upd G c y) c z = upd G c z := by unfold upd; simp [List.set_set]
theorem al_upd {G : AG} {I : List InC} {told : Int} (h : Al G I told) {c : Nat} {x x' : Chn} {y y' : InC} (hx : G.cs[c]? = some x) (hy : I[c]? = some y) (hok : okIn x' y' told) (hl : x'.items.length = x.items.length + 1) :
    Al (upd G c x') (I.set c y') told ∧ tot (upd G c x') = tot G + 1 := by
  refine ⟨⟨by simp [upd, h.len], h.told0, fun k a b ha hb => ?_⟩, ?_⟩
  · by_cases e : c = k
    · subst e
      rw [upd_at hx] at ha
      rw [List.getElem?_set_self (List.getElem?_eq_some_iff.1 hy).1] at hb
      cases ha; cases hb
      exact hok
    · unfold upd at ha
      dsimp only at ha
      rw [List.getElem?_set_ne e] at ha hb
      exact h.ok k a b ha hb
  · unfold tot upd
    dsimp only
    rw [List.map_set]
    have h1 : (G.cs.map fun x => x.items.length)[c]? = some x.items.length := by rw [List.getElem?_map, hx]; rfl
    have := sum_set _ c _ x'.items.length h1
    omega
theorem al_text {G : AG} {I : List InC} {told : Int} (h : Al G I told) {c : Nat} {x : Chn} {y : InC} (hx : G.cs[c]? = some x) (hy : I[c]? = some y) (hf : 0 < x.free) {v : Int} (hv : 1 ≤ v ∧ v ≤ 300) :
    ∃ G1 G2, giveA G c 1 = ((1, 0), G1) ∧ textA G1 c (codeT v) = (0, G2) ∧ Al G2 (I.set c ⟨y.l ++ [v], y.o⟩) told ∧ tot G2 = tot G + 1 := by
  obtain ⟨h1, h2, h3, h4, h5, h6, h7⟩ := h.ok c x y hx hy
  refine ⟨_, upd G c { x with free := x.free - 1, items := x.items ++ [(codeT v, 0)] }, al_give hx hf, ?_, al_upd h hx hy ?_ (by simp)⟩
  · unfold textA
    rw [chAt_of (upd_at hx)]
    dsimp only
    rw [if_neg (by simp [codeT]), if_neg (by omega), Int.toNat_natCast, upd_upd]
    congr 2
  · refine ⟨by simp; omega, ?_, h3, ?_, ?_, ?_, ?_⟩
    · dsimp only
      rw [List.drop_append_of_le_length h1, items_snoc, if_neg (by omega), h2]
    · dsimp only; rw [zeros_snoc, if_neg (by omega), h4]; omega
    · dsimp only; rw [List.take_append_of_le_length h1]; exact h5
    · intro w hw
      rcases List.mem_append.1 hw with hw | hw
      · exact h6 w hw
      · rw [List.mem_singleton.1 hw]; omega
    · simp; omega
theorem al_barrier {G : AG} {I : List InC} {told : Int} (h : Al G I told) {c : Nat} {x : Chn} {y : InC} (hx : G.cs[c]? = some x) (hy : I[c]? = some y) (hf : 0 < x.free) (hl : y.l.length ≤ 300) :
    ∃ G1 G2, giveA G c 1 = ((1, 0), G1) ∧ barrierA G1 c (zeros y.l + 1) = (0, G2) ∧ Al G2 (I.set c ⟨y.l ++ [0], y.o⟩) told ∧ tot G2 = tot G + 1 := by
  obtain ⟨h1, h2, h3, h4, h5, h6, h7⟩ := h.ok c x y hx hy
  have hz := zeros_le y.l
  have hz0 := zeros_nonneg y.l
  have hw : IntKind.i64.wrap (zeros y.l + 1 + 1) = zeros y.l + 1 + 1 := by simp [IntKind.wrap, IntKind.bits, IntKind.signed]; omega
  refine ⟨_, upd G c { x with free := x.free - 1, items := x.items ++ [([], zeros y.l + 1)], next := zeros y.l + 1 + 1 }, al_give hx hf, ?_, al_upd h hx hy ?_ (by simp)⟩
  · unfold barrierA
    rw [chAt_of (upd_at hx)]
    dsimp only
    rw [h4, if_neg (by simp), if_neg (by omega), Int.toNat_natCast, upd_upd, hw]
    congr 2
  · refine ⟨by simp; omega, ?_, h3, ?_, ?_, ?_, ?_⟩
    · dsimp only
      rw [List.drop_append_of_le_length h1, items_snoc, if_pos rfl, h2]
      have : zeros y.l = zeros (y.l.take y.o) + zeros (y.l.drop y.o) := by rw [← zeros_app, List.take_append_drop]
      rw [this, h5]
    · dsimp only; rw [zeros_snoc, if_pos rfl]
    · dsimp only; rw [List.take_append_of_le_length h1]; exact h5
    · intro w hw
      rcases List.mem_append.1 hw with hw | hw
      · exact h6 w hw
      · rw [List.mem_singleton.1 hw]; omega
    · simp; omega
/-- It has come to a stand: what has items left is blocked. -/
theorem al_stuck {x : Chn} {y : InC} {told : Int} (h : okIn x y told) (hr : ready x = false) (ho : y.o < y.l.length) : blk x = true := by
  have hl : 0 < x.items.length := by
    rw [h.2.1, items_len, List.length_drop]; omega
  unfold ready at hr
  cases hb : blk x with
  | true => rfl
  | false => rw [hb] at hr; simp at hr; rw [hr] at hl; simp at hl
end Go.Gp

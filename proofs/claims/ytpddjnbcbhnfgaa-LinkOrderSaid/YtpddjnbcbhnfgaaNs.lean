/- The law of order, plainly. Own work. -/
import Derived.Test.YtpddjnbcbhnfgaaN10
import Derived.Test.YtpddjnbcbhnfgaaNR
namespace Go.Proofs.Ytpddjnbcbhnfgaa
open Go Go.Sy Go.Pk
set_option maxRecDepth 100000
set_option linter.unusedVariables false
set_option linter.unusedSimpArgs false

structure InvO (w i : Nat) (S : Snd) (R : Rcv) (P W A : List (List UInt8)) (told : Nat) (now : Int) : Prop where
  se : S.epoch = 5
  re : R.epoch = 5
  sw : S.window = w
  fs : ∃ f : Nat, S.first = f ∧ f ≤ told ∧ f ≤ P.length ∧ S.l.map (·.1) = P.drop f
  rv : invR P R told
  way : ∀ b ∈ W, ∃ (n : Nat) (t : List UInt8), b = bytesP 0 5 n t ∧ P[n]? = some t
  acks : ∀ b ∈ A, ∃ k : Nat, b = bytesP 1 5 k [] ∧ k ≤ told
  pl : P.length ≤ i ∧ A.length ≤ i ∧ W.length ≤ 520 ∧ i ≤ 300
  pt : ∀ t ∈ P, t.length ≤ 500
  nw : 0 ≤ S.now ∧ S.now ≤ now ∧ now ≤ 8 * i
variable {w i : Nat} {S : Snd} {R : Rcv} {P W A : List (List UInt8)} {told : Nat} {now : Int}
theorem InvO.len (h : InvO w i S R P W A told now) : ∃ f : Nat, S.first = f ∧ f ≤ told ∧ f + S.l.length = P.length := by
  obtain ⟨f, f1, f2, f3, f4⟩ := h.fs
  have := congrArg List.length f4
  simp at this
  exact ⟨f, f1, f2, by omega⟩
theorem InvO.next (h : InvO w i S R P W A told now) (hi : i < 300) : InvO w (i + 1) S R P W A told now :=
  { h with pl := ⟨by have := h.pl; omega, by have := h.pl; omega, by have := h.pl; omega, hi⟩, nw := ⟨h.nw.1, h.nw.2.1, by have := h.nw; omega⟩ }
theorem InvO.push (h : InvO w i S R P W A told now) (hi : i < 300) {t : List UInt8} (ht : t.length ≤ 500) : pushS S t = (0, { S with l := S.l ++ [(t, 0)] }) ∧ InvO w (i + 1) { S with l := S.l ++ [(t, 0)] } R (P ++ [t]) W A told now := by
  obtain ⟨f, f1, f2, f3⟩ := h.len
  have hp := h.pl
  constructor
  · unfold pushS; rw [if_neg (by omega)]
  · obtain ⟨g, g1, g2, g3, g4⟩ := h.fs
    obtain ⟨r1, r2, r3⟩ := h.rv
    have hget : ∀ (n : Nat) (x : List UInt8), P[n]? = some x → (P ++ [t])[n]? = some x := fun n x hx => by
      rw [List.getElem?_append_left (List.getElem?_eq_some_iff.1 hx).1]; exact hx
    exact { se := h.se, re := h.re, sw := h.sw
            fs := ⟨g, g1, g2, by simp; omega, by simp only [List.map_append, g4]; rw [List.drop_append_of_le_length g3]; rfl⟩
            rv := ⟨r1, by simp; omega, fun x hx => by obtain ⟨j, j1, j2⟩ := r3 x hx; exact ⟨j, j1, hget j _ j2⟩⟩
            way := fun b hb => by obtain ⟨n, x, e1, e2⟩ := h.way b hb; exact ⟨n, x, e1, hget n x e2⟩
            acks := h.acks
            pl := ⟨by simp; omega, by omega, by omega, hi⟩
            pt := fun x hx => by
              rcases List.mem_append.1 hx with hx | hx
              · exact h.pt x hx
              · rw [List.mem_singleton.1 hx]; exact ht
            nw := ⟨h.nw.1, h.nw.2.1, by have := h.nw; omega⟩ }
theorem InvO.sub {W' : List (List UInt8)} (h : InvO w i S R P W A told now) (hs : ∀ b ∈ W', b ∈ W) (hl : W'.length ≤ W.length) : InvO w i S R P W' A told now :=
  { h with way := fun b hb => h.way b (hs b hb), pl := ⟨h.pl.1, h.pl.2.1, by have := h.pl; omega, h.pl.2.2.2⟩ }
theorem InvO.due (h : InvO w i S R P W A told now) (hw : w ≤ 20) (hi : i < 300) {now' : Int} (h1 : now ≤ now') (h2 : now' ≤ now + 7) :
    ∃ O S', dueS S now' = ((O, 0), S') ∧ InvO w (i + 1) S' R P W A told now' ∧ (W.length < 500 → InvO w (i + 1) S' R P (W ++ O) A told now') ∧ O.length ≤ 20 := by
  obtain ⟨f, f1, f2, f3, f4⟩ := h.fs
  have hp := h.pl
  have hn := h.nw
  have hO := dueOut_len S now' (dueN S)
  have hO20 : (dueOut S now' (dueN S)).length ≤ 20 := by have := h.sw; unfold dueN at hO ⊢; omega
  refine ⟨_, _, by unfold dueS; rw [if_pos (by omega)], ?_, fun hW => ?_, hO20⟩
  · exact { se := h.se, re := h.re, sw := h.sw, fs := ⟨f, f1, f2, f3, by dsimp only; rw [dueL_fst]; exact f4⟩, rv := h.rv, way := h.way, acks := h.acks
            pl := ⟨by omega, by omega, by omega, hi⟩, pt := h.pt, nw := ⟨by dsimp only; omega, by dsimp only; omega, by omega⟩ }
  · exact { se := h.se, re := h.re, sw := h.sw, fs := ⟨f, f1, f2, f3, by dsimp only; rw [dueL_fst]; exact f4⟩, rv := h.rv, acks := h.acks
            way := fun b hb => by
              rcases List.mem_append.1 hb with hb | hb
              · exact h.way b hb
              · obtain ⟨j, x, hj, hx, rfl⟩ := dueOut_mem hb
                refine ⟨f + j, x.1, by rw [h.se, f1]; rfl, ?_⟩
                have h3 : (S.l.map (·.1))[j]? = some x.1 := by rw [List.getElem?_map, hx]; rfl
                rw [f4, List.getElem?_drop] at h3
                exact h3
            pl := ⟨by omega, by omega, by simp; omega, hi⟩, pt := h.pt, nw := ⟨by dsimp only; omega, by dsimp only; omega, by omega⟩ }
theorem InvO.take (h : InvO w i S R P W A told now) (hi : i < 300) {b : List UInt8} (hb : b ∈ W) :
    ∃ (k : Nat) (R' : Rcv), told ≤ k ∧ k ≤ P.length ∧ takeR R b = (((P.drop told).take (k - told), bytesP 1 5 k [], 0), R') ∧ InvO w (i + 1) S R' P W (A ++ [bytesP 1 5 k []]) k now := by
  obtain ⟨n, t, rfl, hn⟩ := h.way b hb
  obtain ⟨f, f1, f2, f3, f4⟩ := h.fs
  have hp := h.pl
  have hnn := h.nw
  have hlt := (List.getElem?_eq_some_iff.1 hn).1
  have ht := h.pt t (List.mem_of_getElem? hn)
  have he := h.re
  obtain ⟨k, R', k1, k2, k3, k4, k5, k6⟩ := takeR_law h.rv (by rw [he]; decide) hn (by omega) (by omega)
  rw [he] at k3
  refine ⟨k, R', k1, k2, k3, ?_⟩
  exact { se := h.se, re := k5.trans he, sw := h.sw, fs := ⟨f, f1, by omega, f3, f4⟩, rv := k4, way := h.way
          acks := fun x hx => by
            rcases List.mem_append.1 hx with hx | hx
            · obtain ⟨j, j1, j2⟩ := h.acks x hx; exact ⟨j, j1, by omega⟩
            · exact ⟨k, List.mem_singleton.1 hx, Nat.le_refl k⟩
          pl := ⟨by omega, by simp; omega, by omega, hi⟩, pt := h.pt, nw := ⟨hnn.1, hnn.2.1, by omega⟩ }
theorem InvO.heard (h : InvO w i S R P W A told now) (hi : i < 300) {b : List UInt8} (hb : b ∈ A) :
    ∃ S', heardS S b = (0, S') ∧ InvO w (i + 1) S' R P W A told now := by
  obtain ⟨k, rfl, hk⟩ := h.acks b hb
  obtain ⟨f, f1, f2, f3, f4⟩ := h.fs
  obtain ⟨g, g1, g2, g3⟩ := h.len
  have hp := h.pl
  have hnn := h.nw
  have hr := h.rv.2.1
  unfold heardS
  rw [pkt_ack (by decide) (by omega)]
  dsimp only
  rw [if_neg (by rw [h.se]; simp), if_neg (by omega)]
  by_cases hc : 0 < (k : Int) - S.first
  · rw [if_pos hc]
    refine ⟨_, rfl, ?_⟩
    exact { se := h.se, re := h.re, sw := h.sw, rv := h.rv, way := h.way, acks := h.acks
            fs := ⟨k, rfl, hk, by omega, by
              dsimp only
              rw [List.map_drop, f4, List.drop_drop]
              congr 1
              omega⟩
            pl := ⟨by omega, by omega, by omega, hi⟩, pt := h.pt, nw := ⟨hnn.1, hnn.2.1, by omega⟩ }
  · rw [if_neg hc]
    exact ⟨S, rfl, h.next hi⟩
theorem take_other {e : Int} {t : List UInt8} (he : 0 ≤ e ∧ e ≤ 1073741824) (hne : e ≠ R.epoch) (ht : t.length ≤ 60000) : takeR R (bytesP 0 e 0 t) = (([], [], 190), R) := by
  unfold takeR
  rw [pkt_data he (by decide) ht]
  dsimp only
  rw [if_pos hne]
end Go.Proofs.Ytpddjnbcbhnfgaa

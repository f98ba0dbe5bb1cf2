/- SY, part Z: memory told anew ahead of an operation; told anew beside other blocks. Own work. -/
import Derived.Test.YthimgonpkhoodaaSyY
namespace Go.Sy
set_option linter.unusedVariables false
set_option linter.unusedSimpArgs false

/-- What lies in memory told anew ahead of an operation. -/
theorem OpOb.start {P : Program} {o : Oper} {e : Operand → SV} {H H' : SH} {K : SV → SH → Prop} (t : Tells H H') (h : OpOb P o e H' K) : OpOb P o e H K :=
  ⟨fun w hw => by
    obtain ⟨v, H2, w', hr, hs, hx, hk⟩ := h.run w (t w hw).1
    exact ⟨v, H2, w', hr, hs, ⟨hx.os, hx.tape, hx.output, hx.size, fun k hk1 hn => hx.block k hk1 (fun hwr => hn ((t w hw).2 k hwr)), fun k hk1 => (hx.sub k hk1).imp_left ((t w hw).2 k)⟩, hk⟩⟩
/-- What is held there is one's own. -/
def ownE (p : Bs × Blk) : Prop := ∀ k, Solid p k → Own p k
theorem ownE_atom {p : Bs × Blk} (hf : p.2.isFam = false) (hw : p.2.isWin = false) : ownE p := fun k hk => by
  rw [solid_atom hf] at hk
  rw [own_atom hf]
  refine ⟨?_, hk.2⟩
  rcases hk.1 with h | h
  · exact h
  · rw [hw] at h; cases h.1
theorem ownE_fam {b : Bs} {F : SH} (h : ∀ a ∈ F, a.2.isFam = false ∧ a.2.isWin = false) : ownE (b, .fam F) := fun k ⟨a, ha, hs, hk⟩ => by
  refine ⟨a, ha, ?_, hk⟩
  rcases hs with hs | hs
  · exact hs
  · rw [(h a ha).2] at hs; cases hs.1
theorem Tells.frame {H H' : SH} (t : Tells H H') (ho : ∀ p ∈ H', ownE p) (G : SH) : Tells (H ++ G) (H' ++ G) := by
  intro w hw
  have hH : HSat w H := ⟨fun i j p q hij hp hq => hw.sep i j p q hij (by rw [List.getElem?_append_left (List.getElem?_eq_some_iff.1 hp).1]; exact hp) (by rw [List.getElem?_append_left (List.getElem?_eq_some_iff.1 hq).1]; exact hq),
    fun p hp => hw.at_ p (List.mem_append_left _ hp)⟩
  obtain ⟨h1, h2⟩ := t w hH
  have key : ∀ p ∈ H', ∀ (j : Nat) (q : Bs × Blk), G[j]? = some q → ApartE p q := by
    intro p hp j q hq k
    have hit : Own p k → (Solid q k → False) := fun hpk hqk => by
      obtain ⟨p0, hp0, ho0⟩ := h2 k ⟨p, hp, hpk⟩
      obtain ⟨i, hi⟩ := List.mem_iff_getElem?.1 hp0
      have hil := (List.getElem?_eq_some_iff.1 hi).1
      exact (hw.sep i (H.length + j) p0 q (by omega) (by rw [List.getElem?_append_left hil]; exact hi) (by rw [List.getElem?_append_right (by omega), Nat.add_sub_cancel_left]; exact hq) k).2 ⟨ho0, hqk⟩
    exact ⟨fun ⟨a, b⟩ => hit (ho p hp k a) b.solid, fun ⟨a, b⟩ => hit a b⟩
  refine ⟨⟨fun i j p q hij hp hq => ?_, fun p hp => ?_⟩, fun k ⟨p, hp, hk⟩ => ?_⟩
  · rw [List.getElem?_append] at hp hq
    split at hp
    · split at hq
      · exact h1.sep i j p q hij hp hq
      · exact key p (List.mem_of_getElem? hp) _ q hq
    · split at hq
      · exact (key q (List.mem_of_getElem? hq) _ p hp).symm
      · have hil : ¬ i < H'.length := by assumption
        have hjl : ¬ j < H'.length := by assumption
        exact hw.sep (H.length + (i - H'.length)) (H.length + (j - H'.length)) p q (by omega) (by rw [List.getElem?_append_right (by omega), Nat.add_sub_cancel_left]; exact hp) (by rw [List.getElem?_append_right (by omega), Nat.add_sub_cancel_left]; exact hq)
  · rcases List.mem_append.1 hp with h | h
    · exact h1.at_ p h
    · exact hw.at_ p (List.mem_append_right _ h)
  · rcases List.mem_append.1 hp with h | h
    · obtain ⟨p0, hp0, ho0⟩ := h2 k ⟨p, h, hk⟩
      exact ⟨p0, List.mem_append_left _ hp0, ho0⟩
    · exact ⟨p, List.mem_append_right _ h, hk⟩
end Go.Sy

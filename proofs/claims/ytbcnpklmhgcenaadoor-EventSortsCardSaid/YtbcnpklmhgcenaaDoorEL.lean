/- Matches that came in, in symbolic memory. Own work. -/
import Derived.Test.YtbcnpklmhgcenaaDoorEM
import Derived.Test.YtbcnpklmhgcenaaDoorH1
namespace Go.Proofs.YtbcnpklmhgcenaaDoor
set_option maxRecDepth 100000
open Go.ChangeShapes Go.WideShapes Go.ChangeAt Go.RowKit Go.Sy Go.Ev Go.Sp
set_option linter.unusedVariables false
set_option linter.unusedSimpArgs false
theorem match_by24 : Tryd.prog.bytesOf 24 = 40 := by kernel_rfl
section
variable {H : Type} {enc : TypeId × Value → H} {w : World} {base : Nat} {held : Bool}
theorem matches_in {v : Value} {dd : DataW H} {ps : List MemPlace} {r : Reach} {b0 : Nat} (hval : Value.okWide Tryd.prog w r b0 31 v) (hd : DataW.Trod enc Tryd.prog w base (fun _ => true) held 31 v dd ps) (hB : ∀ m ∈ dd.weights Tryd.prog 31, m ≤ 140737488351232) :
    ∃ (z : Bool) (b : Bs) (c : Nat) (L : List WM), v = (SV.sl 0 z b 2 0 L.length c).den ∧ L.length * 40 ≤ 140737488351232 ∧ (∀ m ∈ L, okW m ∧ BlkAt w (memA 0 m) ∧ EntryAt w (memB ⟨0, 0⟩ m)) ∧ BlkAt w (b, .win encM1 2 L) := by
  obtain ⟨fuel, hf⟩ := hd
  have hv : v.cells.toList = [v] := by
    rcases okWide_sl Tryd.underlying31 hval with rfl | ⟨_, _, _, _, rfl, _⟩ <;> rfl
  rw [hv] at hf
  obtain ⟨z, b, c, rows, h1, h2, h3, h4, h5⟩ := open_rows_gen Tryd.underlying31 match_sz 140737488351232 (fun cs' => ∃ m : WM, cs' = denL (encM1 m) ∧ okW m ∧ BlkAt w (memA 0 m) ∧ EntryAt w (memB ⟨0, 0⟩ m))
    (fun n cs' y hy hyB => match_cells hy hyB) (spot_in Tryd.underlying31 match_sz (by decide) hf) hf hB
  obtain ⟨L, e1, e2⟩ := rows_as (en := encM1) fun r hr => (h2 r hr).1
  have hl : rows.length = L.length := by rw [e1, List.length_map]
  refine ⟨z, b, c, L, ?_, ?_, e2, blk_rows e1 (fun x _ => rfl) h5⟩
  · have := (List.cons.inj h1).1
    rw [this, hl]
  · rw [match_by24, hl] at h3; exact h3
theorem heads_at {L : List WM} (h : ∀ m ∈ L, okW m ∧ BlkAt w (memA 0 m) ∧ EntryAt w (memB ⟨0, 0⟩ m)) : EntryAt w (headsW L) := by
  intro a ha
  obtain ⟨m, hm, rfl⟩ := List.mem_map.1 ha
  exact ⟨(h m hm).2.1, rfl⟩
theorem rows_at {L : List WM} (h : ∀ m ∈ L, okW m ∧ BlkAt w (memA 0 m) ∧ EntryAt w (memB ⟨0, 0⟩ m)) : EntryAt w (rowsW L) := by
  intro a ha
  obtain ⟨m, hm, ha⟩ := List.mem_flatMap.1 ha
  exact (h m hm).2.2 a ha
end
end Go.Proofs.YtbcnpklmhgcenaaDoor

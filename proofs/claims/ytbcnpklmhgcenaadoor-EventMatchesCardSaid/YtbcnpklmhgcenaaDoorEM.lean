/- A match that came in, in symbolic memory. Own work. -/
import Derived.Test.YtbcnpklmhgcenaaDoorRows
import Derived.Test.YtbcnpklmhgcenaaDoorMp
import Derived.Test.YtbcnpklmhgcenaaDoorSyR
namespace Go.Proofs.YtbcnpklmhgcenaaDoor
set_option maxRecDepth 100000
open Go.ChangeShapes Go.WideShapes Go.ChangeAt Go.RowKit Go.Sy Go.Ev Go.Sp
set_option linter.unusedVariables false
set_option linter.unusedSimpArgs false
theorem match_sz : szOf Tryd.prog 24 = some 2 := by kernel_rfl
theorem match_sz22 : szOf Tryd.prog 22 = some 1 := by kernel_rfl
theorem match_sz36 : szOf Tryd.prog 36 = some 1 := by kernel_rfl
theorem match_sz3 : szOf Tryd.prog 3 = some 1 := by kernel_rfl
theorem match_by3 : Tryd.prog.bytesOf 3 = 8 := by kernel_rfl
theorem match_by36 : Tryd.prog.bytesOf 36 = 24 := by kernel_rfl
theorem match_k3 : kindsT Tryd.prog 12 3 = some [.i .i64] := by kernel_rfl
theorem match_int : ∀ r, okVs 140737488351232 [.i .i64] r → ∃ x, r = denL (encInt .i64 x) ∧ okI x := by
  intro r h
  match r, h with
  | [.int k n], ⟨⟨h1, h2, h3⟩, _⟩ => subst h1; exact ⟨n, rfl, by simpa [IntKind.min, IntKind.bits, IntKind.signed] using h2, by simpa [IntKind.max, IntKind.bits, IntKind.signed] using h3⟩
section
variable {H : Type} {enc : TypeId × Value → H} {w : World} {base : Nat} {held : Bool}
theorem match_cells {n : Nat} {cs : List Value} {x : DataW H × List MemPlace} (hx : DataW.trod enc Tryd.prog w base (fun _ => true) held n 24 cs = some x) (hB : ∀ m ∈ x.1.weights Tryd.prog 24, m ≤ 140737488351232) :
    ∃ m : WM, cs = denL [.str m.key, .sl 0 m.s.z m.s.b 1 0 m.s.l.length m.s.c] ∧ okW m ∧ BlkAt w (memA 0 m) ∧ EntryAt w (memB ⟨0, 0⟩ m) := by
  obtain ⟨cs0, v, n', y, rfl, h0, h1, h2⟩ := open_last (d := 12) (fs := [{ name := "Key", type := 9, offset := 0, embedded := false, tag := "", pkgPath := "", byteOffset := 0 }]) (f := { name := "Stages", type := 22, offset := 1, embedded := false, tag := "", pkgPath := "", byteOffset := 16 }) (ks := [.s]) Tryd.underlying24 (by kernel_rfl) rfl match_sz22 match_sz 140737488351232 hx hB
  obtain ⟨R, hR, h3, h4, h5, h6⟩ := rows_in (en := encInt .i64) (ok := okI) Tryd.underlying22 Tryd.underlying36 match_sz36 match_k3 match_sz3 (by decide) 140737488351232 match_int (fun _ => rfl) n' [v] y (spot_in Tryd.underlying22 match_sz36 (by decide) h1) h1 h2
  match cs0, h0 with
  | [.string s], ⟨hs, _⟩ =>
    refine ⟨⟨s.data.toList, R⟩, ?_, ⟨?_, ?_, ?_⟩, h6, ?_⟩
    · rw [hR]
      show [Value.string s] ++ _ = _ :: _
      rw [← den_str]; rfl
    · exact hs
    · rw [match_by36] at h4; show R.l.length ≤ _; omega
    · intro r hr
      obtain ⟨a, b, _, _⟩ := h3 r hr
      rw [match_by3] at b
      exact ⟨by omega, a⟩
    · intro a ha
      obtain ⟨r, hr, rfl⟩ := List.mem_map.1 ha
      exact ⟨(h3 r hr).2.2.2, rfl⟩
theorem match_in {v : Value} {dd : DataW H} {ps : List MemPlace} {r : Reach} {b0 : Nat} (hval : Value.okWide Tryd.prog w r b0 24 v) (hd : DataW.Trod enc Tryd.prog w base (fun _ => true) held 24 v dd ps) (hB : ∀ m ∈ dd.weights Tryd.prog 24, m ≤ 140737488351232) :
    ∃ m : WM, v = (argM 0 m).den ∧ okW m ∧ BlkAt w (memA 0 m) ∧ EntryAt w (memB ⟨0, 0⟩ m) := by
  obtain ⟨fuel, hf⟩ := hd
  have hv : ∃ cs, v = .agg cs := by
    unfold Value.okWide at hval
    rw [Tryd.underlying24] at hval; obtain ⟨cs, h, _⟩ := hval; exact ⟨cs, h⟩
  obtain ⟨cs, rfl⟩ := hv
  obtain ⟨m, h1, h2⟩ := match_cells hf hB
  refine ⟨m, ?_, h2⟩
  have e : cs = (denL [.str m.key, .sl 0 m.s.z m.s.b 1 0 m.s.l.length m.s.c]).toArray := Array.toList_inj.1 h1
  rw [e]
  simp only [SV.den]
end
end Go.Proofs.YtbcnpklmhgcenaaDoor

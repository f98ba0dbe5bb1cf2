/- Calls that came in, in symbolic memory. Own work. -/
import Derived.Test.YtgapmdkiijpmpaaDoorRows
import Derived.Test.YtgapmdkiijpmpaaDoorR6
import Derived.Test.YtgapmdkiijpmpaaDoorSyR
namespace Go.Proofs.YtgapmdkiijpmpaaDoor
set_option maxRecDepth 100000
open Go.ChangeShapes Go.WideShapes Go.ChangeAt Go.RowKit Go.Sy Go.Sp
set_option linter.unusedVariables false
set_option linter.unusedSimpArgs false
theorem act_sz : szOf Tryd.prog 42 = some 12 := by kernel_rfl
theorem act_sz29 : szOf Tryd.prog 29 = some 1 := by kernel_rfl
theorem act_sz3 : szOf Tryd.prog 3 = some 1 := by kernel_rfl
theorem act_by3 : Tryd.prog.bytesOf 3 = 8 := by kernel_rfl
theorem act_by42 : Tryd.prog.bytesOf 42 = 136 := by kernel_rfl
theorem act_k3 : kindsT Tryd.prog 12 3 = some [.i .i64] := by kernel_rfl
theorem act_int : ∀ r, okVs 140737488351232 [.i .i64] r → ∃ x, r = denL (encInt .i64 x) ∧ True := by
  intro r h
  match r, h with
  | [.int k n], ⟨⟨h1, h2, h3⟩, _⟩ => subst h1; exact ⟨n, rfl, trivial⟩
section
variable {H : Type} {enc : TypeId × Value → H} {w : World} {base : Nat} {held : Bool}
theorem act_cells {n : Nat} {cs : List Value} {x : DataW H × List MemPlace} (hx : DataW.trod enc Tryd.prog w base (fun _ => true) held n 42 cs = some x) (hB : ∀ m ∈ x.1.weights Tryd.prog 42, m ≤ 140737488351232) :
    ∃ a : ActR, cs = denL (encA 0 a) ∧ okA a ∧ BlkAt w (Row.win (encInt .i64) 1 a.o) := by
  obtain ⟨cs0, v, n', y, rfl, h0, h1, h2⟩ := open_last (d := 12) (fs := [{ name := "Kind", type := 3, offset := 0, embedded := false, tag := "", pkgPath := "", byteOffset := 0 }, { name := "E", type := 34, offset := 1, embedded := false, tag := "", pkgPath := "", byteOffset := 8 }, { name := "Part", type := 3, offset := 8, embedded := false, tag := "", pkgPath := "", byteOffset := 88 }, { name := "From", type := 3, offset := 9, embedded := false, tag := "", pkgPath := "", byteOffset := 96 }, { name := "N", type := 3, offset := 10, embedded := false, tag := "", pkgPath := "", byteOffset := 104 }])
    (f := { name := "Offsets", type := 29, offset := 11, embedded := false, tag := "", pkgPath := "", byteOffset := 112 }) (ks := [.i .i64, .s, .s, .i .i64, .i .i64, .i .i64, .i .i64, .s, .i .i64, .i .i64, .i .i64]) Tryd.underlying42 (by kernel_rfl) rfl act_sz29 act_sz 140737488351232 hx hB
  obtain ⟨R, hR, h3, h4, h5, h6⟩ := row_in (en := encInt .i64) (ok := fun _ => True) Tryd.underlying29 act_k3 act_sz3 (by decide) 140737488351232 act_int (fun _ => rfl) n' [v] y h1 h2
  match cs0, h0 with
  | [.int k1 n1, .string s1, .string s2, .int k2 n2, .int k3 n3, .int k4 n4, .int k5 n5, .string s3, .int k6 n6, .int k7 n7, .int k8 n8], ⟨⟨g1, g2, g3⟩, q1, q2, ⟨g4, _⟩, ⟨g5, _⟩, ⟨g6, _⟩, ⟨g7, _⟩, q3, ⟨g8, _⟩, ⟨g9, _⟩, ⟨g10, _⟩, _⟩ =>
    subst g1 g4 g5 g6 g7 g8 g9 g10
    refine ⟨⟨n1, ⟨s1.data.toList, s2.data.toList, n2, n3, n4, n5, s3.data.toList⟩, n6, n7, n8, R⟩, ?_, ⟨⟨?_, ?_⟩, ⟨q1, q2, q3⟩, ?_⟩, h6⟩
    · rw [hR]
      show [Value.int .i64 n1, Value.string s1, Value.string s2, Value.int .i64 n2, Value.int .i64 n3, Value.int .i64 n4, Value.int .i64 n5, Value.string s3, Value.int .i64 n6, Value.int .i64 n7, Value.int .i64 n8] ++ _ = _ :: _
      rw [← den_str s1, ← den_str s2, ← den_str s3]; rfl
    · simpa [IntKind.min, IntKind.bits, IntKind.signed] using g2
    · simpa [IntKind.max, IntKind.bits, IntKind.signed] using g3
    · rw [act_by3] at h4; exact h4
theorem acts_in {v : Value} {dd : DataW H} {ps : List MemPlace} {r : Reach} {b0 : Nat} (hval : Value.okWide Tryd.prog w r b0 37 v) (hd : DataW.Trod enc Tryd.prog w base (fun _ => true) held 37 v dd ps) (hB : ∀ m ∈ dd.weights Tryd.prog 37, m ≤ 140737488351232) :
    ∃ (z : Bool) (b : Bs) (c : Nat) (L : List ActR), v = (SV.sl 0 z b 12 0 L.length c).den ∧ L.length * 136 ≤ 140737488351232 ∧ (∀ a ∈ L, okA a) ∧ BlkAt w (b, .win (encA 0) 12 L) ∧ EntryAt w (rowsI L) := by
  obtain ⟨fuel, hf⟩ := hd
  have hv : v.cells.toList = [v] := by
    rcases okWide_sl Tryd.underlying37 hval with rfl | ⟨_, _, _, _, rfl, _⟩ <;> rfl
  rw [hv] at hf
  obtain ⟨z, b, c, rows, h1, h2, h3, h4, h5⟩ := open_rows_gen Tryd.underlying37 act_sz 140737488351232 (fun cs' => ∃ a : ActR, cs' = denL (encA 0 a) ∧ okA a ∧ BlkAt w (Row.win (encInt .i64) 1 a.o))
    (fun n cs' y hy hyB => act_cells hy hyB) (spot_in Tryd.underlying37 act_sz (by decide) hf) hf hB
  obtain ⟨L, e1, e2⟩ := rows_as (en := encA 0) fun r hr => (h2 r hr).1
  have hl : rows.length = L.length := by rw [e1, List.length_map]
  refine ⟨z, b, c, L, ?_, ?_, fun a ha => (e2 a ha).1, blk_rows e1 (fun x _ => rfl) h5, ?_⟩
  · have := (List.cons.inj h1).1
    rw [this, hl]
  · rw [act_by42, hl] at h3; exact h3
  · intro a ha
    obtain ⟨r, hr, rfl⟩ := List.mem_map.1 ha
    obtain ⟨m, hm, rfl⟩ := List.mem_map.1 hr
    exact ⟨(e2 m hm).2, rfl⟩
end
end Go.Proofs.YtgapmdkiijpmpaaDoor

/- BufferChains: the row: the law's walk, and that its arguments read as they did. Own work, after the guide's template. -/
import Derived.Test.YthimgonpkhoodaaRows
import Derived.Test.YthimgonpkhoodaaXI
import Derived.Test.YthimgonpkhoodaaSyR
namespace Go.Proofs.Ythimgonpkhoodaa
open Go.ChangeShapes Go.WideShapes Go.ChangeAt Go.RowKit Go.Sy
open Go.ChangeMaps (open_string shut_string)
set_option linter.unusedVariables false
set_option linter.unusedSimpArgs false

def bufferChains_ks0 : List CK := [.i .i64]
theorem bufferChains_k0 : kindsT Try.prog 12 3 = some bufferChains_ks0 := by kernel_rfl
def bufferChains_ks1 : List CK := [.i .i64]
theorem bufferChains_k1 : kindsT Try.prog 12 3 = some bufferChains_ks1 := by kernel_rfl
theorem bufferChains_own : ownKnob Try.prog.godebug = none := by kernel_rfl
theorem bufferChains_laidOut : laidOutB Try.prog = true := by kernel_rfl
theorem bufferChains_sz0 : szOf Try.prog 3 = some 1 := by kernel_rfl
theorem bufferChains_by0 : Try.prog.bytesOf 3 = 8 := by kernel_rfl
theorem bufferChains_sz1 : szOf Try.prog 3 = some 1 := by kernel_rfl
theorem bufferChains_by1 : Try.prog.bytesOf 3 = 8 := by kernel_rfl
theorem bufferChains_reach : reachBytes = 140737488351232 := by decide

set_option maxRecDepth 100000 in
theorem bufferChains_lifted (os : Os) (started : os.Started) (H : Type) (enc : TypeId × Value → H) :
    ReturnsInHanded {} Try.checked os 9 .any (Rows.bufferChainsSpec.pre6 enc Try.prog Try.f9 Rows.bufferChainsRow.domain false) (Rows.bufferChainsSpec.post enc Try.prog Try.f9 false true false false) := by
  refine returnsInHanded_of_change_sized (C := Try.checked) bufferChains_own started (by kernel_rfl) Try.func9
    (ChangeSpec.witness6 (enc := enc) (C := Try.checked) false ⟨#[], #[.slice none 0 0, .slice none 0 0], []⟩ 8 (by kernel_rfl) (by kernel_rfl) (by kernel_rfl) (by kernel_rfl)) ?_
  intro W base args ds gs before hval0 hW hcnd hsz0 _
  have hsz : (DataW.weightsEach Try.prog (Try.f9.params.toList ++ Rows.bufferChainsSpec.plain.varTypes Try.prog) (ds ++ gs)).all (· ≤ reachBytes) = true := hsz0
  have hval : ∀ (j : Nat) t v, Try.f9.params[j]? = some t → args[j]? = some v → Value.okWide Try.prog W .any base t v := hval0
  have hW' := hW
  obtain ⟨p, q, hA0, hV, rfl, hfz, hnd⟩ := hW
  have hA : DataW.TrodAll enc Try.prog W 0 (fun _ => true) true Try.f9.params.toList args.toList ds p := hA0
  rw [Try.params9] at hA hval hsz
  obtain ⟨v0, vs0, d0, ds0, p0, q0, hargs, rfl, rfl, h0, r0⟩ := trodAll_cons hA
  obtain ⟨v1, vs1, d1, ds1, p1, q1, rfl, rfl, rfl, h1, r1⟩ := trodAll_cons r0
  obtain ⟨rfl, rfl, rfl⟩ := trodAll_nil r1
  obtain rfl : args = #[v0, v1] := by cases args; simp_all
  obtain ⟨rfl, rfl⟩ := trodVars_none hV
  clear hA0 hval0 hsz0
  simp only [List.append_nil] at hW'
  have hlt : ∀ x ∈ p0 ++ p1, x.block < W.heap.size := fun x hx => by simpa using hW'.lt x (by simpa using hx)
  have hwt : ∀ (j : Nat) t d, Try.f9.params.toList[j]? = some t → [d0, d1][j]? = some d → ∀ m ∈ DataW.weights Try.prog t d, m ≤ 140737488351232 := by
    intro j t d ht hd m hm
    rw [Try.params9] at ht
    have hj : j < [d0, d1].length := (List.getElem?_eq_some_iff.1 hd).1
    have hjt : j < (#[48, 48] : Array TypeId).toList.length := (List.getElem?_eq_some_iff.1 ht).1
    have := List.all_eq_true.1 hsz m (DataW.weights_mem_each (j := j) (t := t) (d := d) (by rw [List.getElem?_append_left hjt]; exact ht) (by rw [List.getElem?_append_left (by simpa using hj)]; simpa using hd) m hm)
    rw [bufferChains_reach] at this
    exact of_decide_eq_true this
  have fin : Calls Try.prog 9 #[v0, v1] W (fun e w' => e = .returned (.bool true) ∧ Below W.heap.size W w') →
      Calls Try.prog 9 #[v0, v1] W fun e W' => ∃ v, e = Ending.returned v ∧ Rows.bufferChainsSpec.post enc Try.checked.prog Try.f9 false true false false W #[v0, v1] v W' := fun hc => by
    refine hc.mono fun e W' ⟨he, hb⟩ => ?_
    subst he
    refine ⟨_, rfl, _, _, _, [] ++ [], p0 ++ (p1 ++ ([])), [], hW', ?_, ?_, rfl, hb.frame _, fun h => by cases h⟩
    · exact trodAll_cons_mk (shut_bool Try.underlying4 true) trodAll_mk0
    · exact (trodAll_cons_mk (Below.trod bufferChains_laidOut (by kernel_rfl) (of_decide_eq_true (by kernel_rfl)) h0 hb fun x hx => hlt x (by simp [hx])) (trodAll_cons_mk (Below.trod bufferChains_laidOut (by kernel_rfl) (of_decide_eq_true (by kernel_rfl)) h1 hb fun x hx => hlt x (by simp [hx])) trodAll_mk0))
  apply fin
  clear fin hlt hW' hnd hfz
  obtain ⟨z0, b0, c0, rows0, rfl, ok0, by0, room0, cell0⟩ := open_rows_room (ks := bufferChains_ks0) Try.underlying48 (bufferChains_k0) bufferChains_sz0 140737488351232 (hval 0 48 v0 rfl rfl) h0 (hwt 0 48 _ (by rw [Try.params9]; rfl) rfl)
  obtain ⟨l0, el0, hI0⟩ := rows_as (en := Go.Bu.encI) fun r hr => int1_row (ok0 r hr)
  have hlen0 : rows0.length = l0.length := by rw [el0, List.length_map]
  have hl0 : l0.length * 8 ≤ 140737488351232 := by rw [← hlen0, ← bufferChains_by0]; exact by0
  rw [hlen0] at room0
  rw [hlen0]
  obtain ⟨z1, b1, c1, rows1, rfl, ok1, by1, room1, cell1⟩ := open_rows_room (ks := bufferChains_ks1) Try.underlying48 (bufferChains_k1) bufferChains_sz1 140737488351232 (hval 1 48 v1 rfl rfl) h1 (hwt 1 48 _ (by rw [Try.params9]; rfl) rfl)
  obtain ⟨l1, el1, hI1⟩ := rows_as (en := Go.Bu.encI) fun r hr => int1_row (ok1 r hr)
  have hlen1 : rows1.length = l1.length := by rw [el1, List.length_map]
  have hl1 : l1.length * 8 ≤ 140737488351232 := by rw [← hlen1, ← bufferChains_by1]; exact by1
  rw [hlen1] at room1
  rw [hlen1]
  refine law_run Try.func9 rfl (by decide) (bufferChains_ob z0 b0 c0 l0 z1 b1 c1 l1 hI0 hI1 (by omega) (by omega)) ?_ ?_ rfl
  · refine hsat_wins fun p hp => ?_
    simp only [List.mem_cons, List.not_mem_nil, or_false] at hp
    rcases hp with rfl | rfl
    · exact ⟨rfl, blk_rows el0 (fun _ _ => rfl) cell0⟩
    · exact ⟨rfl, blk_rows el1 (fun _ _ => rfl) cell1⟩
  · refine nowr_wins fun p hp => ?_
    simp only [List.mem_cons, List.not_mem_nil, or_false] at hp
    rcases hp with rfl | rfl <;> rfl

theorem bufferChains_proved : Rows.BufferChainsSaid :=
  OpenClaim.holds_of_wide 9 Try.f9 rfl rfl rfl rfl rfl rfl rfl ⟨rfl, rfl, rfl, rfl, rfl⟩ rfl rfl rfl rfl rfl (by kernel_rfl) Try.func9 (by kernel_rfl)
    (of_decide_eq_true (by kernel_rfl)) (by unfold Func.isWrapper; first | (rw [if_pos (by decide +kernel)]; kernel_rfl) | (rw [if_neg (by decide +kernel)]; exact ⟨rfl, rfl⟩))
    (fun os started H enc _ => bufferChains_lifted os started H enc)
#print axioms bufferChains_proved
end Go.Proofs.Ythimgonpkhoodaa

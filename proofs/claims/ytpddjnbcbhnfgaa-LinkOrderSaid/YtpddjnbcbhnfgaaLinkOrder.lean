/- LinkOrder: the row: the law's walk, and that its arguments read as they did. Own work, after the guide's template. -/
import Derived.Test.YtpddjnbcbhnfgaaRows
import Derived.Test.YtpddjnbcbhnfgaaN11
import Derived.Test.YtpddjnbcbhnfgaaSyR
namespace Go.Proofs.Ytpddjnbcbhnfgaa
open Go.ChangeShapes Go.WideShapes Go.ChangeAt Go.RowKit Go.Sy
open Go.ChangeMaps (open_string shut_string)
set_option linter.unusedVariables false
set_option linter.unusedSimpArgs false

def linkOrder_ks2 : List CK := [.i .i64, .i .i64, .s]
theorem linkOrder_k2 : kindsT Try.prog 12 60 = some linkOrder_ks2 := by kernel_rfl
theorem linkOrder_own : ownKnob Try.prog.godebug = none := by kernel_rfl
theorem linkOrder_laidOut : laidOutB Try.prog = true := by kernel_rfl
theorem linkOrder_sz2 : szOf Try.prog 60 = some 3 := by kernel_rfl
theorem linkOrder_by2 : Try.prog.bytesOf 60 = 32 := by kernel_rfl
theorem linkOrder_reach : reachBytes = 140737488351232 := by decide

set_option maxRecDepth 100000 in
theorem linkOrder_lifted (os : Os) (started : os.Started) (H : Type) (enc : TypeId × Value → H) :
    ReturnsInHanded {} Try.checked os 6 .any (Rows.linkOrderSpec.pre6 enc Try.prog Try.f6 Rows.linkOrderRow.domain false) (Rows.linkOrderSpec.post enc Try.prog Try.f6 false true false false) := by
  refine returnsInHanded_of_change_sized (C := Try.checked) linkOrder_own started (by kernel_rfl) Try.func6
    (ChangeSpec.witness6 (enc := enc) (C := Try.checked) false ⟨#[], #[.int .i64 0, .int .i64 0, .slice none 0 0], []⟩ 8 (by kernel_rfl) (by kernel_rfl) (by kernel_rfl) (by kernel_rfl)) ?_
  intro W base args ds gs before hval0 hW hcnd hsz0 _
  have hsz : (DataW.weightsEach Try.prog (Try.f6.params.toList ++ Rows.linkOrderSpec.plain.varTypes Try.prog) (ds ++ gs)).all (· ≤ reachBytes) = true := hsz0
  have hval : ∀ (j : Nat) t v, Try.f6.params[j]? = some t → args[j]? = some v → Value.okWide Try.prog W .any base t v := hval0
  have hW' := hW
  obtain ⟨p, q, hA0, hV, rfl, hfz, hnd⟩ := hW
  have hA : DataW.TrodAll enc Try.prog W 0 (fun _ => true) true Try.f6.params.toList args.toList ds p := hA0
  rw [Try.params6] at hA hval hsz
  obtain ⟨v0, vs0, d0, ds0, p0, q0, hargs, rfl, rfl, h0, r0⟩ := trodAll_cons hA
  obtain ⟨v1, vs1, d1, ds1, p1, q1, rfl, rfl, rfl, h1, r1⟩ := trodAll_cons r0
  obtain ⟨v2, vs2, d2, ds2, p2, q2, rfl, rfl, rfl, h2, r2⟩ := trodAll_cons r1
  obtain ⟨rfl, rfl, rfl⟩ := trodAll_nil r2
  obtain rfl : args = #[v0, v1, v2] := by cases args; simp_all
  obtain ⟨rfl, rfl⟩ := trodVars_none hV
  clear hA0 hval0 hsz0
  simp only [List.append_nil] at hW'
  have hlt : ∀ x ∈ p0 ++ p1 ++ p2, x.block < W.heap.size := fun x hx => by simpa using hW'.lt x (by simpa using hx)
  have hwt : ∀ (j : Nat) t d, Try.f6.params.toList[j]? = some t → [d0, d1, d2][j]? = some d → ∀ m ∈ DataW.weights Try.prog t d, m ≤ 140737488351232 := by
    intro j t d ht hd m hm
    rw [Try.params6] at ht
    have hj : j < [d0, d1, d2].length := (List.getElem?_eq_some_iff.1 hd).1
    have hjt : j < (#[3, 3, 58] : Array TypeId).toList.length := (List.getElem?_eq_some_iff.1 ht).1
    have := List.all_eq_true.1 hsz m (DataW.weights_mem_each (j := j) (t := t) (d := d) (by rw [List.getElem?_append_left hjt]; exact ht) (by rw [List.getElem?_append_left (by simpa using hj)]; simpa using hd) m hm)
    rw [linkOrder_reach] at this
    exact of_decide_eq_true this
  have fin : Calls Try.prog 6 #[v0, v1, v2] W (fun e w' => e = .returned (.bool true) ∧ Below W.heap.size W w') →
      Calls Try.prog 6 #[v0, v1, v2] W fun e W' => ∃ v, e = Ending.returned v ∧ Rows.linkOrderSpec.post enc Try.checked.prog Try.f6 false true false false W #[v0, v1, v2] v W' := fun hc => by
    refine hc.mono fun e W' ⟨he, hb⟩ => ?_
    subst he
    refine ⟨_, rfl, _, _, _, [] ++ [], p0 ++ (p1 ++ (p2 ++ ([]))), [], hW', ?_, ?_, rfl, hb.frame _, fun h => by cases h⟩
    · exact trodAll_cons_mk (shut_bool Try.underlying4 true) trodAll_mk0
    · exact (trodAll_cons_mk (Below.trod linkOrder_laidOut (by kernel_rfl) (of_decide_eq_true (by kernel_rfl)) h0 hb fun x hx => hlt x (by simp [hx])) (trodAll_cons_mk (Below.trod linkOrder_laidOut (by kernel_rfl) (of_decide_eq_true (by kernel_rfl)) h1 hb fun x hx => hlt x (by simp [hx])) (trodAll_cons_mk (Below.trod linkOrder_laidOut (by kernel_rfl) (of_decide_eq_true (by kernel_rfl)) h2 hb fun x hx => hlt x (by simp [hx])) trodAll_mk0)))
  apply fin
  clear fin hlt hW' hnd hfz
  obtain ⟨a0, rfl, rfl, rfl, w0⟩ := open_int Try.underlying3 (hval 0 3 v0 rfl rfl) h0
  obtain ⟨lo0, hi0⟩ : -9223372036854775808 ≤ a0 ∧ a0 ≤ 9223372036854775807 := by simpa [Lit.wf, IntKind.min, IntKind.max, IntKind.bits, IntKind.signed] using w0
  obtain ⟨a1, rfl, rfl, rfl, w1⟩ := open_int Try.underlying3 (hval 1 3 v1 rfl rfl) h1
  obtain ⟨lo1, hi1⟩ : -9223372036854775808 ≤ a1 ∧ a1 ≤ 9223372036854775807 := by simpa [Lit.wf, IntKind.min, IntKind.max, IntKind.bits, IntKind.signed] using w1
  obtain ⟨z2, b2, c2, rows2, rfl, ok2, by2, room2, cell2⟩ := open_rows_room (ks := linkOrder_ks2) Try.underlying58 (linkOrder_k2) linkOrder_sz2 140737488351232 (hval 2 58 v2 rfl rfl) h2 (hwt 2 58 _ (by rw [Try.params6]; rfl) rfl)
  obtain ⟨l2, el2, hI2⟩ := rows_as (en := encMv) fun r hr => mv_row (ok2 r hr)
  have hlen2 : rows2.length = l2.length := by rw [el2, List.length_map]
  have hl2 : l2.length * 32 ≤ 140737488351232 := by rw [← hlen2, ← linkOrder_by2]; exact by2
  rw [hlen2] at room2
  rw [hlen2]
  refine law_run Try.func6 rfl (by decide) (linkOrder_ob a0 a1 lo0 hi0 lo1 hi1 z2 b2 c2 l2 hI2 (by omega)) ?_ ?_ rfl
  · refine hsat_wins fun p hp => ?_
    simp only [List.mem_cons, List.not_mem_nil, or_false] at hp
    rcases hp with rfl
    · exact ⟨rfl, blk_rows el2 (fun _ _ => rfl) cell2⟩
  · refine nowr_wins fun p hp => ?_
    simp only [List.mem_cons, List.not_mem_nil, or_false] at hp
    rcases hp with rfl <;> rfl

theorem linkOrder_proved : Rows.LinkOrderSaid :=
  OpenClaim.holds_of_wide 6 Try.f6 rfl rfl rfl rfl rfl rfl rfl ⟨rfl, rfl, rfl, rfl, rfl⟩ rfl rfl rfl rfl rfl (by kernel_rfl) Try.func6 (by kernel_rfl)
    (of_decide_eq_true (by kernel_rfl)) (by unfold Func.isWrapper; first | (rw [if_pos (by decide +kernel)]; kernel_rfl) | (rw [if_neg (by decide +kernel)]; exact ⟨rfl, rfl⟩))
    (fun os started H enc _ => linkOrder_lifted os started H enc)
#print axioms linkOrder_proved
end Go.Proofs.Ytpddjnbcbhnfgaa

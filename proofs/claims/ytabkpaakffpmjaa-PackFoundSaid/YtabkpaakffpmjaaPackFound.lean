/- PackFound: the row: the law's walk, and that its arguments read as they did. Own work, after the guide's template. -/
import Derived.Test.YtabkpaakffpmjaaRows
import Derived.Test.YtabkpaakffpmjaaP17
import Derived.Test.YtabkpaakffpmjaaSyR
namespace Go.Proofs.Ytabkpaakffpmjaa
open Go.ChangeShapes Go.WideShapes Go.ChangeAt Go.RowKit Go.Sy
open Go.ChangeMaps (open_string shut_string)
set_option linter.unusedVariables false
set_option linter.unusedSimpArgs false

def packFound_ks0 : List CK := [.s]
theorem packFound_k0 : kindsT Try.prog 12 9 = some packFound_ks0 := by kernel_rfl
theorem packFound_own : ownKnob Try.prog.godebug = none := by kernel_rfl
theorem packFound_laidOut : laidOutB Try.prog = true := by kernel_rfl
theorem packFound_sz0 : szOf Try.prog 9 = some 1 := by kernel_rfl
theorem packFound_by0 : Try.prog.bytesOf 9 = 16 := by kernel_rfl
theorem packFound_reach : reachBytes = 140737488351232 := by decide

set_option maxRecDepth 100000 in
theorem packFound_lifted (os : Os) (started : os.Started) (H : Type) (enc : TypeId × Value → H) :
    ReturnsInHanded {} Try.checked os 10 .any (Rows.packFoundSpec.pre6 enc Try.prog Try.f10 Rows.packFoundRow.domain false) (Rows.packFoundSpec.post enc Try.prog Try.f10 false true false false) := by
  refine returnsInHanded_of_change_sized (C := Try.checked) packFound_own started (by kernel_rfl) Try.func10
    (ChangeSpec.witness6 (enc := enc) (C := Try.checked) false ⟨#[], #[.slice none 0 0, .string ByteArray.empty, .string ByteArray.empty], []⟩ 8 (by kernel_rfl) (by kernel_rfl) (by kernel_rfl) (by kernel_rfl)) ?_
  intro W base args ds gs before hval0 hW hcnd hsz0 _
  have hsz : (DataW.weightsEach Try.prog (Try.f10.params.toList ++ Rows.packFoundSpec.plain.varTypes Try.prog) (ds ++ gs)).all (· ≤ reachBytes) = true := hsz0
  have hval : ∀ (j : Nat) t v, Try.f10.params[j]? = some t → args[j]? = some v → Value.okWide Try.prog W .any base t v := hval0
  have hW' := hW
  obtain ⟨p, q, hA0, hV, rfl, hfz, hnd⟩ := hW
  have hA : DataW.TrodAll enc Try.prog W 0 (fun _ => true) true Try.f10.params.toList args.toList ds p := hA0
  rw [Try.params10] at hA hval hsz
  obtain ⟨v0, vs0, d0, ds0, p0, q0, hargs, rfl, rfl, h0, r0⟩ := trodAll_cons hA
  obtain ⟨v1, vs1, d1, ds1, p1, q1, rfl, rfl, rfl, h1, r1⟩ := trodAll_cons r0
  obtain ⟨v2, vs2, d2, ds2, p2, q2, rfl, rfl, rfl, h2, r2⟩ := trodAll_cons r1
  obtain ⟨rfl, rfl, rfl⟩ := trodAll_nil r2
  obtain rfl : args = #[v0, v1, v2] := by cases args; simp_all
  obtain ⟨rfl, rfl⟩ := trodVars_none hV
  clear hA0 hval0 hsz0
  simp only [List.append_nil] at hW'
  have hlt : ∀ x ∈ p0 ++ p1 ++ p2, x.block < W.heap.size := fun x hx => by simpa using hW'.lt x (by simpa using hx)
  have hwt : ∀ (j : Nat) t d, Try.f10.params.toList[j]? = some t → [d0, d1, d2][j]? = some d → ∀ m ∈ DataW.weights Try.prog t d, m ≤ 140737488351232 := by
    intro j t d ht hd m hm
    rw [Try.params10] at ht
    have hj : j < [d0, d1, d2].length := (List.getElem?_eq_some_iff.1 hd).1
    have hjt : j < (#[48, 9, 9] : Array TypeId).toList.length := (List.getElem?_eq_some_iff.1 ht).1
    have := List.all_eq_true.1 hsz m (DataW.weights_mem_each (j := j) (t := t) (d := d) (by rw [List.getElem?_append_left hjt]; exact ht) (by rw [List.getElem?_append_left (by simpa using hj)]; simpa using hd) m hm)
    rw [packFound_reach] at this
    exact of_decide_eq_true this
  have fin : Calls Try.prog 10 #[v0, v1, v2] W (fun e w' => e = .returned (.bool true) ∧ Below W.heap.size W w') →
      Calls Try.prog 10 #[v0, v1, v2] W fun e W' => ∃ v, e = Ending.returned v ∧ Rows.packFoundSpec.post enc Try.checked.prog Try.f10 false true false false W #[v0, v1, v2] v W' := fun hc => by
    refine hc.mono fun e W' ⟨he, hb⟩ => ?_
    subst he
    refine ⟨_, rfl, _, _, _, [] ++ [], p0 ++ (p1 ++ (p2 ++ ([]))), [], hW', ?_, ?_, rfl, hb.frame _, fun h => by cases h⟩
    · exact trodAll_cons_mk (shut_bool Try.underlying4 true) trodAll_mk0
    · exact (trodAll_cons_mk (Below.trod packFound_laidOut (by kernel_rfl) (of_decide_eq_true (by kernel_rfl)) h0 hb fun x hx => hlt x (by simp [hx])) (trodAll_cons_mk (Below.trod packFound_laidOut (by kernel_rfl) (of_decide_eq_true (by kernel_rfl)) h1 hb fun x hx => hlt x (by simp [hx])) (trodAll_cons_mk (Below.trod packFound_laidOut (by kernel_rfl) (of_decide_eq_true (by kernel_rfl)) h2 hb fun x hx => hlt x (by simp [hx])) trodAll_mk0)))
  apply fin
  clear fin hlt hW' hnd hfz
  obtain ⟨z0, b0, c0, rows0, rfl, ok0, by0, room0, cell0⟩ := open_rows_room (ks := packFound_ks0) Try.underlying48 (packFound_k0) packFound_sz0 140737488351232 (hval 0 48 v0 rfl rfl) h0 (hwt 0 48 _ (by rw [Try.params10]; rfl) rfl)
  obtain ⟨l0, el0, hI0⟩ := rows_as (en := encStr) fun r hr => text_row (ok0 r hr)
  have hlen0 : rows0.length = l0.length := by rw [el0, List.length_map]
  have hl0 : l0.length * 16 ≤ 140737488351232 := by rw [← hlen0, ← packFound_by0]; exact by0
  rw [hlen0] at room0
  rw [hlen0]
  obtain ⟨a1, rfl, rfl, rfl, w1⟩ := open_string Try.underlying9 (hval 1 9 v1 rfl rfl) h1
  have hs1 : a1.data.toList.length ≤ 140737488351232 := hwt 1 9 _ (by rw [Try.params10]; rfl) rfl _ (by simp [DataW.weights])
  obtain ⟨s1, es1⟩ : ∃ s, a1.data.toList = s := ⟨_, rfl⟩
  rw [es1] at hs1
  have ev1 : Value.string a1 = (SV.str s1).den := by rw [← es1, den_str]
  obtain ⟨a2, rfl, rfl, rfl, w2⟩ := open_string Try.underlying9 (hval 2 9 v2 rfl rfl) h2
  have hs2 : a2.data.toList.length ≤ 140737488351232 := hwt 2 9 _ (by rw [Try.params10]; rfl) rfl _ (by simp [DataW.weights])
  obtain ⟨s2, es2⟩ : ∃ s, a2.data.toList = s := ⟨_, rfl⟩
  rw [es2] at hs2
  have ev2 : Value.string a2 = (SV.str s2).den := by rw [← es2, den_str]
  rw [ev1]
  rw [ev2]
  refine law_run Try.func10 rfl (by decide) (packFound_ob z0 b0 c0 l0 hI0 hl0 s1 s2 hs1 hs2) ?_ ?_ rfl
  · refine hsat_wins fun p hp => ?_
    simp only [List.mem_cons, List.not_mem_nil, or_false] at hp
    rcases hp with rfl
    · exact ⟨rfl, blk_rows el0 (fun _ _ => rfl) cell0⟩
  · refine nowr_wins fun p hp => ?_
    simp only [List.mem_cons, List.not_mem_nil, or_false] at hp
    rcases hp with rfl <;> rfl

theorem packFound_proved : Rows.PackFoundSaid :=
  OpenClaim.holds_of_wide 10 Try.f10 rfl rfl rfl rfl rfl rfl rfl ⟨rfl, rfl, rfl, rfl, rfl⟩ rfl rfl rfl rfl rfl (by kernel_rfl) Try.func10 (by kernel_rfl)
    (of_decide_eq_true (by kernel_rfl)) (by unfold Func.isWrapper; first | (rw [if_pos (by decide +kernel)]; kernel_rfl) | (rw [if_neg (by decide +kernel)]; exact ⟨rfl, rfl⟩))
    (fun os started H enc _ => packFound_lifted os started H enc)
#print axioms packFound_proved
end Go.Proofs.Ytabkpaakffpmjaa

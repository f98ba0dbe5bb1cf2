/- RouteEnds: the row: the law's walk, and that its arguments read as they did. Own work, after the guide's template. -/
import Derived.Test.YtmnohdkfnkgcdaaRows
import Derived.Test.YtmnohdkfnkgcdaaRE
import Derived.Test.YtmnohdkfnkgcdaaSyR
namespace Go.Proofs.Ytmnohdkfnkgcdaa
open Go.ChangeShapes Go.WideShapes Go.ChangeAt Go.RowKit Go.Sy
open Go.ChangeMaps (open_string shut_string)
set_option linter.unusedVariables false
set_option linter.unusedSimpArgs false

def routeEnds_ks0 : List CK := [.i .i64, .i .i64, .i .i64]
theorem routeEnds_k0 : kindsT Try.prog 12 51 = some routeEnds_ks0 := by kernel_rfl
theorem routeEnds_sz0 : szOf Try.prog 51 = some 3 := by kernel_rfl
theorem routeEnds_own : ownKnob Try.prog.godebug = none := by kernel_rfl
theorem routeEnds_laidOut : laidOutB Try.prog = true := by kernel_rfl
theorem routeEnds_reach : reachBytes = 140737488351232 := by decide

set_option maxRecDepth 100000 in
theorem routeEnds_lifted (os : Os) (started : os.Started) (H : Type) (enc : TypeId × Value → H) :
    ReturnsInHanded {} Try.checked os 11 .any (Rows.routeEndsSpec.pre6 enc Try.prog Try.f11 Rows.routeEndsRow.domain false) (Rows.routeEndsSpec.post enc Try.prog Try.f11 false true false false) := by
  refine returnsInHanded_of_change_sized (C := Try.checked) routeEnds_own started (by kernel_rfl) Try.func11
    (ChangeSpec.witness6 (enc := enc) (C := Try.checked) false ⟨#[], #[.agg #[.int .i64 0, .int .i64 0, .int .i64 0]], []⟩ 8 (by kernel_rfl) (by kernel_rfl) (by kernel_rfl) (by kernel_rfl)) ?_
  intro W base args ds gs before hval0 hW hcnd hsz0 _
  have hsz : (DataW.weightsEach Try.prog (Try.f11.params.toList ++ Rows.routeEndsSpec.plain.varTypes Try.prog) (ds ++ gs)).all (· ≤ reachBytes) = true := hsz0
  have hval : ∀ (j : Nat) t v, Try.f11.params[j]? = some t → args[j]? = some v → Value.okWide Try.prog W .any base t v := hval0
  have hW' := hW
  obtain ⟨p, q, hA0, hV, rfl, hfz, hnd⟩ := hW
  have hA : DataW.TrodAll enc Try.prog W 0 (fun _ => true) true Try.f11.params.toList args.toList ds p := hA0
  rw [Try.params11] at hA hval hsz
  obtain ⟨v0, vs0, d0, ds0, p0, q0, hargs, rfl, rfl, h0, r0⟩ := trodAll_cons hA
  obtain ⟨rfl, rfl, rfl⟩ := trodAll_nil r0
  obtain rfl : args = #[v0] := by cases args; simp_all
  obtain ⟨rfl, rfl⟩ := trodVars_none hV
  clear hA0 hval0 hsz0
  simp only [List.append_nil] at hW'
  have hlt : ∀ x ∈ p0, x.block < W.heap.size := fun x hx => by simpa using hW'.lt x (by simpa using hx)
  have hwt : ∀ (j : Nat) t d, Try.f11.params.toList[j]? = some t → [d0][j]? = some d → ∀ m ∈ DataW.weights Try.prog t d, m ≤ 140737488351232 := by
    intro j t d ht hd m hm
    rw [Try.params11] at ht
    have hj : j < [d0].length := (List.getElem?_eq_some_iff.1 hd).1
    have hjt : j < (#[51] : Array TypeId).toList.length := (List.getElem?_eq_some_iff.1 ht).1
    have := List.all_eq_true.1 hsz m (DataW.weights_mem_each (j := j) (t := t) (d := d) (by rw [List.getElem?_append_left hjt]; exact ht) (by rw [List.getElem?_append_left (by simpa using hj)]; simpa using hd) m hm)
    rw [routeEnds_reach] at this
    exact of_decide_eq_true this
  have fin : Calls Try.prog 11 #[v0] W (fun e w' => e = .returned (.bool true) ∧ Below W.heap.size W w') →
      Calls Try.prog 11 #[v0] W fun e W' => ∃ v, e = Ending.returned v ∧ Rows.routeEndsSpec.post enc Try.checked.prog Try.f11 false true false false W #[v0] v W' := fun hc => by
    refine hc.mono fun e W' ⟨he, hb⟩ => ?_
    subst he
    refine ⟨_, rfl, _, _, _, [] ++ [], p0 ++ ([]), [], hW', ?_, ?_, rfl, hb.frame _, fun h => by cases h⟩
    · exact trodAll_cons_mk (shut_bool Try.underlying4 true) trodAll_mk0
    · exact (trodAll_cons_mk (Below.trod routeEnds_laidOut (by kernel_rfl) (of_decide_eq_true (by kernel_rfl)) h0 hb fun x hx => hlt x (by simp [hx])) trodAll_mk0)
  apply fin
  clear fin hlt hW' hnd hfz
  obtain ⟨cs0, rfl, okc0⟩ := open_agg (ks := routeEnds_ks0) (by kernel_rfl) routeEnds_k0 routeEnds_sz0 140737488351232 (hval 0 51 v0 rfl rfl) h0 (hwt 0 51 _ (by rw [Try.params11]; rfl) rfl)
  obtain ⟨g0, s0, m0, rfl⟩ := ints3_row okc0
  refine law_run Try.func11 rfl (by decide) (routeEnds_ob g0 s0 m0) ?_ ?_ rfl
  · exact hsat_nil _
  · exact nowr_wins (by simp)

theorem routeEnds_proved : Rows.RouteEndsSaid :=
  OpenClaim.holds_of_wide 11 Try.f11 rfl rfl rfl rfl rfl rfl rfl ⟨rfl, rfl, rfl, rfl, rfl⟩ rfl rfl rfl rfl rfl (by kernel_rfl) Try.func11 (by kernel_rfl)
    (of_decide_eq_true (by kernel_rfl)) (by unfold Func.isWrapper; first | (rw [if_pos (by decide +kernel)]; kernel_rfl) | (rw [if_neg (by decide +kernel)]; exact ⟨rfl, rfl⟩))
    (fun os started H enc _ => routeEnds_lifted os started H enc)
#print axioms routeEnds_proved
end Go.Proofs.Ytmnohdkfnkgcdaa

/- RouteOne: the row: the law's walk, and that its arguments read as they did. Own work, after the guide's template. -/
import Derived.Test.YtmnohdkfnkgcdaaRows
import Derived.Test.YtmnohdkfnkgcdaaRR
import Derived.Test.YtmnohdkfnkgcdaaSyR
namespace Go.Proofs.Ytmnohdkfnkgcdaa
open Go.ChangeShapes Go.WideShapes Go.ChangeAt Go.RowKit Go.Sy
open Go.ChangeMaps (open_string shut_string)
set_option linter.unusedVariables false
set_option linter.unusedSimpArgs false

def routeOne_ks0 : List CK := [.i .i64, .i .i64, .i .i64]
theorem routeOne_k0 : kindsT Try.prog 12 51 = some routeOne_ks0 := by kernel_rfl
theorem routeOne_sz0 : szOf Try.prog 51 = some 3 := by kernel_rfl
theorem routeOne_own : ownKnob Try.prog.godebug = none := by kernel_rfl
theorem routeOne_laidOut : laidOutB Try.prog = true := by kernel_rfl
theorem routeOne_reach : reachBytes = 140737488351232 := by decide

set_option maxRecDepth 100000 in
theorem routeOne_lifted (os : Os) (started : os.Started) (H : Type) (enc : TypeId × Value → H) :
    ReturnsInHanded {} Try.checked os 8 .any (Rows.routeOneSpec.pre6 enc Try.prog Try.f8 Rows.routeOneRow.domain false) (Rows.routeOneSpec.post enc Try.prog Try.f8 false true false false) := by
  refine returnsInHanded_of_change_sized (C := Try.checked) routeOne_own started (by kernel_rfl) Try.func8
    (ChangeSpec.witness6 (enc := enc) (C := Try.checked) false ⟨#[], #[.agg #[.int .i64 0, .int .i64 0, .int .i64 0], .string ByteArray.empty], []⟩ 8 (by kernel_rfl) (by kernel_rfl) (by kernel_rfl) (by kernel_rfl)) ?_
  intro W base args ds gs before hval0 hW hcnd hsz0 _
  have hsz : (DataW.weightsEach Try.prog (Try.f8.params.toList ++ Rows.routeOneSpec.plain.varTypes Try.prog) (ds ++ gs)).all (· ≤ reachBytes) = true := hsz0
  have hval : ∀ (j : Nat) t v, Try.f8.params[j]? = some t → args[j]? = some v → Value.okWide Try.prog W .any base t v := hval0
  have hW' := hW
  obtain ⟨p, q, hA0, hV, rfl, hfz, hnd⟩ := hW
  have hA : DataW.TrodAll enc Try.prog W 0 (fun _ => true) true Try.f8.params.toList args.toList ds p := hA0
  rw [Try.params8] at hA hval hsz
  obtain ⟨v0, vs0, d0, ds0, p0, q0, hargs, rfl, rfl, h0, r0⟩ := trodAll_cons hA
  obtain ⟨v1, vs1, d1, ds1, p1, q1, rfl, rfl, rfl, h1, r1⟩ := trodAll_cons r0
  obtain ⟨rfl, rfl, rfl⟩ := trodAll_nil r1
  obtain rfl : args = #[v0, v1] := by cases args; simp_all
  obtain ⟨rfl, rfl⟩ := trodVars_none hV
  clear hA0 hval0 hsz0
  simp only [List.append_nil] at hW'
  have hlt : ∀ x ∈ p0 ++ p1, x.block < W.heap.size := fun x hx => by simpa using hW'.lt x (by simpa using hx)
  have hwt : ∀ (j : Nat) t d, Try.f8.params.toList[j]? = some t → [d0, d1][j]? = some d → ∀ m ∈ DataW.weights Try.prog t d, m ≤ 140737488351232 := by
    intro j t d ht hd m hm
    rw [Try.params8] at ht
    have hj : j < [d0, d1].length := (List.getElem?_eq_some_iff.1 hd).1
    have hjt : j < (#[51, 9] : Array TypeId).toList.length := (List.getElem?_eq_some_iff.1 ht).1
    have := List.all_eq_true.1 hsz m (DataW.weights_mem_each (j := j) (t := t) (d := d) (by rw [List.getElem?_append_left hjt]; exact ht) (by rw [List.getElem?_append_left (by simpa using hj)]; simpa using hd) m hm)
    rw [routeOne_reach] at this
    exact of_decide_eq_true this
  have fin : Calls Try.prog 8 #[v0, v1] W (fun e w' => e = .returned (.bool true) ∧ Below W.heap.size W w') →
      Calls Try.prog 8 #[v0, v1] W fun e W' => ∃ v, e = Ending.returned v ∧ Rows.routeOneSpec.post enc Try.checked.prog Try.f8 false true false false W #[v0, v1] v W' := fun hc => by
    refine hc.mono fun e W' ⟨he, hb⟩ => ?_
    subst he
    refine ⟨_, rfl, _, _, _, [] ++ [], p0 ++ (p1 ++ ([])), [], hW', ?_, ?_, rfl, hb.frame _, fun h => by cases h⟩
    · exact trodAll_cons_mk (shut_bool Try.underlying4 true) trodAll_mk0
    · exact (trodAll_cons_mk (Below.trod routeOne_laidOut (by kernel_rfl) (of_decide_eq_true (by kernel_rfl)) h0 hb fun x hx => hlt x (by simp [hx])) (trodAll_cons_mk (Below.trod routeOne_laidOut (by kernel_rfl) (of_decide_eq_true (by kernel_rfl)) h1 hb fun x hx => hlt x (by simp [hx])) trodAll_mk0))
  apply fin
  clear fin hlt hW' hnd hfz
  obtain ⟨cs0, rfl, okc0⟩ := open_agg (ks := routeOne_ks0) (by kernel_rfl) routeOne_k0 routeOne_sz0 140737488351232 (hval 0 51 v0 rfl rfl) h0 (hwt 0 51 _ (by rw [Try.params8]; rfl) rfl)
  obtain ⟨g0, s0, m0, rfl⟩ := ints3_row okc0
  obtain ⟨a1, rfl, rfl, rfl, w1⟩ := open_string Try.underlying9 (hval 1 9 v1 rfl rfl) h1
  have hs1 : a1.data.toList.length ≤ 140737488351232 := hwt 1 9 _ (by rw [Try.params8]; rfl) rfl _ (by simp [DataW.weights])
  obtain ⟨s1, es1⟩ : ∃ s, a1.data.toList = s := ⟨_, rfl⟩
  rw [es1] at hs1
  have ev1 : Value.string a1 = (SV.str s1).den := by rw [← es1, den_str]
  rw [ev1]
  refine law_run Try.func8 rfl (by decide) (routeOne_ob g0 s0 m0 s1 hs1) ?_ ?_ rfl
  · exact hsat_nil _
  · exact nowr_wins (by simp)

theorem routeOne_proved : Rows.RouteOneSaid :=
  OpenClaim.holds_of_wide 8 Try.f8 rfl rfl rfl rfl rfl rfl rfl ⟨rfl, rfl, rfl, rfl, rfl⟩ rfl rfl rfl rfl rfl (by kernel_rfl) Try.func8 (by kernel_rfl)
    (of_decide_eq_true (by kernel_rfl)) (by unfold Func.isWrapper; first | (rw [if_pos (by decide +kernel)]; kernel_rfl) | (rw [if_neg (by decide +kernel)]; exact ⟨rfl, rfl⟩))
    (fun os started H enc _ => routeOne_lifted os started H enc)
#print axioms routeOne_proved
end Go.Proofs.Ytmnohdkfnkgcdaa

/- EventSorts: the row: the law's walk, and that its arguments read as they did. Own work, after the guide's template. -/
import Derived.Test.YtbcnpklmhgcenaaDoorRows
import Derived.Test.YtbcnpklmhgcenaaDoorEL
import Derived.Test.YtbcnpklmhgcenaaDoorH3
import Derived.Test.YtbcnpklmhgcenaaDoorSyR
import Derived.Test.YtbcnpklmhgcenaaDoorCards
import Derived.Test.YtbcnpklmhgcenaaDoorTie
import Derived.LaidMore
import Derived.Lay
import Derived.SevenTiedAt
import Derived.Stop.Joined
namespace Go.Proofs.YtbcnpklmhgcenaaDoor
open Go.ChangeShapes Go.WideShapes Go.ChangeAt Go.RowKit Go.Sy Go.Ev
open Go.ChangeMaps (open_string shut_string)
set_option linter.unusedVariables false
set_option linter.unusedSimpArgs false

theorem eventSorts_own : ownKnob Tryd.prog.godebug = none := by kernel_rfl
theorem eventSorts_laidOut : laidOutB Tryd.prog = true := by kernel_rfl
theorem eventSorts_reach : reachBytes = 140737488351232 := by decide

set_option maxRecDepth 100000 in
theorem eventSorts_lifted (os : Os) (started : os.Started) (H : Type) (enc : TypeId × Value → H) :
    ReturnsInHanded {} Tryd.checked os 5 .any (fun w args => (Rows.eventSortsSpec.pre enc Tryd.prog Tryd.f5 Rows.eventSortsRow.domain false w args ∧ laidMetH Tryd.prog Rows.eventSortsRow.laid w) ∧ sizedMet enc Tryd.prog Tryd.f5 (OpenSpec.ofChange Rows.eventSortsSpec) false w args) (Rows.eventSortsSpec.post enc Tryd.prog Tryd.f5 false true false false) := by
  refine returnsInHanded_of_change_and (C := Tryd.checked) (X := fun w _ => laidMetH Tryd.prog Rows.eventSortsRow.laid w) (fun _ _ _ hh h => h.of_heap hh) eventSorts_own started (by kernel_rfl) Tryd.func5
    (ChangeSpec.witness_shaped (enc := enc) (C := Tryd.checked) (os := os) (X := fun w _ => laidMetH Tryd.prog Rows.eventSortsRow.laid w) false (World.laidAll Tryd.prog os Rows.eventSortsRow.laid) #[.slice none 0 0] 8 (World.laidAll_os _ _ _)
      (World.shaped_of_ZipB (by kernel_rfl) (by kernel_rfl)) (by kernel_rfl) (by kernel_rfl) (by kernel_rfl)
      (by rw [MakeChecks.laidMetH_plain _ _ _ (by kernel_rfl)]; exact laidMet_laidAll _ (by kernel_rfl) (by kernel_rfl))) ?_
  intro W base args ds gs before hval0 hW hcnd hsz0 _ _
  have hsz : (DataW.weightsEach Tryd.prog (Tryd.f5.params.toList ++ Rows.eventSortsSpec.plain.varTypes Tryd.prog) (ds ++ gs)).all (· ≤ reachBytes) = true := hsz0
  have hval : ∀ (j : Nat) t v, Tryd.f5.params[j]? = some t → args[j]? = some v → Value.okWide Tryd.prog W .any base t v := hval0
  have hW' := hW
  obtain ⟨p, q, hA0, hV, rfl, hfz, hnd⟩ := hW
  have hA : DataW.TrodAll enc Tryd.prog W 0 (fun _ => true) true Tryd.f5.params.toList args.toList ds p := hA0
  rw [Tryd.params5] at hA hval hsz
  obtain ⟨v0, vs0, d0, ds0, p0, q0, hargs, rfl, rfl, h0, r0⟩ := trodAll_cons hA
  obtain ⟨rfl, rfl, rfl⟩ := trodAll_nil r0
  obtain rfl : args = #[v0] := by cases args; simp_all
  obtain ⟨rfl, rfl⟩ := trodVars_none hV
  clear hA0 hval0 hsz0
  simp only [List.append_nil] at hW'
  have hlt : ∀ x ∈ p0, x.block < W.heap.size := fun x hx => by simpa using hW'.lt x (by simpa using hx)
  have hwt : ∀ (j : Nat) t d, Tryd.f5.params.toList[j]? = some t → [d0][j]? = some d → ∀ m ∈ DataW.weights Tryd.prog t d, m ≤ 140737488351232 := by
    intro j t d ht hd m hm
    rw [Tryd.params5] at ht
    have hj : j < [d0].length := (List.getElem?_eq_some_iff.1 hd).1
    have hjt : j < (#[31] : Array TypeId).toList.length := (List.getElem?_eq_some_iff.1 ht).1
    have := List.all_eq_true.1 hsz m (DataW.weights_mem_each (j := j) (t := t) (d := d) (by rw [List.getElem?_append_left hjt]; exact ht) (by rw [List.getElem?_append_left (by simpa using hj)]; simpa using hd) m hm)
    rw [eventSorts_reach] at this
    exact of_decide_eq_true this
  have fin : Calls Tryd.prog 5 #[v0] W (fun e w' => e = .returned (.bool true) ∧ Below W.heap.size W w') →
      Calls Tryd.prog 5 #[v0] W fun e W' => ∃ v, e = Ending.returned v ∧ Rows.eventSortsSpec.post enc Tryd.checked.prog Tryd.f5 false true false false W #[v0] v W' := fun hc => by
    refine hc.mono fun e W' ⟨he, hb⟩ => ?_
    subst he
    refine ⟨_, rfl, _, _, _, [] ++ [], p0 ++ ([]), [], hW', ?_, ?_, rfl, hb.frame _, fun h => by cases h⟩
    · exact trodAll_cons_mk (shut_bool Tryd.underlying4 true) trodAll_mk0
    · exact (trodAll_cons_mk (Below.trod eventSorts_laidOut (by kernel_rfl) (of_decide_eq_true (by kernel_rfl)) h0 hb fun x hx => hlt x (by simp [hx])) trodAll_mk0)
  apply fin
  clear fin hlt hW' hnd hfz
  obtain ⟨z0, b0, c0, l0, rfl, hl0, hm0, hI0⟩ := matches_in (hval 0 31 v0 rfl rfl) h0 (hwt 0 31 _ (by rw [Tryd.params5]; rfl) rfl)
  refine law_run Tryd.func5 rfl (by decide) (eventSorts_ob z0 b0 c0 l0 (fun m hm => (hm0 m hm).1) (by omega)) ?_ ?_ rfl
  · refine hsat_ents fun p hp => ?_
    simp only [List.mem_cons, List.not_mem_nil, or_false] at hp
    rcases hp with rfl | rfl | rfl
    · exact ⟨rfl, hI0⟩
    · exact ⟨rfl, heads_at hm0⟩
    · exact ⟨rfl, rows_at hm0⟩
  · refine nowr_wins fun p hp => ?_
    simp only [List.mem_cons, List.not_mem_nil, or_false] at hp
    rcases hp with rfl | rfl | rfl <;> rfl

theorem eventSorts_row : Rows.EventSortsSaid :=
  OpenClaim.holds_of_wide 5 Tryd.f5 rfl rfl rfl rfl rfl rfl rfl ⟨rfl, rfl, rfl, rfl, rfl⟩ rfl rfl rfl rfl rfl (by kernel_rfl) Tryd.func5 (by kernel_rfl)
    (of_decide_eq_true (by kernel_rfl)) (by unfold Func.isWrapper; first | (rw [if_pos (by decide +kernel)]; kernel_rfl) | (rw [if_neg (by decide +kernel)]; exact ⟨rfl, rfl⟩))
    (fun os started H enc _ => eventSorts_lifted os started H enc)
theorem eventSorts_proved : Rows.EventSortsCardSaid :=
  Claim7.holds_tied_plain_at .later [] [.data, .pinned] true (true, "a3a101f21d6adda1bdfb7f0e9f534c925b29543a31f49359b218a1e3de0807be") false eventSorts_row (fun _ h => by cases h) (by kernel_rfl) (fun _ h => by cases h) eventSorts_row_tie rfl ⟨rfl, rfl⟩ (by kernel_rfl) rfl
    (fun f fn hf hfn => by
      obtain rfl : f = 5 := Option.some.inj ((show Tryd.prog.funcNamed "weaver/weaverlaw02.EventSorts" = some 5 by kernel_rfl).symm.trans hf) |>.symm
      obtain rfl : fn = Tryd.f5 := (Option.some.inj (Tryd.func5.symm.trans hfn)).symm
      exact ⟨by kernel_rfl, fun j t ht => by
        rw [Tryd.params5] at ht
        have hm : t ∈ [31] := by simpa using Array.mem_of_getElem? ht
        have hall : ([31].all fun u => !Tryd.prog.wantsStandIn u) = true := by kernel_rfl
        exact (show Tryd.prog.wantsStandIn t = false by simpa using List.all_eq_true.1 hall t hm)⟩)
    (by kernel_rfl)
#print axioms eventSorts_proved
end Go.Proofs.YtbcnpklmhgcenaaDoor

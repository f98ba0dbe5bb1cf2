/- EventMatches: the row: the law's walk, and that its arguments read as they did. Own work, after the guide's template. -/
import Derived.Test.YtbcnpklmhgcenaaDoorRows
import Derived.Test.YtbcnpklmhgcenaaDoorEM
import Derived.Test.YtbcnpklmhgcenaaDoorF7
import Derived.Test.YtbcnpklmhgcenaaDoorSyR
import Derived.Test.YtbcnpklmhgcenaaDoorCards
import Derived.Test.YtbcnpklmhgcenaaDoorTie
import Derived.LaidMore
import Derived.Lay
import Derived.SevenTiedAt
import Derived.Stop.Joined
namespace Go.Proofs.YtbcnpklmhgcenaaDoor
open Go.ChangeShapes Go.WideShapes Go.ChangeAt Go.RowKit Go.Sy Go.Ev
open Go.ChangeMaps (open_string shut_string)
set_option linter.unusedVariables false
set_option linter.unusedSimpArgs false

theorem eventMatches_own : ownKnob Tryd.prog.godebug = none := by kernel_rfl
theorem eventMatches_laidOut : laidOutB Tryd.prog = true := by kernel_rfl
theorem eventMatches_reach : reachBytes = 140737488351232 := by decide

set_option maxRecDepth 100000 in
theorem eventMatches_lifted (os : Os) (started : os.Started) (H : Type) (enc : TypeId × Value → H) :
    ReturnsInHanded {} Tryd.checked os 8 .any (fun w args => (Rows.eventMatchesSpec.pre enc Tryd.prog Tryd.f8 Rows.eventMatchesRow.domain false w args ∧ laidMetH Tryd.prog Rows.eventMatchesRow.laid w) ∧ sizedMet enc Tryd.prog Tryd.f8 (OpenSpec.ofChange Rows.eventMatchesSpec) false w args) (Rows.eventMatchesSpec.post enc Tryd.prog Tryd.f8 false true false false) := by
  refine returnsInHanded_of_change_and (C := Tryd.checked) (X := fun w _ => laidMetH Tryd.prog Rows.eventMatchesRow.laid w) (fun _ _ _ hh h => h.of_heap hh) eventMatches_own started (by kernel_rfl) Tryd.func8
    (ChangeSpec.witness_shaped (enc := enc) (C := Tryd.checked) (os := os) (X := fun w _ => laidMetH Tryd.prog Rows.eventMatchesRow.laid w) false (World.laidAll Tryd.prog os Rows.eventMatchesRow.laid) #[.agg #[.string ByteArray.empty, .slice none 0 0], .string ByteArray.empty] 8 (World.laidAll_os _ _ _)
      (World.shaped_of_ZipB (by kernel_rfl) (by kernel_rfl)) (by kernel_rfl) (by kernel_rfl) (by kernel_rfl)
      (by rw [MakeChecks.laidMetH_plain _ _ _ (by kernel_rfl)]; exact laidMet_laidAll _ (by kernel_rfl) (by kernel_rfl))) ?_
  intro W base args ds gs before hval0 hW hcnd hsz0 _ _
  have hsz : (DataW.weightsEach Tryd.prog (Tryd.f8.params.toList ++ Rows.eventMatchesSpec.plain.varTypes Tryd.prog) (ds ++ gs)).all (· ≤ reachBytes) = true := hsz0
  have hval : ∀ (j : Nat) t v, Tryd.f8.params[j]? = some t → args[j]? = some v → Value.okWide Tryd.prog W .any base t v := hval0
  have hW' := hW
  obtain ⟨p, q, hA0, hV, rfl, hfz, hnd⟩ := hW
  have hA : DataW.TrodAll enc Tryd.prog W 0 (fun _ => true) true Tryd.f8.params.toList args.toList ds p := hA0
  rw [Tryd.params8] at hA hval hsz
  obtain ⟨v0, vs0, d0, ds0, p0, q0, hargs, rfl, rfl, h0, r0⟩ := trodAll_cons hA
  obtain ⟨v1, vs1, d1, ds1, p1, q1, rfl, rfl, rfl, h1, r1⟩ := trodAll_cons r0
  obtain ⟨rfl, rfl, rfl⟩ := trodAll_nil r1
  obtain rfl : args = #[v0, v1] := by cases args; simp_all
  obtain ⟨rfl, rfl⟩ := trodVars_none hV
  clear hA0 hval0 hsz0
  simp only [List.append_nil] at hW'
  have hlt : ∀ x ∈ p0 ++ p1, x.block < W.heap.size := fun x hx => by simpa using hW'.lt x (by simpa using hx)
  have hwt : ∀ (j : Nat) t d, Tryd.f8.params.toList[j]? = some t → [d0, d1][j]? = some d → ∀ m ∈ DataW.weights Tryd.prog t d, m ≤ 140737488351232 := by
    intro j t d ht hd m hm
    rw [Tryd.params8] at ht
    have hj : j < [d0, d1].length := (List.getElem?_eq_some_iff.1 hd).1
    have hjt : j < (#[24, 9] : Array TypeId).toList.length := (List.getElem?_eq_some_iff.1 ht).1
    have := List.all_eq_true.1 hsz m (DataW.weights_mem_each (j := j) (t := t) (d := d) (by rw [List.getElem?_append_left hjt]; exact ht) (by rw [List.getElem?_append_left (by simpa using hj)]; simpa using hd) m hm)
    rw [eventMatches_reach] at this
    exact of_decide_eq_true this
  have fin : Calls Tryd.prog 8 #[v0, v1] W (fun e w' => e = .returned (.bool true) ∧ Below W.heap.size W w') →
      Calls Tryd.prog 8 #[v0, v1] W fun e W' => ∃ v, e = Ending.returned v ∧ Rows.eventMatchesSpec.post enc Tryd.checked.prog Tryd.f8 false true false false W #[v0, v1] v W' := fun hc => by
    refine hc.mono fun e W' ⟨he, hb⟩ => ?_
    subst he
    refine ⟨_, rfl, _, _, _, [] ++ [], p0 ++ (p1 ++ ([])), [], hW', ?_, ?_, rfl, hb.frame _, fun h => by cases h⟩
    · exact trodAll_cons_mk (shut_bool Tryd.underlying4 true) trodAll_mk0
    · exact (trodAll_cons_mk (Below.trod eventMatches_laidOut (by kernel_rfl) (of_decide_eq_true (by kernel_rfl)) h0 hb fun x hx => hlt x (by simp [hx])) (trodAll_cons_mk (Below.trod eventMatches_laidOut (by kernel_rfl) (of_decide_eq_true (by kernel_rfl)) h1 hb fun x hx => hlt x (by simp [hx])) trodAll_mk0))
  apply fin
  clear fin hlt hW' hnd hfz
  obtain ⟨m0, rfl, hm0, ha0, hb0⟩ := match_in (hval 0 24 v0 rfl rfl) h0 (hwt 0 24 _ (by rw [Tryd.params8]; rfl) rfl)
  obtain ⟨a1, rfl, rfl, rfl, w1⟩ := open_string Tryd.underlying9 (hval 1 9 v1 rfl rfl) h1
  have hs1 : a1.data.toList.length ≤ 140737488351232 := hwt 1 9 _ (by rw [Tryd.params8]; rfl) rfl _ (by simp [DataW.weights])
  obtain ⟨s1, es1⟩ : ∃ s, a1.data.toList = s := ⟨_, rfl⟩
  rw [es1] at hs1
  have ev1 : Value.string a1 = (SV.str s1).den := by rw [← es1, den_str]
  rw [ev1]
  refine law_run Tryd.func8 rfl (by decide) (eventMatches_ob m0 hm0 s1 hs1) ?_ ?_ rfl
  · refine hsat_ents fun p hp => ?_
    simp only [List.mem_cons, List.not_mem_nil, or_false] at hp
    rcases hp with rfl | rfl
    · exact ⟨rfl, ha0⟩
    · exact ⟨rfl, hb0⟩
  · refine nowr_wins fun p hp => ?_
    simp only [List.mem_cons, List.not_mem_nil, or_false] at hp
    rcases hp with rfl | rfl <;> rfl

theorem eventMatches_row : Rows.EventMatchesSaid :=
  OpenClaim.holds_of_wide 8 Tryd.f8 rfl rfl rfl rfl rfl rfl rfl ⟨rfl, rfl, rfl, rfl, rfl⟩ rfl rfl rfl rfl rfl (by kernel_rfl) Tryd.func8 (by kernel_rfl)
    (of_decide_eq_true (by kernel_rfl)) (by unfold Func.isWrapper; first | (rw [if_pos (by decide +kernel)]; kernel_rfl) | (rw [if_neg (by decide +kernel)]; exact ⟨rfl, rfl⟩))
    (fun os started H enc _ => eventMatches_lifted os started H enc)
theorem eventMatches_proved : Rows.EventMatchesCardSaid :=
  Claim7.holds_tied_plain_at .later [] [.data, .pinned] true (true, "a3a101f21d6adda1bdfb7f0e9f534c925b29543a31f49359b218a1e3de0807be") false eventMatches_row (fun _ h => by cases h) (by kernel_rfl) (fun _ h => by cases h) eventMatches_row_tie rfl ⟨rfl, rfl⟩ (by kernel_rfl) rfl
    (fun f fn hf hfn => by
      obtain rfl : f = 8 := Option.some.inj ((show Tryd.prog.funcNamed "weaver/weaverlaw02.EventMatches" = some 8 by kernel_rfl).symm.trans hf) |>.symm
      obtain rfl : fn = Tryd.f8 := (Option.some.inj (Tryd.func8.symm.trans hfn)).symm
      exact ⟨by kernel_rfl, fun j t ht => by
        rw [Tryd.params8] at ht
        have hm : t ∈ [24, 9] := by simpa using Array.mem_of_getElem? ht
        have hall : ([24, 9].all fun u => !Tryd.prog.wantsStandIn u) = true := by kernel_rfl
        exact (show Tryd.prog.wantsStandIn t = false by simpa using List.all_eq_true.1 hall t hm)⟩)
    (by kernel_rfl)
#print axioms eventMatches_proved
end Go.Proofs.YtbcnpklmhgcenaaDoor

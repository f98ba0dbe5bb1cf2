/- EventBack: the row: the law's walk, and that its arguments read as they did. Own work, after the guide's template. -/
import Derived.Test.YtbcnpklmhgcenaaDoorRows
import Derived.Test.YtbcnpklmhgcenaaDoorER
import Derived.Test.YtbcnpklmhgcenaaDoorEM
import Derived.Test.YtbcnpklmhgcenaaDoorF4
import Derived.Test.YtbcnpklmhgcenaaDoorSyR
import Derived.Test.YtbcnpklmhgcenaaDoorCards
import Derived.Test.YtbcnpklmhgcenaaDoorTie
import Derived.LaidMore
import Derived.Lay
import Derived.SevenTiedAt
import Derived.Stop.Joined
namespace Go.Proofs.YtbcnpklmhgcenaaDoor
open Go.ChangeShapes Go.WideShapes Go.ChangeAt Go.RowKit Go.Sy Go.Ev
open Go.ChangeMaps (open_string shut_string)
set_option linter.unusedVariables false
set_option linter.unusedSimpArgs false

def eventBack_ks0 : List CK := [.s, .s, .i .i64, .i .i64, .i .i64, .i .i64, .s]
theorem eventBack_k0 : kindsT Tryd.prog 12 40 = some eventBack_ks0 := by kernel_rfl
theorem eventBack_sz0 : szOf Tryd.prog 40 = some 7 := by kernel_rfl
theorem eventBack_own : ownKnob Tryd.prog.godebug = none := by kernel_rfl
theorem eventBack_laidOut : laidOutB Tryd.prog = true := by kernel_rfl
theorem eventBack_reach : reachBytes = 140737488351232 := by decide

set_option maxRecDepth 100000 in
theorem eventBack_lifted (os : Os) (started : os.Started) (H : Type) (enc : TypeId × Value → H) :
    ReturnsInHanded {} Tryd.checked os 9 .any (fun w args => (Rows.eventBackSpec.pre enc Tryd.prog Tryd.f9 Rows.eventBackRow.domain false w args ∧ laidMetH Tryd.prog Rows.eventBackRow.laid w) ∧ sizedMet enc Tryd.prog Tryd.f9 (OpenSpec.ofChange Rows.eventBackSpec) false w args) (Rows.eventBackSpec.post enc Tryd.prog Tryd.f9 false true false false) := by
  refine returnsInHanded_of_change_and (C := Tryd.checked) (X := fun w _ => laidMetH Tryd.prog Rows.eventBackRow.laid w) (fun _ _ _ hh h => h.of_heap hh) eventBack_own started (by kernel_rfl) Tryd.func9
    (ChangeSpec.witness_shaped (enc := enc) (C := Tryd.checked) (os := os) (X := fun w _ => laidMetH Tryd.prog Rows.eventBackRow.laid w) false (World.laidAll Tryd.prog os Rows.eventBackRow.laid) #[.agg #[.string ByteArray.empty, .string ByteArray.empty, .int .i64 0, .int .i64 0, .int .i64 0, .int .i64 0, .string ByteArray.empty], .agg #[.string ByteArray.empty, .slice none 0 0], .string ByteArray.empty] 8 (World.laidAll_os _ _ _)
      (World.shaped_of_ZipB (by kernel_rfl) (by kernel_rfl)) (by kernel_rfl) (by kernel_rfl) (by kernel_rfl)
      (by rw [MakeChecks.laidMetH_plain _ _ _ (by kernel_rfl)]; exact laidMet_laidAll _ (by kernel_rfl) (by kernel_rfl))) ?_
  intro W base args ds gs before hval0 hW hcnd hsz0 _ _
  have hsz : (DataW.weightsEach Tryd.prog (Tryd.f9.params.toList ++ Rows.eventBackSpec.plain.varTypes Tryd.prog) (ds ++ gs)).all (· ≤ reachBytes) = true := hsz0
  have hval : ∀ (j : Nat) t v, Tryd.f9.params[j]? = some t → args[j]? = some v → Value.okWide Tryd.prog W .any base t v := hval0
  have hW' := hW
  obtain ⟨p, q, hA0, hV, rfl, hfz, hnd⟩ := hW
  have hA : DataW.TrodAll enc Tryd.prog W 0 (fun _ => true) true Tryd.f9.params.toList args.toList ds p := hA0
  rw [Tryd.params9] at hA hval hsz
  obtain ⟨v0, vs0, d0, ds0, p0, q0, hargs, rfl, rfl, h0, r0⟩ := trodAll_cons hA
  obtain ⟨v1, vs1, d1, ds1, p1, q1, rfl, rfl, rfl, h1, r1⟩ := trodAll_cons r0
  obtain ⟨v2, vs2, d2, ds2, p2, q2, rfl, rfl, rfl, h2, r2⟩ := trodAll_cons r1
  obtain ⟨rfl, rfl, rfl⟩ := trodAll_nil r2
  obtain rfl : args = #[v0, v1, v2] := by cases args; simp_all
  obtain ⟨rfl, rfl⟩ := trodVars_none hV
  clear hA0 hval0 hsz0
  simp only [List.append_nil] at hW'
  have hlt : ∀ x ∈ p0 ++ p1 ++ p2, x.block < W.heap.size := fun x hx => by simpa using hW'.lt x (by simpa using hx)
  have hwt : ∀ (j : Nat) t d, Tryd.f9.params.toList[j]? = some t → [d0, d1, d2][j]? = some d → ∀ m ∈ DataW.weights Tryd.prog t d, m ≤ 140737488351232 := by
    intro j t d ht hd m hm
    rw [Tryd.params9] at ht
    have hj : j < [d0, d1, d2].length := (List.getElem?_eq_some_iff.1 hd).1
    have hjt : j < (#[40, 24, 9] : Array TypeId).toList.length := (List.getElem?_eq_some_iff.1 ht).1
    have := List.all_eq_true.1 hsz m (DataW.weights_mem_each (j := j) (t := t) (d := d) (by rw [List.getElem?_append_left hjt]; exact ht) (by rw [List.getElem?_append_left (by simpa using hj)]; simpa using hd) m hm)
    rw [eventBack_reach] at this
    exact of_decide_eq_true this
  have fin : Calls Tryd.prog 9 #[v0, v1, v2] W (fun e w' => e = .returned (.bool true) ∧ Below W.heap.size W w') →
      Calls Tryd.prog 9 #[v0, v1, v2] W fun e W' => ∃ v, e = Ending.returned v ∧ Rows.eventBackSpec.post enc Tryd.checked.prog Tryd.f9 false true false false W #[v0, v1, v2] v W' := fun hc => by
    refine hc.mono fun e W' ⟨he, hb⟩ => ?_
    subst he
    refine ⟨_, rfl, _, _, _, [] ++ [], p0 ++ (p1 ++ (p2 ++ ([]))), [], hW', ?_, ?_, rfl, hb.frame _, fun h => by cases h⟩
    · exact trodAll_cons_mk (shut_bool Tryd.underlying4 true) trodAll_mk0
    · exact (trodAll_cons_mk (Below.trod eventBack_laidOut (by kernel_rfl) (of_decide_eq_true (by kernel_rfl)) h0 hb fun x hx => hlt x (by simp [hx])) (trodAll_cons_mk (Below.trod eventBack_laidOut (by kernel_rfl) (of_decide_eq_true (by kernel_rfl)) h1 hb fun x hx => hlt x (by simp [hx])) (trodAll_cons_mk (Below.trod eventBack_laidOut (by kernel_rfl) (of_decide_eq_true (by kernel_rfl)) h2 hb fun x hx => hlt x (by simp [hx])) trodAll_mk0)))
  apply fin
  clear fin hlt hW' hnd hfz
  obtain ⟨cs0, rfl, okc0⟩ := open_agg (ks := eventBack_ks0) (by kernel_rfl) eventBack_k0 eventBack_sz0 140737488351232 (hval 0 40 v0 rfl rfl) h0 (hwt 0 40 _ (by rw [Tryd.params9]; rfl) rfl)
  obtain ⟨x0, hx0, hn0, rfl⟩ := ev_in okc0
  obtain ⟨m1, rfl, hm1, ha1, hb1⟩ := match_in (hval 1 24 v1 rfl rfl) h1 (hwt 1 24 _ (by rw [Tryd.params9]; rfl) rfl)
  obtain ⟨a2, rfl, rfl, rfl, w2⟩ := open_string Tryd.underlying9 (hval 2 9 v2 rfl rfl) h2
  have hs2 : a2.data.toList.length ≤ 140737488351232 := hwt 2 9 _ (by rw [Tryd.params9]; rfl) rfl _ (by simp [DataW.weights])
  obtain ⟨s2, es2⟩ : ∃ s, a2.data.toList = s := ⟨_, rfl⟩
  rw [es2] at hs2
  have ev2 : Value.string a2 = (SV.str s2).den := by rw [← es2, den_str]
  rw [ev2]
  refine law_run Tryd.func9 rfl (by decide) (eventBack_ob x0 hx0 hn0 m1 hm1 s2 hs2) ?_ ?_ rfl
  · refine hsat_ents fun p hp => ?_
    simp only [List.mem_cons, List.not_mem_nil, or_false] at hp
    rcases hp with rfl | rfl
    · exact ⟨rfl, ha1⟩
    · exact ⟨rfl, hb1⟩
  · refine nowr_wins fun p hp => ?_
    simp only [List.mem_cons, List.not_mem_nil, or_false] at hp
    rcases hp with rfl | rfl <;> rfl

theorem eventBack_row : Rows.EventBackSaid :=
  OpenClaim.holds_of_wide 9 Tryd.f9 rfl rfl rfl rfl rfl rfl rfl ⟨rfl, rfl, rfl, rfl, rfl⟩ rfl rfl rfl rfl rfl (by kernel_rfl) Tryd.func9 (by kernel_rfl)
    (of_decide_eq_true (by kernel_rfl)) (by unfold Func.isWrapper; first | (rw [if_pos (by decide +kernel)]; kernel_rfl) | (rw [if_neg (by decide +kernel)]; exact ⟨rfl, rfl⟩))
    (fun os started H enc _ => eventBack_lifted os started H enc)
theorem eventBack_proved : Rows.EventBackCardSaid :=
  Claim7.holds_tied_plain_at .later [] [.data, .pinned] true (true, "a3a101f21d6adda1bdfb7f0e9f534c925b29543a31f49359b218a1e3de0807be") false eventBack_row (fun _ h => by cases h) (by kernel_rfl) (fun _ h => by cases h) eventBack_row_tie rfl ⟨rfl, rfl⟩ (by kernel_rfl) rfl
    (fun f fn hf hfn => by
      obtain rfl : f = 9 := Option.some.inj ((show Tryd.prog.funcNamed "weaver/weaverlaw02.EventBack" = some 9 by kernel_rfl).symm.trans hf) |>.symm
      obtain rfl : fn = Tryd.f9 := (Option.some.inj (Tryd.func9.symm.trans hfn)).symm
      exact ⟨by kernel_rfl, fun j t ht => by
        rw [Tryd.params9] at ht
        have hm : t ∈ [40, 24, 9] := by simpa using Array.mem_of_getElem? ht
        have hall : ([40, 24, 9].all fun u => !Tryd.prog.wantsStandIn u) = true := by kernel_rfl
        exact (show Tryd.prog.wantsStandIn t = false by simpa using List.all_eq_true.1 hall t hm)⟩)
    (by kernel_rfl)
#print axioms eventBack_proved
end Go.Proofs.YtbcnpklmhgcenaaDoor

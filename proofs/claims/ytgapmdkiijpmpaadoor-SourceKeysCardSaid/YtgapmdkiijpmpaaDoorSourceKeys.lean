/- SourceKeys: the row: the law's walk, and that its arguments read as they did. Own work, after the guide's template. -/
import Derived.Test.YtgapmdkiijpmpaaDoorRows
import Derived.Test.YtgapmdkiijpmpaaDoorS9
import Derived.Test.YtgapmdkiijpmpaaDoorSR
import Derived.Test.YtgapmdkiijpmpaaDoorSR2
import Derived.Test.YtgapmdkiijpmpaaDoorSyR
import Derived.Test.YtgapmdkiijpmpaaDoorCards
import Derived.Test.YtgapmdkiijpmpaaDoorTie
import Derived.LaidMore
import Derived.Lay
import Derived.SevenTiedAt
import Derived.Stop.Joined
namespace Go.Proofs.YtgapmdkiijpmpaaDoor
open Go.ChangeShapes Go.WideShapes Go.ChangeAt Go.RowKit Go.Sy
open Go.ChangeMaps (open_string shut_string)
set_option linter.unusedVariables false
set_option linter.unusedSimpArgs false

def sourceKeys_ks1 : List CK := [.s, .s, .i .i64, .i .i64, .i .i64, .i .i64, .s]
theorem sourceKeys_k1 : kindsT Tryd.prog 12 34 = some sourceKeys_ks1 := by kernel_rfl
def sourceKeys_ks2 : List CK := [.i .i64]
theorem sourceKeys_k2 : kindsT Tryd.prog 12 3 = some sourceKeys_ks2 := by kernel_rfl
theorem sourceKeys_own : ownKnob Tryd.prog.godebug = none := by kernel_rfl
theorem sourceKeys_laidOut : laidOutB Tryd.prog = true := by kernel_rfl
theorem sourceKeys_sz1 : szOf Tryd.prog 34 = some 7 := by kernel_rfl
theorem sourceKeys_by1 : Tryd.prog.bytesOf 34 = 80 := by kernel_rfl
theorem sourceKeys_sz2 : szOf Tryd.prog 3 = some 1 := by kernel_rfl
theorem sourceKeys_by2 : Tryd.prog.bytesOf 3 = 8 := by kernel_rfl
theorem sourceKeys_reach : reachBytes = 140737488351232 := by decide

set_option maxRecDepth 100000 in
theorem sourceKeys_lifted (os : Os) (started : os.Started) (H : Type) (enc : TypeId × Value → H) :
    ReturnsInHanded {} Tryd.checked os 6 .any (fun w args => (Rows.sourceKeysSpec.pre enc Tryd.prog Tryd.f6 Rows.sourceKeysRow.domain false w args ∧ laidMetH Tryd.prog Rows.sourceKeysRow.laid w) ∧ sizedMet enc Tryd.prog Tryd.f6 (OpenSpec.ofChange Rows.sourceKeysSpec) false w args) (Rows.sourceKeysSpec.post enc Tryd.prog Tryd.f6 false true false false) := by
  refine returnsInHanded_of_change_and (C := Tryd.checked) (X := fun w _ => laidMetH Tryd.prog Rows.sourceKeysRow.laid w) (fun _ _ _ hh h => h.of_heap hh) sourceKeys_own started (by kernel_rfl) Tryd.func6
    (ChangeSpec.witness_shaped (enc := enc) (C := Tryd.checked) (os := os) (X := fun w _ => laidMetH Tryd.prog Rows.sourceKeysRow.laid w) false (World.laidAll Tryd.prog os Rows.sourceKeysRow.laid) #[.int .i64 0, .slice none 0 0, .slice none 0 0] 8 (World.laidAll_os _ _ _)
      (World.shaped_of_ZipB (by kernel_rfl) (by kernel_rfl)) (by kernel_rfl) (by kernel_rfl) (by kernel_rfl)
      (by rw [MakeChecks.laidMetH_plain _ _ _ (by kernel_rfl)]; exact laidMet_laidAll _ (by kernel_rfl) (by kernel_rfl))) ?_
  intro W base args ds gs before hval0 hW hcnd hsz0 _ _
  have hsz : (DataW.weightsEach Tryd.prog (Tryd.f6.params.toList ++ Rows.sourceKeysSpec.plain.varTypes Tryd.prog) (ds ++ gs)).all (· ≤ reachBytes) = true := hsz0
  have hval : ∀ (j : Nat) t v, Tryd.f6.params[j]? = some t → args[j]? = some v → Value.okWide Tryd.prog W .any base t v := hval0
  have hW' := hW
  obtain ⟨p, q, hA0, hV, rfl, hfz, hnd⟩ := hW
  have hA : DataW.TrodAll enc Tryd.prog W 0 (fun _ => true) true Tryd.f6.params.toList args.toList ds p := hA0
  rw [Tryd.params6] at hA hval hsz
  obtain ⟨v0, vs0, d0, ds0, p0, q0, hargs, rfl, rfl, h0, r0⟩ := trodAll_cons hA
  obtain ⟨v1, vs1, d1, ds1, p1, q1, rfl, rfl, rfl, h1, r1⟩ := trodAll_cons r0
  obtain ⟨v2, vs2, d2, ds2, p2, q2, rfl, rfl, rfl, h2, r2⟩ := trodAll_cons r1
  obtain ⟨rfl, rfl, rfl⟩ := trodAll_nil r2
  obtain rfl : args = #[v0, v1, v2] := by cases args; simp_all
  obtain ⟨rfl, rfl⟩ := trodVars_none hV
  clear hA0 hval0 hsz0
  simp only [List.append_nil] at hW'
  have hlt : ∀ x ∈ p0 ++ p1 ++ p2, x.block < W.heap.size := fun x hx => by simpa using hW'.lt x (by simpa using hx)
  have hwt : ∀ (j : Nat) t d, Tryd.f6.params.toList[j]? = some t → [d0, d1, d2][j]? = some d → ∀ m ∈ DataW.weights Tryd.prog t d, m ≤ 140737488351232 := by
    intro j t d ht hd m hm
    rw [Tryd.params6] at ht
    have hj : j < [d0, d1, d2].length := (List.getElem?_eq_some_iff.1 hd).1
    have hjt : j < (#[3, 22, 29] : Array TypeId).toList.length := (List.getElem?_eq_some_iff.1 ht).1
    have := List.all_eq_true.1 hsz m (DataW.weights_mem_each (j := j) (t := t) (d := d) (by rw [List.getElem?_append_left hjt]; exact ht) (by rw [List.getElem?_append_left (by simpa using hj)]; simpa using hd) m hm)
    rw [sourceKeys_reach] at this
    exact of_decide_eq_true this
  have fin : Calls Tryd.prog 6 #[v0, v1, v2] W (fun e w' => e = .returned (.bool true) ∧ Below W.heap.size W w') →
      Calls Tryd.prog 6 #[v0, v1, v2] W fun e W' => ∃ v, e = Ending.returned v ∧ Rows.sourceKeysSpec.post enc Tryd.checked.prog Tryd.f6 false true false false W #[v0, v1, v2] v W' := fun hc => by
    refine hc.mono fun e W' ⟨he, hb⟩ => ?_
    subst he
    refine ⟨_, rfl, _, _, _, [] ++ [], p0 ++ (p1 ++ (p2 ++ ([]))), [], hW', ?_, ?_, rfl, hb.frame _, fun h => by cases h⟩
    · exact trodAll_cons_mk (shut_bool Tryd.underlying4 true) trodAll_mk0
    · exact (trodAll_cons_mk (Below.trod sourceKeys_laidOut (by kernel_rfl) (of_decide_eq_true (by kernel_rfl)) h0 hb fun x hx => hlt x (by simp [hx])) (trodAll_cons_mk (Below.trod sourceKeys_laidOut (by kernel_rfl) (of_decide_eq_true (by kernel_rfl)) h1 hb fun x hx => hlt x (by simp [hx])) (trodAll_cons_mk (Below.trod sourceKeys_laidOut (by kernel_rfl) (of_decide_eq_true (by kernel_rfl)) h2 hb fun x hx => hlt x (by simp [hx])) trodAll_mk0)))
  apply fin
  clear fin hlt hW' hnd hfz
  obtain ⟨a0, rfl, rfl, rfl, w0⟩ := open_int Tryd.underlying3 (hval 0 3 v0 rfl rfl) h0
  obtain ⟨lo0, hi0⟩ : -9223372036854775808 ≤ a0 ∧ a0 ≤ 9223372036854775807 := by simpa [Lit.wf, IntKind.min, IntKind.max, IntKind.bits, IntKind.signed] using w0
  obtain ⟨z1, b1, c1, rows1, rfl, ok1, by1, room1, cell1⟩ := open_rows_room (ks := sourceKeys_ks1) Tryd.underlying22 (sourceKeys_k1) sourceKeys_sz1 140737488351232 (hval 1 22 v1 rfl rfl) h1 (hwt 1 22 _ (by rw [Tryd.params6]; rfl) rfl)
  obtain ⟨l1, el1, hI1⟩ := rows_as (en := encEv) fun r hr => ev_row (ok1 r hr)
  have hlen1 : rows1.length = l1.length := by rw [el1, List.length_map]
  have hl1 : l1.length * 80 ≤ 140737488351232 := by rw [← hlen1, ← sourceKeys_by1]; exact by1
  rw [hlen1] at room1
  rw [hlen1]
  obtain ⟨z2, b2, c2, rows2, rfl, ok2, by2, room2, cell2⟩ := open_rows_room (ks := sourceKeys_ks2) Tryd.underlying29 (sourceKeys_k2) sourceKeys_sz2 140737488351232 (hval 2 29 v2 rfl rfl) h2 (hwt 2 29 _ (by rw [Tryd.params6]; rfl) rfl)
  obtain ⟨l2, el2, hI2⟩ := rows_as (en := encInt .i64) fun r hr => int_row (ok2 r hr)
  have hlen2 : rows2.length = l2.length := by rw [el2, List.length_map]
  have hl2 : l2.length * 8 ≤ 140737488351232 := by rw [← hlen2, ← sourceKeys_by2]; exact by2
  rw [hlen2] at room2
  rw [hlen2]
  refine law_run Tryd.func6 rfl (by decide) (sourceKeys_ob a0 lo0 hi0 z1 b1 c1 l1 hI1 (by omega) z2 b2 c2 l2 hI2 (by omega)) ?_ ?_ rfl
  · refine hsat_wins fun p hp => ?_
    simp only [List.mem_cons, List.not_mem_nil, or_false] at hp
    rcases hp with rfl | rfl
    · exact ⟨rfl, blk_rows el1 (fun _ _ => rfl) cell1⟩
    · exact ⟨rfl, blk_rows el2 (fun _ _ => rfl) cell2⟩
  · refine nowr_wins fun p hp => ?_
    simp only [List.mem_cons, List.not_mem_nil, or_false] at hp
    rcases hp with rfl | rfl <;> rfl

theorem sourceKeys_row : Rows.SourceKeysSaid :=
  OpenClaim.holds_of_wide 6 Tryd.f6 rfl rfl rfl rfl rfl rfl rfl ⟨rfl, rfl, rfl, rfl, rfl⟩ rfl rfl rfl rfl rfl (by kernel_rfl) Tryd.func6 (by kernel_rfl)
    (of_decide_eq_true (by kernel_rfl)) (by unfold Func.isWrapper; first | (rw [if_pos (by decide +kernel)]; kernel_rfl) | (rw [if_neg (by decide +kernel)]; exact ⟨rfl, rfl⟩))
    (fun os started H enc _ => sourceKeys_lifted os started H enc)
theorem sourceKeys_proved : Rows.SourceKeysCardSaid :=
  Claim7.holds_tied_plain_at .later [] [.data, .pinned] true (true, "1e5fddcbd5034428f9e5ab21c7100f6a7ad95fc2eb18733dc6be81d78c225496") false sourceKeys_row (fun _ h => by cases h) (by kernel_rfl) (fun _ h => by cases h) sourceKeys_row_tie rfl ⟨rfl, rfl⟩ (by kernel_rfl) rfl
    (fun f fn hf hfn => by
      obtain rfl : f = 6 := Option.some.inj ((show Tryd.prog.funcNamed "weaver/weaverlaw05.SourceKeys" = some 6 by kernel_rfl).symm.trans hf) |>.symm
      obtain rfl : fn = Tryd.f6 := (Option.some.inj (Tryd.func6.symm.trans hfn)).symm
      exact ⟨by kernel_rfl, fun j t ht => by
        rw [Tryd.params6] at ht
        have hm : t ∈ [3, 22, 29] := by simpa using Array.mem_of_getElem? ht
        have hall : ([3, 22, 29].all fun u => !Tryd.prog.wantsStandIn u) = true := by kernel_rfl
        exact (show Tryd.prog.wantsStandIn t = false by simpa using List.all_eq_true.1 hall t hm)⟩)
    (by kernel_rfl)
#print axioms sourceKeys_proved
end Go.Proofs.YtgapmdkiijpmpaaDoor

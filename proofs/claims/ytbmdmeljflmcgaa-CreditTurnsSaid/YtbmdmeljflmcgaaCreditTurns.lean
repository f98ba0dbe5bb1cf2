/- CreditTurns: the row. Own work, after the guide's template. -/
import Derived.Test.YtbmdmeljflmcgaaRows
import Derived.Test.YtbmdmeljflmcgaaC2
import Derived.Test.YtbmdmeljflmcgaaSxR
namespace Go.Proofs.Ytbmdmeljflmcgaa
open Go.ChangeShapes Go.WideShapes Go.ChangeAt Go.RowKit Go.Sx
open Go.ChangeMaps (open_string shut_string)
set_option linter.unusedVariables false

theorem own : ownKnob Try.prog.godebug = none := by kernel_rfl
theorem laidOut : laidOutB Try.prog = true := by kernel_rfl
theorem cells9 : Try.prog.cellsOf 9 = 1 := by kernel_rfl

set_option maxRecDepth 100000 in
theorem creditTurns_lifted (os : Os) (started : os.Started) (H : Type) (enc : TypeId × Value → H) :
    ReturnsInHanded {} Try.checked os 3 .any (Rows.creditTurnsSpec.pre6 enc Try.prog Try.f3 Rows.creditTurnsRow.domain false) (Rows.creditTurnsSpec.post enc Try.prog Try.f3 false true false false) := by
  refine returnsInHanded_of_change (C := Try.checked) own started (by kernel_rfl) Try.func3
    (ChangeSpec.witness6 (enc := enc) (C := Try.checked) false ⟨#[], #[.int .i64 0, .slice none 0 0], []⟩ 8 (by kernel_rfl) (by kernel_rfl) (by kernel_rfl) (by kernel_rfl)) ?_
  intro W base args ds gs before hval0 hW hcnd _
  have hval : ∀ (j : Nat) t v, Try.f3.params[j]? = some t → args[j]? = some v → Value.okWide Try.prog W .any base t v := hval0
  have hW' := hW
  obtain ⟨p, q, hA0, hV, rfl, hfz, hnd⟩ := hW
  have hA : DataW.TrodAll enc Try.prog W 0 (fun _ => true) true Try.f3.params.toList args.toList ds p := hA0
  rw [Try.params3] at hA hval
  obtain ⟨v0, vs0, d0, ds0, p0, q0, hargs, rfl, rfl, h0, r0⟩ := trodAll_cons hA
  obtain ⟨v1, vs1, d1, ds1, p1, q1, rfl, rfl, rfl, h1, r1⟩ := trodAll_cons r0
  obtain ⟨rfl, rfl, rfl⟩ := trodAll_nil r1
  obtain rfl : args = #[v0, v1] := by cases args; simp_all
  obtain ⟨rfl, rfl⟩ := trodVars_none hV
  clear hA0 hval0
  simp only [List.append_nil] at hW'
  have hlt : ∀ x ∈ p0 ++ p1, x.block < W.heap.size := fun x hx => by simpa using hW'.lt x (by simpa using hx)
  have fin : Calls Try.prog 3 #[v0, v1] W (fun e w' => e = .returned (.bool true) ∧ Below W.heap.size W w') →
      Calls Try.prog 3 #[v0, v1] W fun e W' => ∃ v, e = Ending.returned v ∧ Rows.creditTurnsSpec.post enc Try.checked.prog Try.f3 false true false false W #[v0, v1] v W' := fun hc => by
    refine hc.mono fun e W' ⟨he, hb⟩ => ?_
    subst he
    refine ⟨_, rfl, _, _, _, [] ++ [], p0 ++ (p1 ++ []), [], hW', ?_, ?_, rfl, hb.frame _, fun h => by cases h⟩
    · exact trodAll_cons_mk (shut_bool Try.underlying4 true) trodAll_mk0
    · exact trodAll_cons_mk (Below.trod laidOut (by kernel_rfl) (of_decide_eq_true (by kernel_rfl)) h0 hb fun x hx => hlt x (by simp [hx])) (trodAll_cons_mk (Below.trod laidOut (by kernel_rfl) (of_decide_eq_true (by kernel_rfl)) h1 hb fun x hx => hlt x (by simp [hx])) trodAll_mk0)
  apply fin
  obtain ⟨a0, rfl, rfl, rfl, w0⟩ := open_int Try.underlying3 (hval 0 3 v0 rfl rfl) h0
  rcases okWide_sl Try.underlying22 (hval 1 22 v1 rfl rfl) with rfl | ⟨b1, o1, n1, c1, rfl, hc1⟩
  · exact law_run (turns_ob_nil a0 ⟨0, 0⟩) (hsat_wins fun p hp => by obtain rfl := List.mem_singleton.1 hp; exact ⟨rfl, blk_empty _ _ _⟩) (nowr_wins fun p hp => by obtain rfl := List.mem_singleton.1 hp; rfl) rfl
  obtain ⟨fuel, hf⟩ := h1
  rcases open_strings Try.underlying22 Try.underlying9 cells9 hf with ⟨hcs, hx⟩ | ⟨a, len', cap', ss, hcs, _, hl, hm, hz, hx, hcell, hws⟩
  · simp [Value.cells] at hcs
  simp [Value.cells] at hcs
  obtain ⟨rfl, rfl, rfl⟩ := hcs
  simp only [if_true] at hz
  have hsl : (strsOf ss n1).length = n1 := by simp [strsOf, hz]; omega
  have := turns_ob a0 (strsOf ss n1) ⟨b1, o1⟩ c1
  rw [hsl] at this
  refine law_run this (hsat_wins fun p hp => ?_) (nowr_wins fun p hp => ?_) (by simp [denL, SV.den])
  · obtain rfl := List.mem_singleton.1 hp
    exact ⟨rfl, blk_strs hcell⟩
  · obtain rfl := List.mem_singleton.1 hp
    rfl

theorem creditTurns_proved : Rows.CreditTurnsSaid :=
  OpenClaim.holds_of_wide 3 Try.f3 rfl rfl rfl rfl rfl rfl rfl ⟨rfl, rfl, rfl, rfl, rfl⟩ rfl rfl rfl rfl rfl (by kernel_rfl) Try.func3 (by kernel_rfl)
    (of_decide_eq_true (by kernel_rfl)) (by unfold Func.isWrapper; first | (rw [if_pos (by decide +kernel)]; kernel_rfl) | (rw [if_neg (by decide +kernel)]; exact ⟨rfl, rfl⟩))
    (fun os started H enc _ => creditTurns_lifted os started H enc)
#print axioms creditTurns_proved
end Go.Proofs.Ytbmdmeljflmcgaa

/- SY, part P: told anew before the call; a window's first rows. Own work. -/
import Derived.Test.YthimgonpkhoodaaSyO
namespace Go.Sy
set_option linter.unusedVariables false
set_option linter.unusedSimpArgs false

/-- What lies in memory told anew ahead of the call. -/
theorem FnOb.start {P : Program} {f : FuncId} {args : List SV} {H H' : SH} {K : SV → SH → Prop} (t : Tells H H') (h : FnOb P f args H' K) : FnOb P f args H K :=
  ⟨fun w hw => (h.run w (t w hw).1).mono fun v w' ⟨r, H2, he, hs, hx, hk⟩ =>
    ⟨r, H2, he, hs, ⟨hx.os, hx.tape, hx.output, hx.size, fun k hk1 hn => hx.block k hk1 (fun hwr => hn ((t w hw).2 k hwr)), fun k hk1 => (hx.sub k hk1).imp_left ((t w hw).2 k)⟩, hk⟩⟩
theorem Retell.win {b : Bs} {α : Type} {enc : α → List SV} {w : Nat} {l : List α} (l' r : List α) (h : l = l' ++ r) : Retell (b, .win enc w l) (b, .win enc w l') := by
  subst h
  intro W hW
  have hb : BlkAt W (b, .win enc w (l' ++ r)) := hW
  refine ⟨⟨fun x hx => hb.1 x (by simp [hx]), fun n v hv => hb.reads n v ?_⟩, fun k hk => ?_, fun k hk => hk⟩
  · simp only [Blk.cells, List.flatMap_append]
    rw [List.getElem?_append_left (List.getElem?_eq_some_iff.1 hv).1]; exact hv
  · refine ⟨?_, hk.2⟩
    rcases hk.1 with h | h
    · exact .inl h
    · refine .inr ⟨rfl, fun he => h.2 ?_⟩
      simp only [Blk.cells, List.flatMap_append] at he ⊢
      exact (List.append_eq_nil_iff.1 he).1
end Go.Sy

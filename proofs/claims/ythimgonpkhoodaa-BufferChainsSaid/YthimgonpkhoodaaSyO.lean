/- SY, part O: slices that are not nil. Own work. -/
import Derived.Test.YthimgonpkhoodaaSyN
namespace Go.Sy
set_option linter.unusedVariables false
set_option linter.unusedSimpArgs false
theorem nilB_room (z : Bool) (l : Nat) {c : Nat} (h : 0 < c) : nilB z l c = false := by
  unfold nilB; cases c with
  | zero => omega
  | succ c => rw [show Nat.beq (c + 1) 0 = false from rfl]; simp
/-- Where there is room, it is not nil. -/
theorem den_flag {i i' : Nat} {z z' : Bool} {b : Bs} {w j l c : Nat} (h : 0 < c) : (SV.sl i z b w j l c).den = (SV.sl i' z' b w j l c).den := by
  simp only [SV.den, nilB_room _ _ h]
theorem Retell.flag {b : Bs} {z z' : Bool} {c : Nat} {α : Type} {enc : α → List SV} {w : Nat} {l : List α} (h : 0 < c) : Retell (b, .vec z c enc w l) (b, .vec z' c enc w l) :=
  Retell.of rfl rfl rfl rfl fun W ⟨ho, hh⟩ => ⟨⟨ho, fun _ => hh (fun e => by omega)⟩, fun _ e => by omega⟩
end Go.Sy

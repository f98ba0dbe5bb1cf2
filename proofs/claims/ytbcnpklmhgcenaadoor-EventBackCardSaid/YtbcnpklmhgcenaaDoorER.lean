/- An event that came in. Own work. -/
import Derived.Test.YtbcnpklmhgcenaaDoorRows
import Derived.Test.YtbcnpklmhgcenaaDoorPe
import Derived.Test.YtbcnpklmhgcenaaDoorSyR
namespace Go.Proofs.YtbcnpklmhgcenaaDoor
open Go.ChangeShapes Go.WideShapes Go.ChangeAt Go.RowKit Go.Sy Go.Ev Go.Sp
set_option linter.unusedVariables false
set_option linter.unusedSimpArgs false
theorem ev_in {r : List Value} (h : okVs 140737488351232 [.s, .s, .i .i64, .i .i64, .i .i64, .i .i64, .s] r) : ∃ x : Evt, okE x ∧ okN x ∧ r = denL (encEv x) := by
  match r, h with
  | [.string a, .string b, .int k0 n0, .int k1 n1, .int k2 n2, .int k3 n3, .string c], ⟨h1, h2, h3, h4, h5, h6, h7, _⟩ =>
    obtain ⟨rfl, l3, u3⟩ := h3
    obtain ⟨rfl, l4, u4⟩ := h4
    obtain ⟨rfl, l5, u5⟩ := h5
    obtain ⟨rfl, l6, u6⟩ := h6
    have e1 : (-9223372036854775808 : Int) = IntKind.i64.min := by decide
    have e2 : (9223372036854775807 : Int) = IntKind.i64.max := by decide
    refine ⟨⟨a.data.toList, b.data.toList, n0, n1, n2, n3, c.data.toList⟩, ⟨h1, h2, h7⟩, ⟨⟨by rw [e1]; exact l3, by rw [e2]; exact u3⟩, ⟨by rw [e1]; exact l4, by rw [e2]; exact u4⟩, ⟨by rw [e1]; exact l5, by rw [e2]; exact u5⟩, by rw [e1]; exact l6, by rw [e2]; exact u6⟩, ?_⟩
    simp only [encEv, denL, SV.den]
end Go.Proofs.YtbcnpklmhgcenaaDoor

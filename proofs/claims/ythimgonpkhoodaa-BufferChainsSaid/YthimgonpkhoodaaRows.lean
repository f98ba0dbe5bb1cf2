/-
  No cell of these rows narrows 'for every input' (looked for: loops, veiled, ifaces, maps, wideKeys, modest, calm, conditions, laid).
  DERIVED. THE GIVEN ROWS OF THIS SEAT. 9 by the template 'for every input the law returns true; each argument reads behind the call as it read before'; 0 by the template 'total and deterministic' (their statements: YthimgonpkhoodaaTotals.lean).
  GIVEN WITH THE SEED: the statements are not yours to turn. If you find one false, say at which input.
  Laid BY PROGRAM, IN A SANDBOX (cutbox-rows.mjs): the forced cells as the released guide's own fill.sh prints them over the translation 2f9b832dc79cd5d3… (all of the seat's roots in one cut). By AI agents, Wed Nov 11 2026. No macro, syntax, notation, axiom, sorry.
-/
import Derived.Test.YthimgonpkhoodaaChecked
import GoSem.Claim
import GoSem.ClaimJoined
import GoSem.ClaimMapViews
import Derived.JoinedTies
import Derived.KernelRfl
namespace Go.Proofs.Ythimgonpkhoodaa
/- THE CELL 'sum', in the pinned program and in every row, IS THE sha256 OF THE DUMP (.gsa) THAT YthimgonpkhoodaaProg.lean LOADS. Nothing in Lean hashes anything: it is a label: what it is worth is what the hold of that sum in a sandbox is worth. -/
noncomputable def Try.pinned : Pinned := { name := "ythimgonpkhoodaa", sum := "2f9b832dc79cd5d30b1838b6ccbef56bcad6346153a25e141fe452d9eb1193be", checked := Try.checked }
namespace Rows
def none {H : Type} : Left H := { results := [], args := [] }

/-- 'weaverlaw16.BufferShares': WHATEVER THE INPUT: true; the input reads as it did. -/
def bufferSharesSpec : ChangeSpec := { name := "bufferShares", fn := fun _ => fun
  | [d] => { results := [.lit (.bool true)], args := [d] }
  | _ => none }
def bufferSharesRow : OpenClaim := { program := "ythimgonpkhoodaa", sum := "2f9b832dc79cd5d30b1838b6ccbef56bcad6346153a25e141fe452d9eb1193be", func := "weaver/weaverlaw16.BufferShares", spec := "bufferShares", plainKeys := false, apart := false }
def BufferSharesSaid : Prop := bufferSharesRow.holds Try.pinned (OpenSpec.ofChange bufferSharesSpec)

/-- ITS FALSE NEIGHBOUR: 'it returns false'. Refute it at one input. -/
def bufferSharesWrong : ChangeSpec := { name := "bufferShares", fn := fun _ => fun
  | [d] => { results := [.lit (.bool false)], args := [d] }
  | _ => none }
def BufferSharesWrongFalsely : Prop := bufferSharesRow.holds Try.pinned (OpenSpec.ofChange bufferSharesWrong)

/-- 'weaverlaw21.GateHolds': WHATEVER THE INPUT: true; the input reads as it did. -/
def gateHoldsSpec : ChangeSpec := { name := "gateHolds", fn := fun _ => fun
  | [d1, d2, d3] => { results := [.lit (.bool true)], args := [d1, d2, d3] }
  | _ => none }
def gateHoldsRow : OpenClaim := { program := "ythimgonpkhoodaa", sum := "2f9b832dc79cd5d30b1838b6ccbef56bcad6346153a25e141fe452d9eb1193be", func := "weaver/weaverlaw21.GateHolds", spec := "gateHolds", plainKeys := false, apart := false }
def GateHoldsSaid : Prop := gateHoldsRow.holds Try.pinned (OpenSpec.ofChange gateHoldsSpec)

/-- ITS FALSE NEIGHBOUR: 'it returns false'. Refute it at one input. -/
def gateHoldsWrong : ChangeSpec := { name := "gateHolds", fn := fun _ => fun
  | [d1, d2, d3] => { results := [.lit (.bool false)], args := [d1, d2, d3] }
  | _ => none }
def GateHoldsWrongFalsely : Prop := gateHoldsRow.holds Try.pinned (OpenSpec.ofChange gateHoldsWrong)

/-- 'weaverlaw21.GateAligned': WHATEVER THE INPUT: true; the input reads as it did. -/
def gateAlignedSpec : ChangeSpec := { name := "gateAligned", fn := fun _ => fun
  | [d1, d2] => { results := [.lit (.bool true)], args := [d1, d2] }
  | _ => none }
def gateAlignedRow : OpenClaim := { program := "ythimgonpkhoodaa", sum := "2f9b832dc79cd5d30b1838b6ccbef56bcad6346153a25e141fe452d9eb1193be", func := "weaver/weaverlaw21.GateAligned", spec := "gateAligned", unfollowed := true, recurses := true, plainKeys := false, apart := false }
def GateAlignedSaid : Prop := gateAlignedRow.holds Try.pinned (OpenSpec.ofChange gateAlignedSpec)

/-- ITS FALSE NEIGHBOUR: 'it returns false'. Refute it at one input. -/
def gateAlignedWrong : ChangeSpec := { name := "gateAligned", fn := fun _ => fun
  | [d1, d2] => { results := [.lit (.bool false)], args := [d1, d2] }
  | _ => none }
def GateAlignedWrongFalsely : Prop := gateAlignedRow.holds Try.pinned (OpenSpec.ofChange gateAlignedWrong)

/-- 'weaverlaw21.GateFair': WHATEVER THE INPUT: true; the input reads as it did. -/
def gateFairSpec : ChangeSpec := { name := "gateFair", fn := fun _ => fun
  | [d1, d2, d3] => { results := [.lit (.bool true)], args := [d1, d2, d3] }
  | _ => none }
def gateFairRow : OpenClaim := { program := "ythimgonpkhoodaa", sum := "2f9b832dc79cd5d30b1838b6ccbef56bcad6346153a25e141fe452d9eb1193be", func := "weaver/weaverlaw21.GateFair", spec := "gateFair", plainKeys := false, apart := false }
def GateFairSaid : Prop := gateFairRow.holds Try.pinned (OpenSpec.ofChange gateFairSpec)

/-- ITS FALSE NEIGHBOUR: 'it returns false'. Refute it at one input. -/
def gateFairWrong : ChangeSpec := { name := "gateFair", fn := fun _ => fun
  | [d1, d2, d3] => { results := [.lit (.bool false)], args := [d1, d2, d3] }
  | _ => none }
def GateFairWrongFalsely : Prop := gateFairRow.holds Try.pinned (OpenSpec.ofChange gateFairWrong)

/-- 'weaverlaw21.GatePlays': WHATEVER THE INPUT: true; the input reads as it did. -/
def gatePlaysSpec : ChangeSpec := { name := "gatePlays", fn := fun _ => fun
  | [d1, d2, d3] => { results := [.lit (.bool true)], args := [d1, d2, d3] }
  | _ => none }
def gatePlaysRow : OpenClaim := { program := "ythimgonpkhoodaa", sum := "2f9b832dc79cd5d30b1838b6ccbef56bcad6346153a25e141fe452d9eb1193be", func := "weaver/weaverlaw21.GatePlays", spec := "gatePlays", plainKeys := false, apart := false }
def GatePlaysSaid : Prop := gatePlaysRow.holds Try.pinned (OpenSpec.ofChange gatePlaysSpec)

/-- ITS FALSE NEIGHBOUR: 'it returns false'. Refute it at one input. -/
def gatePlaysWrong : ChangeSpec := { name := "gatePlays", fn := fun _ => fun
  | [d1, d2, d3] => { results := [.lit (.bool false)], args := [d1, d2, d3] }
  | _ => none }
def GatePlaysWrongFalsely : Prop := gatePlaysRow.holds Try.pinned (OpenSpec.ofChange gatePlaysWrong)

/-- 'weaverlaw16.BufferFull': WHATEVER THE INPUT: true; the input reads as it did. -/
def bufferFullSpec : ChangeSpec := { name := "bufferFull", fn := fun _ => fun
  | [d] => { results := [.lit (.bool true)], args := [d] }
  | _ => none }
def bufferFullRow : OpenClaim := { program := "ythimgonpkhoodaa", sum := "2f9b832dc79cd5d30b1838b6ccbef56bcad6346153a25e141fe452d9eb1193be", func := "weaver/weaverlaw16.BufferFull", spec := "bufferFull", inPlace := ["slices.overlaps[int]"], plainKeys := false, apart := false }
def BufferFullSaid : Prop := bufferFullRow.holds Try.pinned (OpenSpec.ofChange bufferFullSpec)

/-- ITS FALSE NEIGHBOUR: 'it returns false'. Refute it at one input. -/
def bufferFullWrong : ChangeSpec := { name := "bufferFull", fn := fun _ => fun
  | [d] => { results := [.lit (.bool false)], args := [d] }
  | _ => none }
def BufferFullWrongFalsely : Prop := bufferFullRow.holds Try.pinned (OpenSpec.ofChange bufferFullWrong)

/-- 'weaverlaw16.BufferChains': WHATEVER THE INPUT: true; the input reads as it did. -/
def bufferChainsSpec : ChangeSpec := { name := "bufferChains", fn := fun _ => fun
  | [d1, d2] => { results := [.lit (.bool true)], args := [d1, d2] }
  | _ => none }
def bufferChainsRow : OpenClaim := { program := "ythimgonpkhoodaa", sum := "2f9b832dc79cd5d30b1838b6ccbef56bcad6346153a25e141fe452d9eb1193be", func := "weaver/weaverlaw16.BufferChains", spec := "bufferChains", inPlace := ["slices.overlaps[int]"], plainKeys := false, apart := false }
def BufferChainsSaid : Prop := bufferChainsRow.holds Try.pinned (OpenSpec.ofChange bufferChainsSpec)

/-- ITS FALSE NEIGHBOUR: 'it returns false'. Refute it at one input. -/
def bufferChainsWrong : ChangeSpec := { name := "bufferChains", fn := fun _ => fun
  | [d1, d2] => { results := [.lit (.bool false)], args := [d1, d2] }
  | _ => none }
def BufferChainsWrongFalsely : Prop := bufferChainsRow.holds Try.pinned (OpenSpec.ofChange bufferChainsWrong)

/-- 'weaverlaw16.BufferPlays': WHATEVER THE INPUT: true; the input reads as it did. -/
def bufferPlaysSpec : ChangeSpec := { name := "bufferPlays", fn := fun _ => fun
  | [d] => { results := [.lit (.bool true)], args := [d] }
  | _ => none }
def bufferPlaysRow : OpenClaim := { program := "ythimgonpkhoodaa", sum := "2f9b832dc79cd5d30b1838b6ccbef56bcad6346153a25e141fe452d9eb1193be", func := "weaver/weaverlaw16.BufferPlays", spec := "bufferPlays", inPlace := ["slices.overlaps[int]"], plainKeys := false, apart := false }
def BufferPlaysSaid : Prop := bufferPlaysRow.holds Try.pinned (OpenSpec.ofChange bufferPlaysSpec)

/-- ITS FALSE NEIGHBOUR: 'it returns false'. Refute it at one input. -/
def bufferPlaysWrong : ChangeSpec := { name := "bufferPlays", fn := fun _ => fun
  | [d] => { results := [.lit (.bool false)], args := [d] }
  | _ => none }
def BufferPlaysWrongFalsely : Prop := bufferPlaysRow.holds Try.pinned (OpenSpec.ofChange bufferPlaysWrong)

/-- 'weaverlaw16.BufferStays': WHATEVER THE INPUT: true; the input reads as it did. -/
def bufferStaysSpec : ChangeSpec := { name := "bufferStays", fn := fun _ => fun
  | [d] => { results := [.lit (.bool true)], args := [d] }
  | _ => none }
def bufferStaysRow : OpenClaim := { program := "ythimgonpkhoodaa", sum := "2f9b832dc79cd5d30b1838b6ccbef56bcad6346153a25e141fe452d9eb1193be", func := "weaver/weaverlaw16.BufferStays", spec := "bufferStays", inPlace := ["slices.overlaps[int]"], plainKeys := false, apart := false }
def BufferStaysSaid : Prop := bufferStaysRow.holds Try.pinned (OpenSpec.ofChange bufferStaysSpec)

/-- ITS FALSE NEIGHBOUR: 'it returns false'. Refute it at one input. -/
def bufferStaysWrong : ChangeSpec := { name := "bufferStays", fn := fun _ => fun
  | [d] => { results := [.lit (.bool false)], args := [d] }
  | _ => none }
def BufferStaysWrongFalsely : Prop := bufferStaysRow.holds Try.pinned (OpenSpec.ofChange bufferStaysWrong)

/- THE SECOND FORM. 'bulk': how many values and letters a reading holds, each counted each time it is reached (what is shared counts as often as it is met; a slice's spare places count too). A statement '..UptoSaid' is the law's where the arguments, and the package variables that the reading takes, are together of bulk at most 1048576: NARROWER than '..Said'. Prove '..Said' where nothing that the law and all that it calls make is longer than what came in: it says more and counts as full. Else prove '..UptoSaid'. A law counts once. -/
mutual
def uptoBulk {H : Type} : DataW H → Nat
  | .lit (.string bytes) => bytes.length + 1
  | .lit _ => 1
  | .nil => 1
  | .ptr d => uptoBulk d + 1
  | .slice elems spare => uptoBulkAll elems + uptoBulkAll spare + 1
  | .agg parts => uptoBulkAll parts + 1
  | .iface _ d => uptoBulk d + 1
  | .map entries => uptoBulkEntries entries + 1
  | .held _ => 1
def uptoBulkAll {H : Type} : List (DataW H) → Nat
  | [] => 0
  | d :: r => uptoBulk d + uptoBulkAll r
def uptoBulkEntries {H : Type} : List (Lit × DataW H) → Nat
  | [] => 0
  | x :: r => uptoBulkEntry x + uptoBulkEntries r
def uptoBulkEntry {H : Type} : Lit × DataW H → Nat
  | (.string bytes, d) => bytes.length + uptoBulk d + 1
  | (_, d) => uptoBulk d + 1
 end
def uptoSmall : (H : Type) → List (DataW H) → Bool := fun _ ds => decide (uptoBulkAll ds ≤ 1048576)
def OpenSpec.upto (s : _root_.Go.ChangeSpec) : _root_.Go.OpenSpec := { _root_.Go.OpenSpec.ofChange s with cond := some uptoSmall }

/-- 'weaverlaw16.BufferShares', WHERE WHAT IT READS IS OF BULK AT MOST 1048576: true; the input reads as it did. -/
def bufferSharesUptoRow : OpenClaim := { program := "ythimgonpkhoodaa", sum := "2f9b832dc79cd5d30b1838b6ccbef56bcad6346153a25e141fe452d9eb1193be", func := "weaver/weaverlaw16.BufferShares", spec := "bufferShares", plainKeys := false, apart := false, narrowed := true }
def BufferSharesUptoSaid : Prop := bufferSharesUptoRow.holds Try.pinned (OpenSpec.upto bufferSharesSpec)

/-- 'weaverlaw21.GateHolds', WHERE WHAT IT READS IS OF BULK AT MOST 1048576: true; the input reads as it did. -/
def gateHoldsUptoRow : OpenClaim := { program := "ythimgonpkhoodaa", sum := "2f9b832dc79cd5d30b1838b6ccbef56bcad6346153a25e141fe452d9eb1193be", func := "weaver/weaverlaw21.GateHolds", spec := "gateHolds", plainKeys := false, apart := false, narrowed := true }
def GateHoldsUptoSaid : Prop := gateHoldsUptoRow.holds Try.pinned (OpenSpec.upto gateHoldsSpec)

/-- 'weaverlaw21.GateAligned', WHERE WHAT IT READS IS OF BULK AT MOST 1048576: true; the input reads as it did. -/
def gateAlignedUptoRow : OpenClaim := { program := "ythimgonpkhoodaa", sum := "2f9b832dc79cd5d30b1838b6ccbef56bcad6346153a25e141fe452d9eb1193be", func := "weaver/weaverlaw21.GateAligned", spec := "gateAligned", unfollowed := true, recurses := true, plainKeys := false, apart := false, narrowed := true }
def GateAlignedUptoSaid : Prop := gateAlignedUptoRow.holds Try.pinned (OpenSpec.upto gateAlignedSpec)

/-- 'weaverlaw21.GateFair', WHERE WHAT IT READS IS OF BULK AT MOST 1048576: true; the input reads as it did. -/
def gateFairUptoRow : OpenClaim := { program := "ythimgonpkhoodaa", sum := "2f9b832dc79cd5d30b1838b6ccbef56bcad6346153a25e141fe452d9eb1193be", func := "weaver/weaverlaw21.GateFair", spec := "gateFair", plainKeys := false, apart := false, narrowed := true }
def GateFairUptoSaid : Prop := gateFairUptoRow.holds Try.pinned (OpenSpec.upto gateFairSpec)

/-- 'weaverlaw21.GatePlays', WHERE WHAT IT READS IS OF BULK AT MOST 1048576: true; the input reads as it did. -/
def gatePlaysUptoRow : OpenClaim := { program := "ythimgonpkhoodaa", sum := "2f9b832dc79cd5d30b1838b6ccbef56bcad6346153a25e141fe452d9eb1193be", func := "weaver/weaverlaw21.GatePlays", spec := "gatePlays", plainKeys := false, apart := false, narrowed := true }
def GatePlaysUptoSaid : Prop := gatePlaysUptoRow.holds Try.pinned (OpenSpec.upto gatePlaysSpec)

/-- 'weaverlaw16.BufferFull', WHERE WHAT IT READS IS OF BULK AT MOST 1048576: true; the input reads as it did. -/
def bufferFullUptoRow : OpenClaim := { program := "ythimgonpkhoodaa", sum := "2f9b832dc79cd5d30b1838b6ccbef56bcad6346153a25e141fe452d9eb1193be", func := "weaver/weaverlaw16.BufferFull", spec := "bufferFull", inPlace := ["slices.overlaps[int]"], plainKeys := false, apart := false, narrowed := true }
def BufferFullUptoSaid : Prop := bufferFullUptoRow.holds Try.pinned (OpenSpec.upto bufferFullSpec)

/-- 'weaverlaw16.BufferChains', WHERE WHAT IT READS IS OF BULK AT MOST 1048576: true; the input reads as it did. -/
def bufferChainsUptoRow : OpenClaim := { program := "ythimgonpkhoodaa", sum := "2f9b832dc79cd5d30b1838b6ccbef56bcad6346153a25e141fe452d9eb1193be", func := "weaver/weaverlaw16.BufferChains", spec := "bufferChains", inPlace := ["slices.overlaps[int]"], plainKeys := false, apart := false, narrowed := true }
def BufferChainsUptoSaid : Prop := bufferChainsUptoRow.holds Try.pinned (OpenSpec.upto bufferChainsSpec)

/-- 'weaverlaw16.BufferPlays', WHERE WHAT IT READS IS OF BULK AT MOST 1048576: true; the input reads as it did. -/
def bufferPlaysUptoRow : OpenClaim := { program := "ythimgonpkhoodaa", sum := "2f9b832dc79cd5d30b1838b6ccbef56bcad6346153a25e141fe452d9eb1193be", func := "weaver/weaverlaw16.BufferPlays", spec := "bufferPlays", inPlace := ["slices.overlaps[int]"], plainKeys := false, apart := false, narrowed := true }
def BufferPlaysUptoSaid : Prop := bufferPlaysUptoRow.holds Try.pinned (OpenSpec.upto bufferPlaysSpec)

/-- 'weaverlaw16.BufferStays', WHERE WHAT IT READS IS OF BULK AT MOST 1048576: true; the input reads as it did. -/
def bufferStaysUptoRow : OpenClaim := { program := "ythimgonpkhoodaa", sum := "2f9b832dc79cd5d30b1838b6ccbef56bcad6346153a25e141fe452d9eb1193be", func := "weaver/weaverlaw16.BufferStays", spec := "bufferStays", inPlace := ["slices.overlaps[int]"], plainKeys := false, apart := false, narrowed := true }
def BufferStaysUptoSaid : Prop := bufferStaysUptoRow.holds Try.pinned (OpenSpec.upto bufferStaysSpec)

end Rows
end Go.Proofs.Ythimgonpkhoodaa

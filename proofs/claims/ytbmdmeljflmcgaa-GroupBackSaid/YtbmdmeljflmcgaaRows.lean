/-
  No cell of these rows narrows 'for every input' (looked for: loops, veiled, ifaces, maps, wideKeys, modest, calm, conditions, laid).
  DERIVED. THE GIVEN ROWS OF THIS SEAT. 10 by the template 'for every input the law returns true; each argument reads behind the call as it read before'; 0 by the template 'total and deterministic' (their statements: YtbmdmeljflmcgaaTotals.lean).
  GIVEN WITH THE SEED: the statements are not yours to turn. If you find one false, say at which input.
  Laid BY PROGRAM, IN A SANDBOX (cutbox-rows.mjs): the forced cells as the released guide's own fill.sh prints them over the translation e50a365033cd8bdd… (all of the seat's roots in one cut). By AI agents, Wed Nov 11 2026. No macro, syntax, notation, axiom, sorry.
-/
import Derived.Test.YtbmdmeljflmcgaaChecked
import GoSem.Claim
import GoSem.ClaimJoined
import GoSem.ClaimMapViews
import Derived.JoinedTies
import Derived.KernelRfl
namespace Go.Proofs.Ytbmdmeljflmcgaa
/- THE CELL 'sum', in the pinned program and in every row, IS THE sha256 OF THE DUMP (.gsa) THAT YtbmdmeljflmcgaaProg.lean LOADS. Nothing in Lean hashes anything: it is a label: what it is worth is what the hold of that sum in a sandbox is worth. -/
noncomputable def Try.pinned : Pinned := { name := "ytbmdmeljflmcgaa", sum := "e50a365033cd8bddc79f5cb5e29a861a534f58229cc5fdc6f44a6f9e5b257adf", checked := Try.checked }
namespace Rows
def none {H : Type} : Left H := { results := [], args := [] }

/-- 'weaverlaw20.CreditTurns': WHATEVER THE INPUT: true; the input reads as it did. -/
def creditTurnsSpec : ChangeSpec := { name := "creditTurns", fn := fun _ => fun
  | [d1, d2] => { results := [.lit (.bool true)], args := [d1, d2] }
  | _ => none }
def creditTurnsRow : OpenClaim := { program := "ytbmdmeljflmcgaa", sum := "e50a365033cd8bddc79f5cb5e29a861a534f58229cc5fdc6f44a6f9e5b257adf", func := "weaver/weaverlaw20.CreditTurns", spec := "creditTurns", apart := false }
def CreditTurnsSaid : Prop := creditTurnsRow.holds Try.pinned (OpenSpec.ofChange creditTurnsSpec)

/-- ITS FALSE NEIGHBOUR: 'it returns false'. Refute it at one input. -/
def creditTurnsWrong : ChangeSpec := { name := "creditTurns", fn := fun _ => fun
  | [d1, d2] => { results := [.lit (.bool false)], args := [d1, d2] }
  | _ => none }
def CreditTurnsWrongFalsely : Prop := creditTurnsRow.holds Try.pinned (OpenSpec.ofChange creditTurnsWrong)

/-- 'weaverlaw06.GroupMoves': WHATEVER THE INPUT: true; the input reads as it did. -/
def groupMovesSpec : ChangeSpec := { name := "groupMoves", fn := fun _ => fun
  | [d1, d2, d3] => { results := [.lit (.bool true)], args := [d1, d2, d3] }
  | _ => none }
def groupMovesRow : OpenClaim := { program := "ytbmdmeljflmcgaa", sum := "e50a365033cd8bddc79f5cb5e29a861a534f58229cc5fdc6f44a6f9e5b257adf", func := "weaver/weaverlaw06.GroupMoves", spec := "groupMoves", apart := false }
def GroupMovesSaid : Prop := groupMovesRow.holds Try.pinned (OpenSpec.ofChange groupMovesSpec)

/-- ITS FALSE NEIGHBOUR: 'it returns false'. Refute it at one input. -/
def groupMovesWrong : ChangeSpec := { name := "groupMoves", fn := fun _ => fun
  | [d1, d2, d3] => { results := [.lit (.bool false)], args := [d1, d2, d3] }
  | _ => none }
def GroupMovesWrongFalsely : Prop := groupMovesRow.holds Try.pinned (OpenSpec.ofChange groupMovesWrong)

/-- 'weaverlaw06.GroupHashes': WHATEVER THE INPUT: true; the input reads as it did. -/
def groupHashesSpec : ChangeSpec := { name := "groupHashes", fn := fun _ => fun
  | [d] => { results := [.lit (.bool true)], args := [d] }
  | _ => none }
def groupHashesRow : OpenClaim := { program := "ytbmdmeljflmcgaa", sum := "e50a365033cd8bddc79f5cb5e29a861a534f58229cc5fdc6f44a6f9e5b257adf", func := "weaver/weaverlaw06.GroupHashes", spec := "groupHashes", apart := false }
def GroupHashesSaid : Prop := groupHashesRow.holds Try.pinned (OpenSpec.ofChange groupHashesSpec)

/-- ITS FALSE NEIGHBOUR: 'it returns false'. Refute it at one input. -/
def groupHashesWrong : ChangeSpec := { name := "groupHashes", fn := fun _ => fun
  | [d] => { results := [.lit (.bool false)], args := [d] }
  | _ => none }
def GroupHashesWrongFalsely : Prop := groupHashesRow.holds Try.pinned (OpenSpec.ofChange groupHashesWrong)

/-- 'weaverlaw06.GroupKeys': WHATEVER THE INPUT: true; the input reads as it did. -/
def groupKeysSpec : ChangeSpec := { name := "groupKeys", fn := fun _ => fun
  | [d1, d2] => { results := [.lit (.bool true)], args := [d1, d2] }
  | _ => none }
def groupKeysRow : OpenClaim := { program := "ytbmdmeljflmcgaa", sum := "e50a365033cd8bddc79f5cb5e29a861a534f58229cc5fdc6f44a6f9e5b257adf", func := "weaver/weaverlaw06.GroupKeys", spec := "groupKeys", apart := false }
def GroupKeysSaid : Prop := groupKeysRow.holds Try.pinned (OpenSpec.ofChange groupKeysSpec)

/-- ITS FALSE NEIGHBOUR: 'it returns false'. Refute it at one input. -/
def groupKeysWrong : ChangeSpec := { name := "groupKeys", fn := fun _ => fun
  | [d1, d2] => { results := [.lit (.bool false)], args := [d1, d2] }
  | _ => none }
def GroupKeysWrongFalsely : Prop := groupKeysRow.holds Try.pinned (OpenSpec.ofChange groupKeysWrong)

/-- 'weaverlaw06.GroupRanges': WHATEVER THE INPUT: true; the input reads as it did. -/
def groupRangesSpec : ChangeSpec := { name := "groupRanges", fn := fun _ => fun
  | [d1, d2, d3] => { results := [.lit (.bool true)], args := [d1, d2, d3] }
  | _ => none }
def groupRangesRow : OpenClaim := { program := "ytbmdmeljflmcgaa", sum := "e50a365033cd8bddc79f5cb5e29a861a534f58229cc5fdc6f44a6f9e5b257adf", func := "weaver/weaverlaw06.GroupRanges", spec := "groupRanges", apart := false }
def GroupRangesSaid : Prop := groupRangesRow.holds Try.pinned (OpenSpec.ofChange groupRangesSpec)

/-- ITS FALSE NEIGHBOUR: 'it returns false'. Refute it at one input. -/
def groupRangesWrong : ChangeSpec := { name := "groupRanges", fn := fun _ => fun
  | [d1, d2, d3] => { results := [.lit (.bool false)], args := [d1, d2, d3] }
  | _ => none }
def GroupRangesWrongFalsely : Prop := groupRangesRow.holds Try.pinned (OpenSpec.ofChange groupRangesWrong)

/-- 'weaverlaw06.GroupOne': WHATEVER THE INPUT: true; the input reads as it did. -/
def groupOneSpec : ChangeSpec := { name := "groupOne", fn := fun _ => fun
  | [d1, d2] => { results := [.lit (.bool true)], args := [d1, d2] }
  | _ => none }
def groupOneRow : OpenClaim := { program := "ytbmdmeljflmcgaa", sum := "e50a365033cd8bddc79f5cb5e29a861a534f58229cc5fdc6f44a6f9e5b257adf", func := "weaver/weaverlaw06.GroupOne", spec := "groupOne", apart := false }
def GroupOneSaid : Prop := groupOneRow.holds Try.pinned (OpenSpec.ofChange groupOneSpec)

/-- ITS FALSE NEIGHBOUR: 'it returns false'. Refute it at one input. -/
def groupOneWrong : ChangeSpec := { name := "groupOne", fn := fun _ => fun
  | [d1, d2] => { results := [.lit (.bool false)], args := [d1, d2] }
  | _ => none }
def GroupOneWrongFalsely : Prop := groupOneRow.holds Try.pinned (OpenSpec.ofChange groupOneWrong)

/-- 'weaverlaw06.GroupBack': WHATEVER THE INPUT: true; the input reads as it did. -/
def groupBackSpec : ChangeSpec := { name := "groupBack", fn := fun _ => fun
  | [d1, d2, d3] => { results := [.lit (.bool true)], args := [d1, d2, d3] }
  | _ => none }
def groupBackRow : OpenClaim := { program := "ytbmdmeljflmcgaa", sum := "e50a365033cd8bddc79f5cb5e29a861a534f58229cc5fdc6f44a6f9e5b257adf", func := "weaver/weaverlaw06.GroupBack", spec := "groupBack", apart := false }
def GroupBackSaid : Prop := groupBackRow.holds Try.pinned (OpenSpec.ofChange groupBackSpec)

/-- ITS FALSE NEIGHBOUR: 'it returns false'. Refute it at one input. -/
def groupBackWrong : ChangeSpec := { name := "groupBack", fn := fun _ => fun
  | [d1, d2, d3] => { results := [.lit (.bool false)], args := [d1, d2, d3] }
  | _ => none }
def GroupBackWrongFalsely : Prop := groupBackRow.holds Try.pinned (OpenSpec.ofChange groupBackWrong)

/-- 'weaverlaw06.GroupShares': WHATEVER THE INPUT: true; the input reads as it did. -/
def groupSharesSpec : ChangeSpec := { name := "groupShares", fn := fun _ => fun
  | [d1, d2] => { results := [.lit (.bool true)], args := [d1, d2] }
  | _ => none }
def groupSharesRow : OpenClaim := { program := "ytbmdmeljflmcgaa", sum := "e50a365033cd8bddc79f5cb5e29a861a534f58229cc5fdc6f44a6f9e5b257adf", func := "weaver/weaverlaw06.GroupShares", spec := "groupShares", apart := false }
def GroupSharesSaid : Prop := groupSharesRow.holds Try.pinned (OpenSpec.ofChange groupSharesSpec)

/-- ITS FALSE NEIGHBOUR: 'it returns false'. Refute it at one input. -/
def groupSharesWrong : ChangeSpec := { name := "groupShares", fn := fun _ => fun
  | [d1, d2] => { results := [.lit (.bool false)], args := [d1, d2] }
  | _ => none }
def GroupSharesWrongFalsely : Prop := groupSharesRow.holds Try.pinned (OpenSpec.ofChange groupSharesWrong)

/-- 'weaverlaw20.CreditPlays': WHATEVER THE INPUT: true; the input reads as it did. -/
def creditPlaysSpec : ChangeSpec := { name := "creditPlays", fn := fun _ => fun
  | [d1, d2] => { results := [.lit (.bool true)], args := [d1, d2] }
  | _ => none }
def creditPlaysRow : OpenClaim := { program := "ytbmdmeljflmcgaa", sum := "e50a365033cd8bddc79f5cb5e29a861a534f58229cc5fdc6f44a6f9e5b257adf", func := "weaver/weaverlaw20.CreditPlays", spec := "creditPlays", apart := false }
def CreditPlaysSaid : Prop := creditPlaysRow.holds Try.pinned (OpenSpec.ofChange creditPlaysSpec)

/-- ITS FALSE NEIGHBOUR: 'it returns false'. Refute it at one input. -/
def creditPlaysWrong : ChangeSpec := { name := "creditPlays", fn := fun _ => fun
  | [d1, d2] => { results := [.lit (.bool false)], args := [d1, d2] }
  | _ => none }
def CreditPlaysWrongFalsely : Prop := creditPlaysRow.holds Try.pinned (OpenSpec.ofChange creditPlaysWrong)

/-- 'weaverlaw20.CreditBounds': WHATEVER THE INPUT: true; the input reads as it did. -/
def creditBoundsSpec : ChangeSpec := { name := "creditBounds", fn := fun _ => fun
  | [d1, d2] => { results := [.lit (.bool true)], args := [d1, d2] }
  | _ => none }
def creditBoundsRow : OpenClaim := { program := "ytbmdmeljflmcgaa", sum := "e50a365033cd8bddc79f5cb5e29a861a534f58229cc5fdc6f44a6f9e5b257adf", func := "weaver/weaverlaw20.CreditBounds", spec := "creditBounds", apart := false }
def CreditBoundsSaid : Prop := creditBoundsRow.holds Try.pinned (OpenSpec.ofChange creditBoundsSpec)

/-- ITS FALSE NEIGHBOUR: 'it returns false'. Refute it at one input. -/
def creditBoundsWrong : ChangeSpec := { name := "creditBounds", fn := fun _ => fun
  | [d1, d2] => { results := [.lit (.bool false)], args := [d1, d2] }
  | _ => none }
def CreditBoundsWrongFalsely : Prop := creditBoundsRow.holds Try.pinned (OpenSpec.ofChange creditBoundsWrong)

/- THE SECOND FORM. 'bulk': how many values and letters a reading holds, each counted each time it is reached (what is shared counts as often as it is met; a slice's spare places count too). A statement '..UptoSaid' is the law's where the arguments, and the package variables that the reading takes, are together of bulk at most 1048576: NARROWER than '..Said'. Prove '..Said' where nothing that the law and all that it calls make is longer than what came in: it says more and counts as full. Else prove '..UptoSaid'. A law counts once. -/
mutual
def uptoBulk {H : Type} : DataW H → Nat
  | .lit (.string bytes) => bytes.length + 1
  | .lit _ => 1
  | .nil => 1
  | .ptr d => uptoBulk d + 1
  | .slice elems spare => uptoBulkAll elems + uptoBulkAll spare + 1
  | .agg parts => uptoBulkAll parts + 1
  | .iface _ d => uptoBulk d + 1
  | .map entries => uptoBulkEntries entries + 1
  | .held _ => 1
def uptoBulkAll {H : Type} : List (DataW H) → Nat
  | [] => 0
  | d :: r => uptoBulk d + uptoBulkAll r
def uptoBulkEntries {H : Type} : List (Lit × DataW H) → Nat
  | [] => 0
  | x :: r => uptoBulkEntry x + uptoBulkEntries r
def uptoBulkEntry {H : Type} : Lit × DataW H → Nat
  | (.string bytes, d) => bytes.length + uptoBulk d + 1
  | (_, d) => uptoBulk d + 1
 end
def uptoSmall : (H : Type) → List (DataW H) → Bool := fun _ ds => decide (uptoBulkAll ds ≤ 1048576)
def OpenSpec.upto (s : _root_.Go.ChangeSpec) : _root_.Go.OpenSpec := { _root_.Go.OpenSpec.ofChange s with cond := some uptoSmall }

/-- 'weaverlaw20.CreditTurns', WHERE WHAT IT READS IS OF BULK AT MOST 1048576: true; the input reads as it did. -/
def creditTurnsUptoRow : OpenClaim := { program := "ytbmdmeljflmcgaa", sum := "e50a365033cd8bddc79f5cb5e29a861a534f58229cc5fdc6f44a6f9e5b257adf", func := "weaver/weaverlaw20.CreditTurns", spec := "creditTurns", apart := false, narrowed := true }
def CreditTurnsUptoSaid : Prop := creditTurnsUptoRow.holds Try.pinned (OpenSpec.upto creditTurnsSpec)

/-- 'weaverlaw06.GroupMoves', WHERE WHAT IT READS IS OF BULK AT MOST 1048576: true; the input reads as it did. -/
def groupMovesUptoRow : OpenClaim := { program := "ytbmdmeljflmcgaa", sum := "e50a365033cd8bddc79f5cb5e29a861a534f58229cc5fdc6f44a6f9e5b257adf", func := "weaver/weaverlaw06.GroupMoves", spec := "groupMoves", apart := false, narrowed := true }
def GroupMovesUptoSaid : Prop := groupMovesUptoRow.holds Try.pinned (OpenSpec.upto groupMovesSpec)

/-- 'weaverlaw06.GroupHashes', WHERE WHAT IT READS IS OF BULK AT MOST 1048576: true; the input reads as it did. -/
def groupHashesUptoRow : OpenClaim := { program := "ytbmdmeljflmcgaa", sum := "e50a365033cd8bddc79f5cb5e29a861a534f58229cc5fdc6f44a6f9e5b257adf", func := "weaver/weaverlaw06.GroupHashes", spec := "groupHashes", apart := false, narrowed := true }
def GroupHashesUptoSaid : Prop := groupHashesUptoRow.holds Try.pinned (OpenSpec.upto groupHashesSpec)

/-- 'weaverlaw06.GroupKeys', WHERE WHAT IT READS IS OF BULK AT MOST 1048576: true; the input reads as it did. -/
def groupKeysUptoRow : OpenClaim := { program := "ytbmdmeljflmcgaa", sum := "e50a365033cd8bddc79f5cb5e29a861a534f58229cc5fdc6f44a6f9e5b257adf", func := "weaver/weaverlaw06.GroupKeys", spec := "groupKeys", apart := false, narrowed := true }
def GroupKeysUptoSaid : Prop := groupKeysUptoRow.holds Try.pinned (OpenSpec.upto groupKeysSpec)

/-- 'weaverlaw06.GroupRanges', WHERE WHAT IT READS IS OF BULK AT MOST 1048576: true; the input reads as it did. -/
def groupRangesUptoRow : OpenClaim := { program := "ytbmdmeljflmcgaa", sum := "e50a365033cd8bddc79f5cb5e29a861a534f58229cc5fdc6f44a6f9e5b257adf", func := "weaver/weaverlaw06.GroupRanges", spec := "groupRanges", apart := false, narrowed := true }
def GroupRangesUptoSaid : Prop := groupRangesUptoRow.holds Try.pinned (OpenSpec.upto groupRangesSpec)

/-- 'weaverlaw06.GroupOne', WHERE WHAT IT READS IS OF BULK AT MOST 1048576: true; the input reads as it did. -/
def groupOneUptoRow : OpenClaim := { program := "ytbmdmeljflmcgaa", sum := "e50a365033cd8bddc79f5cb5e29a861a534f58229cc5fdc6f44a6f9e5b257adf", func := "weaver/weaverlaw06.GroupOne", spec := "groupOne", apart := false, narrowed := true }
def GroupOneUptoSaid : Prop := groupOneUptoRow.holds Try.pinned (OpenSpec.upto groupOneSpec)

/-- 'weaverlaw06.GroupBack', WHERE WHAT IT READS IS OF BULK AT MOST 1048576: true; the input reads as it did. -/
def groupBackUptoRow : OpenClaim := { program := "ytbmdmeljflmcgaa", sum := "e50a365033cd8bddc79f5cb5e29a861a534f58229cc5fdc6f44a6f9e5b257adf", func := "weaver/weaverlaw06.GroupBack", spec := "groupBack", apart := false, narrowed := true }
def GroupBackUptoSaid : Prop := groupBackUptoRow.holds Try.pinned (OpenSpec.upto groupBackSpec)

/-- 'weaverlaw06.GroupShares', WHERE WHAT IT READS IS OF BULK AT MOST 1048576: true; the input reads as it did. -/
def groupSharesUptoRow : OpenClaim := { program := "ytbmdmeljflmcgaa", sum := "e50a365033cd8bddc79f5cb5e29a861a534f58229cc5fdc6f44a6f9e5b257adf", func := "weaver/weaverlaw06.GroupShares", spec := "groupShares", apart := false, narrowed := true }
def GroupSharesUptoSaid : Prop := groupSharesUptoRow.holds Try.pinned (OpenSpec.upto groupSharesSpec)

/-- 'weaverlaw20.CreditPlays', WHERE WHAT IT READS IS OF BULK AT MOST 1048576: true; the input reads as it did. -/
def creditPlaysUptoRow : OpenClaim := { program := "ytbmdmeljflmcgaa", sum := "e50a365033cd8bddc79f5cb5e29a861a534f58229cc5fdc6f44a6f9e5b257adf", func := "weaver/weaverlaw20.CreditPlays", spec := "creditPlays", apart := false, narrowed := true }
def CreditPlaysUptoSaid : Prop := creditPlaysUptoRow.holds Try.pinned (OpenSpec.upto creditPlaysSpec)

/-- 'weaverlaw20.CreditBounds', WHERE WHAT IT READS IS OF BULK AT MOST 1048576: true; the input reads as it did. -/
def creditBoundsUptoRow : OpenClaim := { program := "ytbmdmeljflmcgaa", sum := "e50a365033cd8bddc79f5cb5e29a861a534f58229cc5fdc6f44a6f9e5b257adf", func := "weaver/weaverlaw20.CreditBounds", spec := "creditBounds", apart := false, narrowed := true }
def CreditBoundsUptoSaid : Prop := creditBoundsUptoRow.holds Try.pinned (OpenSpec.upto creditBoundsSpec)

end Rows
end Go.Proofs.Ytbmdmeljflmcgaa

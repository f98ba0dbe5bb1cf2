/-
  DERIVED. GIVEN WITH THE SEED: THE CARDS: each row of YtgapmdkiijpmpaaDoorRows.lean that lists a variable, with what it lists TIED to the program's text (the seventh form; the later family's looks); each row that meets fmt, with fmt's text TOLD by the authors' own Lean function (tested against real Go, not proved from fmt's source: count such statements apart). THE CARD IS WHAT COUNTS. Prove the row's statement (the work); the ties are given (YtgapmdkiijpmpaaDoorTie.lean); close each card by the builder's one call (the guide's Derived/Test/ToyasCard.lean, 'card_holds'). Laid BY PROGRAM, IN A SANDBOX (cutbox-door.mjs). By AI agents, Wed Nov 11 2026. No macro, syntax, notation, axiom, sorry.
-/
import Derived.Test.YtgapmdkiijpmpaaDoorRows
import GoSem.ClaimSeven
namespace Go.Proofs.YtgapmdkiijpmpaaDoor
namespace Rows

/-- THE TIED CARD OF 'weaverlaw05.SourceCounts'. -/
def sourceCountsCard : Claim7 := { stood := { row := sourceCountsRow, standIns := [], harness := (true, "1e5fddcbd5034428f9e5ab21c7100f6a7ad95fc2eb18733dc6be81d78c225496"), looks := false }, kinds := [], alts := [], laidByText := true, laidKinds := [.data, .pinned], laidTests := true, laidLooks := .later }
def SourceCountsCardSaid : Prop := Claim7.holds Tryd.pinned (.plain (OpenSpec.ofChange sourceCountsSpec)) sourceCountsCard

/-- THE TIED CARD OF 'weaverlaw05.SourcePlays'. -/
def sourcePlaysCard : Claim7 := { stood := { row := sourcePlaysRow, standIns := [], harness := (true, "1e5fddcbd5034428f9e5ab21c7100f6a7ad95fc2eb18733dc6be81d78c225496"), looks := false }, kinds := [], alts := [], laidByText := true, laidKinds := [.data, .pinned], laidTests := true, laidLooks := .later }
def SourcePlaysCardSaid : Prop := Claim7.holds Tryd.pinned (.plain (OpenSpec.ofChange sourcePlaysSpec)) sourcePlaysCard

/-- THE TIED CARD OF 'weaverlaw05.SourceStays'. -/
def sourceStaysCard : Claim7 := { stood := { row := sourceStaysRow, standIns := [], harness := (true, "1e5fddcbd5034428f9e5ab21c7100f6a7ad95fc2eb18733dc6be81d78c225496"), looks := false }, kinds := [], alts := [], laidByText := true, laidKinds := [.data, .pinned], laidTests := true, laidLooks := .later }
def SourceStaysCardSaid : Prop := Claim7.holds Tryd.pinned (.plain (OpenSpec.ofChange sourceStaysSpec)) sourceStaysCard

/-- THE TIED CARD OF 'weaverlaw05.SourceKeys'. -/
def sourceKeysCard : Claim7 := { stood := { row := sourceKeysRow, standIns := [], harness := (true, "1e5fddcbd5034428f9e5ab21c7100f6a7ad95fc2eb18733dc6be81d78c225496"), looks := false }, kinds := [], alts := [], laidByText := true, laidKinds := [.data, .pinned], laidTests := true, laidLooks := .later }
def SourceKeysCardSaid : Prop := Claim7.holds Tryd.pinned (.plain (OpenSpec.ofChange sourceKeysSpec)) sourceKeysCard

/-- THE SECOND FORM's CARD OF 'weaverlaw05.SourceCounts'. -/
def sourceCountsUptoCard : Claim7 := { stood := { row := sourceCountsUptoRow, standIns := [], harness := (true, "1e5fddcbd5034428f9e5ab21c7100f6a7ad95fc2eb18733dc6be81d78c225496"), looks := false }, kinds := [], alts := [], laidByText := true, laidKinds := [.data, .pinned], laidTests := true, laidLooks := .later }
def SourceCountsUptoCardSaid : Prop := Claim7.holds Tryd.pinned (.plain (OpenSpec.upto sourceCountsSpec)) sourceCountsUptoCard

/-- THE SECOND FORM's CARD OF 'weaverlaw05.SourcePlays'. -/
def sourcePlaysUptoCard : Claim7 := { stood := { row := sourcePlaysUptoRow, standIns := [], harness := (true, "1e5fddcbd5034428f9e5ab21c7100f6a7ad95fc2eb18733dc6be81d78c225496"), looks := false }, kinds := [], alts := [], laidByText := true, laidKinds := [.data, .pinned], laidTests := true, laidLooks := .later }
def SourcePlaysUptoCardSaid : Prop := Claim7.holds Tryd.pinned (.plain (OpenSpec.upto sourcePlaysSpec)) sourcePlaysUptoCard

/-- THE SECOND FORM's CARD OF 'weaverlaw05.SourceStays'. -/
def sourceStaysUptoCard : Claim7 := { stood := { row := sourceStaysUptoRow, standIns := [], harness := (true, "1e5fddcbd5034428f9e5ab21c7100f6a7ad95fc2eb18733dc6be81d78c225496"), looks := false }, kinds := [], alts := [], laidByText := true, laidKinds := [.data, .pinned], laidTests := true, laidLooks := .later }
def SourceStaysUptoCardSaid : Prop := Claim7.holds Tryd.pinned (.plain (OpenSpec.upto sourceStaysSpec)) sourceStaysUptoCard

/-- THE SECOND FORM's CARD OF 'weaverlaw05.SourceKeys'. -/
def sourceKeysUptoCard : Claim7 := { stood := { row := sourceKeysUptoRow, standIns := [], harness := (true, "1e5fddcbd5034428f9e5ab21c7100f6a7ad95fc2eb18733dc6be81d78c225496"), looks := false }, kinds := [], alts := [], laidByText := true, laidKinds := [.data, .pinned], laidTests := true, laidLooks := .later }
def SourceKeysUptoCardSaid : Prop := Claim7.holds Tryd.pinned (.plain (OpenSpec.upto sourceKeysSpec)) sourceKeysUptoCard
end Rows
end Go.Proofs.YtgapmdkiijpmpaaDoor

/-
  DERIVED. GIVEN WITH THE SEED: THE CARDS: each row of YtbcnpklmhgcenaaDoorRows.lean that lists a variable, with what it lists TIED to the program's text (the seventh form; the later family's looks); each row that meets fmt, with fmt's text TOLD by the authors' own Lean function (tested against real Go, not proved from fmt's source: count such statements apart). THE CARD IS WHAT COUNTS. Prove the row's statement (the work); the ties are given (YtbcnpklmhgcenaaDoorTie.lean); close each card by the builder's one call (the guide's Derived/Test/ToyasCard.lean, 'card_holds'). Laid BY PROGRAM, IN A SANDBOX (cutbox-door.mjs). By AI agents, Wed Nov 11 2026. No macro, syntax, notation, axiom, sorry.
-/
import Derived.Test.YtbcnpklmhgcenaaDoorRows
import GoSem.ClaimSeven
namespace Go.Proofs.YtbcnpklmhgcenaaDoor
namespace Rows

/-- THE TIED CARD OF 'weaverlaw02.EventOrder'. -/
def eventOrderCard : Claim7 := { stood := { row := eventOrderRow, standIns := [], harness := (true, "a3a101f21d6adda1bdfb7f0e9f534c925b29543a31f49359b218a1e3de0807be"), looks := false }, kinds := [], alts := [], laidByText := true, laidKinds := [.data, .pinned], laidTests := true, laidLooks := .later }
def EventOrderCardSaid : Prop := Claim7.holds Tryd.pinned (.plain (OpenSpec.ofChange eventOrderSpec)) eventOrderCard

/-- THE TIED CARD OF 'weaverlaw02.EventOne'. -/
def eventOneCard : Claim7 := { stood := { row := eventOneRow, standIns := [], harness := (true, "a3a101f21d6adda1bdfb7f0e9f534c925b29543a31f49359b218a1e3de0807be"), looks := false }, kinds := [], alts := [], laidByText := true, laidKinds := [.data, .pinned], laidTests := true, laidLooks := .later }
def EventOneCardSaid : Prop := Claim7.holds Tryd.pinned (.plain (OpenSpec.ofChange eventOneSpec)) eventOneCard

/-- THE TIED CARD OF 'weaverlaw02.EventSorts'. -/
def eventSortsCard : Claim7 := { stood := { row := eventSortsRow, standIns := [], harness := (true, "a3a101f21d6adda1bdfb7f0e9f534c925b29543a31f49359b218a1e3de0807be"), looks := false }, kinds := [], alts := [], laidByText := true, laidKinds := [.data, .pinned], laidTests := true, laidLooks := .later }
def EventSortsCardSaid : Prop := Claim7.holds Tryd.pinned (.plain (OpenSpec.ofChange eventSortsSpec)) eventSortsCard

/-- THE TIED CARD OF 'weaverlaw02.EventGrows'. -/
def eventGrowsCard : Claim7 := { stood := { row := eventGrowsRow, standIns := [], harness := (true, "a3a101f21d6adda1bdfb7f0e9f534c925b29543a31f49359b218a1e3de0807be"), looks := false }, kinds := [], alts := [], laidByText := true, laidKinds := [.data, .pinned], laidTests := true, laidLooks := .later }
def EventGrowsCardSaid : Prop := Claim7.holds Tryd.pinned (.plain (OpenSpec.ofChange eventGrowsSpec)) eventGrowsCard

/-- THE TIED CARD OF 'weaverlaw02.EventBytes'. -/
def eventBytesCard : Claim7 := { stood := { row := eventBytesRow, standIns := [], harness := (true, "a3a101f21d6adda1bdfb7f0e9f534c925b29543a31f49359b218a1e3de0807be"), looks := false }, kinds := [], alts := [], laidByText := true, laidKinds := [.data, .pinned], laidTests := true, laidLooks := .later }
def EventBytesCardSaid : Prop := Claim7.holds Tryd.pinned (.plain (OpenSpec.ofChange eventBytesSpec)) eventBytesCard

/-- THE TIED CARD OF 'weaverlaw02.EventMatches'. -/
def eventMatchesCard : Claim7 := { stood := { row := eventMatchesRow, standIns := [], harness := (true, "a3a101f21d6adda1bdfb7f0e9f534c925b29543a31f49359b218a1e3de0807be"), looks := false }, kinds := [], alts := [], laidByText := true, laidKinds := [.data, .pinned], laidTests := true, laidLooks := .later }
def EventMatchesCardSaid : Prop := Claim7.holds Tryd.pinned (.plain (OpenSpec.ofChange eventMatchesSpec)) eventMatchesCard

/-- THE TIED CARD OF 'weaverlaw02.EventBack'. -/
def eventBackCard : Claim7 := { stood := { row := eventBackRow, standIns := [], harness := (true, "a3a101f21d6adda1bdfb7f0e9f534c925b29543a31f49359b218a1e3de0807be"), looks := false }, kinds := [], alts := [], laidByText := true, laidKinds := [.data, .pinned], laidTests := true, laidLooks := .later }
def EventBackCardSaid : Prop := Claim7.holds Tryd.pinned (.plain (OpenSpec.ofChange eventBackSpec)) eventBackCard

/-- THE SECOND FORM's CARD OF 'weaverlaw02.EventOrder'. -/
def eventOrderUptoCard : Claim7 := { stood := { row := eventOrderUptoRow, standIns := [], harness := (true, "a3a101f21d6adda1bdfb7f0e9f534c925b29543a31f49359b218a1e3de0807be"), looks := false }, kinds := [], alts := [], laidByText := true, laidKinds := [.data, .pinned], laidTests := true, laidLooks := .later }
def EventOrderUptoCardSaid : Prop := Claim7.holds Tryd.pinned (.plain (OpenSpec.upto eventOrderSpec)) eventOrderUptoCard

/-- THE SECOND FORM's CARD OF 'weaverlaw02.EventOne'. -/
def eventOneUptoCard : Claim7 := { stood := { row := eventOneUptoRow, standIns := [], harness := (true, "a3a101f21d6adda1bdfb7f0e9f534c925b29543a31f49359b218a1e3de0807be"), looks := false }, kinds := [], alts := [], laidByText := true, laidKinds := [.data, .pinned], laidTests := true, laidLooks := .later }
def EventOneUptoCardSaid : Prop := Claim7.holds Tryd.pinned (.plain (OpenSpec.upto eventOneSpec)) eventOneUptoCard

/-- THE SECOND FORM's CARD OF 'weaverlaw02.EventSorts'. -/
def eventSortsUptoCard : Claim7 := { stood := { row := eventSortsUptoRow, standIns := [], harness := (true, "a3a101f21d6adda1bdfb7f0e9f534c925b29543a31f49359b218a1e3de0807be"), looks := false }, kinds := [], alts := [], laidByText := true, laidKinds := [.data, .pinned], laidTests := true, laidLooks := .later }
def EventSortsUptoCardSaid : Prop := Claim7.holds Tryd.pinned (.plain (OpenSpec.upto eventSortsSpec)) eventSortsUptoCard

/-- THE SECOND FORM's CARD OF 'weaverlaw02.EventGrows'. -/
def eventGrowsUptoCard : Claim7 := { stood := { row := eventGrowsUptoRow, standIns := [], harness := (true, "a3a101f21d6adda1bdfb7f0e9f534c925b29543a31f49359b218a1e3de0807be"), looks := false }, kinds := [], alts := [], laidByText := true, laidKinds := [.data, .pinned], laidTests := true, laidLooks := .later }
def EventGrowsUptoCardSaid : Prop := Claim7.holds Tryd.pinned (.plain (OpenSpec.upto eventGrowsSpec)) eventGrowsUptoCard

/-- THE SECOND FORM's CARD OF 'weaverlaw02.EventBytes'. -/
def eventBytesUptoCard : Claim7 := { stood := { row := eventBytesUptoRow, standIns := [], harness := (true, "a3a101f21d6adda1bdfb7f0e9f534c925b29543a31f49359b218a1e3de0807be"), looks := false }, kinds := [], alts := [], laidByText := true, laidKinds := [.data, .pinned], laidTests := true, laidLooks := .later }
def EventBytesUptoCardSaid : Prop := Claim7.holds Tryd.pinned (.plain (OpenSpec.upto eventBytesSpec)) eventBytesUptoCard

/-- THE SECOND FORM's CARD OF 'weaverlaw02.EventMatches'. -/
def eventMatchesUptoCard : Claim7 := { stood := { row := eventMatchesUptoRow, standIns := [], harness := (true, "a3a101f21d6adda1bdfb7f0e9f534c925b29543a31f49359b218a1e3de0807be"), looks := false }, kinds := [], alts := [], laidByText := true, laidKinds := [.data, .pinned], laidTests := true, laidLooks := .later }
def EventMatchesUptoCardSaid : Prop := Claim7.holds Tryd.pinned (.plain (OpenSpec.upto eventMatchesSpec)) eventMatchesUptoCard

/-- THE SECOND FORM's CARD OF 'weaverlaw02.EventBack'. -/
def eventBackUptoCard : Claim7 := { stood := { row := eventBackUptoRow, standIns := [], harness := (true, "a3a101f21d6adda1bdfb7f0e9f534c925b29543a31f49359b218a1e3de0807be"), looks := false }, kinds := [], alts := [], laidByText := true, laidKinds := [.data, .pinned], laidTests := true, laidLooks := .later }
def EventBackUptoCardSaid : Prop := Claim7.holds Tryd.pinned (.plain (OpenSpec.upto eventBackSpec)) eventBackUptoCard
end Rows
end Go.Proofs.YtbcnpklmhgcenaaDoor

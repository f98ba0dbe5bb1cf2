/-
  No cell of these rows narrows 'for every input' (looked for: loops, veiled, ifaces, maps, wideKeys, modest, calm, conditions, laid).
  DERIVED. THE GIVEN ROWS OF THIS SEAT. 12 by the template 'for every input the law returns true; each argument reads behind the call as it read before'; 0 by the template 'total and deterministic' (their statements: YtmnohdkfnkgcdaaTotals.lean).
  GIVEN WITH THE SEED: the statements are not yours to turn. If you find one false, say at which input.
  Laid BY PROGRAM, IN A SANDBOX (cutbox-rows.mjs): the forced cells as the released guide's own fill.sh prints them over the translation e96d2cba0673d9af… (all of the seat's roots in one cut). By AI agents, Wed Nov 11 2026. No macro, syntax, notation, axiom, sorry.
-/
import Derived.Test.YtmnohdkfnkgcdaaChecked
import GoSem.Claim
import GoSem.ClaimJoined
import GoSem.ClaimMapViews
import Derived.JoinedTies
import Derived.KernelRfl
namespace Go.Proofs.Ytmnohdkfnkgcdaa
/- THE CELL 'sum', in the pinned program and in every row, IS THE sha256 OF THE DUMP (.gsa) THAT YtmnohdkfnkgcdaaProg.lean LOADS. Nothing in Lean hashes anything: it is a label: what it is worth is what the hold of that sum in a sandbox is worth. -/
noncomputable def Try.pinned : Pinned := { name := "ytmnohdkfnkgcdaa", sum := "e96d2cba0673d9af43c1284922a9d7adb47265c7da28b7aa57dbdd37c70019ee", checked := Try.checked }
namespace Rows
def none {H : Type} : Left H := { results := [], args := [] }

/-- 'weaverlaw08.MeterPlays': WHATEVER THE INPUT: true; the input reads as it did. -/
def meterPlaysSpec : ChangeSpec := { name := "meterPlays", fn := fun _ => fun
  | [d] => { results := [.lit (.bool true)], args := [d] }
  | _ => none }
def meterPlaysRow : OpenClaim := { program := "ytmnohdkfnkgcdaa", sum := "e96d2cba0673d9af43c1284922a9d7adb47265c7da28b7aa57dbdd37c70019ee", func := "weaver/weaverlaw08.MeterPlays", spec := "meterPlays", inPlace := ["sync/atomic.LoadInt64", "sync/atomic.CompareAndSwapInt64", "sync/atomic.AddInt64"], unfollowed := true, recurses := true, apart := false }
def MeterPlaysSaid : Prop := meterPlaysRow.holds Try.pinned (OpenSpec.ofChange meterPlaysSpec)

/-- ITS FALSE NEIGHBOUR: 'it returns false'. Refute it at one input. -/
def meterPlaysWrong : ChangeSpec := { name := "meterPlays", fn := fun _ => fun
  | [d] => { results := [.lit (.bool false)], args := [d] }
  | _ => none }
def MeterPlaysWrongFalsely : Prop := meterPlaysRow.holds Try.pinned (OpenSpec.ofChange meterPlaysWrong)

/-- 'weaverlaw08.MeterOrder': WHATEVER THE INPUT: true; the input reads as it did. -/
def meterOrderSpec : ChangeSpec := { name := "meterOrder", fn := fun _ => fun
  | [d] => { results := [.lit (.bool true)], args := [d] }
  | _ => none }
def meterOrderRow : OpenClaim := { program := "ytmnohdkfnkgcdaa", sum := "e96d2cba0673d9af43c1284922a9d7adb47265c7da28b7aa57dbdd37c70019ee", func := "weaver/weaverlaw08.MeterOrder", spec := "meterOrder", inPlace := ["sync/atomic.LoadInt64", "sync/atomic.CompareAndSwapInt64", "sync/atomic.AddInt64"], unfollowed := true, recurses := true, apart := false }
def MeterOrderSaid : Prop := meterOrderRow.holds Try.pinned (OpenSpec.ofChange meterOrderSpec)

/-- ITS FALSE NEIGHBOUR: 'it returns false'. Refute it at one input. -/
def meterOrderWrong : ChangeSpec := { name := "meterOrder", fn := fun _ => fun
  | [d] => { results := [.lit (.bool false)], args := [d] }
  | _ => none }
def MeterOrderWrongFalsely : Prop := meterOrderRow.holds Try.pinned (OpenSpec.ofChange meterOrderWrong)

/-- 'weaverlaw08.MeterMost': WHATEVER THE INPUT: true; the input reads as it did. -/
def meterMostSpec : ChangeSpec := { name := "meterMost", fn := fun _ => fun
  | [d1, d2] => { results := [.lit (.bool true)], args := [d1, d2] }
  | _ => none }
def meterMostRow : OpenClaim := { program := "ytmnohdkfnkgcdaa", sum := "e96d2cba0673d9af43c1284922a9d7adb47265c7da28b7aa57dbdd37c70019ee", func := "weaver/weaverlaw08.MeterMost", spec := "meterMost", inPlace := ["sync/atomic.LoadInt64", "sync/atomic.CompareAndSwapInt64", "sync/atomic.AddInt64"], unfollowed := true, recurses := true, apart := false }
def MeterMostSaid : Prop := meterMostRow.holds Try.pinned (OpenSpec.ofChange meterMostSpec)

/-- ITS FALSE NEIGHBOUR: 'it returns false'. Refute it at one input. -/
def meterMostWrong : ChangeSpec := { name := "meterMost", fn := fun _ => fun
  | [d1, d2] => { results := [.lit (.bool false)], args := [d1, d2] }
  | _ => none }
def MeterMostWrongFalsely : Prop := meterMostRow.holds Try.pinned (OpenSpec.ofChange meterMostWrong)

/-- 'weaverlaw08.MeterSwaps': WHATEVER THE INPUT: true; the input reads as it did. -/
def meterSwapsSpec : ChangeSpec := { name := "meterSwaps", fn := fun _ => fun
  | [d1, d2, d3] => { results := [.lit (.bool true)], args := [d1, d2, d3] }
  | _ => none }
def meterSwapsRow : OpenClaim := { program := "ytmnohdkfnkgcdaa", sum := "e96d2cba0673d9af43c1284922a9d7adb47265c7da28b7aa57dbdd37c70019ee", func := "weaver/weaverlaw08.MeterSwaps", spec := "meterSwaps", inPlace := ["sync/atomic.LoadInt64", "sync/atomic.CompareAndSwapInt64", "sync/atomic.AddInt64"], unfollowed := true, recurses := true, apart := false }
def MeterSwapsSaid : Prop := meterSwapsRow.holds Try.pinned (OpenSpec.ofChange meterSwapsSpec)

/-- ITS FALSE NEIGHBOUR: 'it returns false'. Refute it at one input. -/
def meterSwapsWrong : ChangeSpec := { name := "meterSwaps", fn := fun _ => fun
  | [d1, d2, d3] => { results := [.lit (.bool false)], args := [d1, d2, d3] }
  | _ => none }
def MeterSwapsWrongFalsely : Prop := meterSwapsRow.holds Try.pinned (OpenSpec.ofChange meterSwapsWrong)

/-- 'weaverlaw07.RouteKeys': WHATEVER THE INPUT: true; the input reads as it did. -/
def routeKeysSpec : ChangeSpec := { name := "routeKeys", fn := fun _ => fun
  | [d1, d2, d3] => { results := [.lit (.bool true)], args := [d1, d2, d3] }
  | _ => none }
def routeKeysRow : OpenClaim := { program := "ytmnohdkfnkgcdaa", sum := "e96d2cba0673d9af43c1284922a9d7adb47265c7da28b7aa57dbdd37c70019ee", func := "weaver/weaverlaw07.RouteKeys", spec := "routeKeys", unfollowed := true, recurses := true, apart := false }
def RouteKeysSaid : Prop := routeKeysRow.holds Try.pinned (OpenSpec.ofChange routeKeysSpec)

/-- ITS FALSE NEIGHBOUR: 'it returns false'. Refute it at one input. -/
def routeKeysWrong : ChangeSpec := { name := "routeKeys", fn := fun _ => fun
  | [d1, d2, d3] => { results := [.lit (.bool false)], args := [d1, d2, d3] }
  | _ => none }
def RouteKeysWrongFalsely : Prop := routeKeysRow.holds Try.pinned (OpenSpec.ofChange routeKeysWrong)

/-- 'weaverlaw07.RouteOne': WHATEVER THE INPUT: true; the input reads as it did. -/
def routeOneSpec : ChangeSpec := { name := "routeOne", fn := fun _ => fun
  | [d1, d2] => { results := [.lit (.bool true)], args := [d1, d2] }
  | _ => none }
def routeOneRow : OpenClaim := { program := "ytmnohdkfnkgcdaa", sum := "e96d2cba0673d9af43c1284922a9d7adb47265c7da28b7aa57dbdd37c70019ee", func := "weaver/weaverlaw07.RouteOne", spec := "routeOne", unfollowed := true, recurses := true, apart := false }
def RouteOneSaid : Prop := routeOneRow.holds Try.pinned (OpenSpec.ofChange routeOneSpec)

/-- ITS FALSE NEIGHBOUR: 'it returns false'. Refute it at one input. -/
def routeOneWrong : ChangeSpec := { name := "routeOne", fn := fun _ => fun
  | [d1, d2] => { results := [.lit (.bool false)], args := [d1, d2] }
  | _ => none }
def RouteOneWrongFalsely : Prop := routeOneRow.holds Try.pinned (OpenSpec.ofChange routeOneWrong)

/-- 'weaverlaw07.RouteCounts': WHATEVER THE INPUT: true; the input reads as it did. -/
def routeCountsSpec : ChangeSpec := { name := "routeCounts", fn := fun _ => fun
  | [d] => { results := [.lit (.bool true)], args := [d] }
  | _ => none }
def routeCountsRow : OpenClaim := { program := "ytmnohdkfnkgcdaa", sum := "e96d2cba0673d9af43c1284922a9d7adb47265c7da28b7aa57dbdd37c70019ee", func := "weaver/weaverlaw07.RouteCounts", spec := "routeCounts", unfollowed := true, recurses := true, apart := false }
def RouteCountsSaid : Prop := routeCountsRow.holds Try.pinned (OpenSpec.ofChange routeCountsSpec)

/-- ITS FALSE NEIGHBOUR: 'it returns false'. Refute it at one input. -/
def routeCountsWrong : ChangeSpec := { name := "routeCounts", fn := fun _ => fun
  | [d] => { results := [.lit (.bool false)], args := [d] }
  | _ => none }
def RouteCountsWrongFalsely : Prop := routeCountsRow.holds Try.pinned (OpenSpec.ofChange routeCountsWrong)

/-- 'weaverlaw07.RoutePlans': WHATEVER THE INPUT: true; the input reads as it did. -/
def routePlansSpec : ChangeSpec := { name := "routePlans", fn := fun _ => fun
  | [d1, d2, d3] => { results := [.lit (.bool true)], args := [d1, d2, d3] }
  | _ => none }
def routePlansRow : OpenClaim := { program := "ytmnohdkfnkgcdaa", sum := "e96d2cba0673d9af43c1284922a9d7adb47265c7da28b7aa57dbdd37c70019ee", func := "weaver/weaverlaw07.RoutePlans", spec := "routePlans", unfollowed := true, recurses := true, apart := false }
def RoutePlansSaid : Prop := routePlansRow.holds Try.pinned (OpenSpec.ofChange routePlansSpec)

/-- ITS FALSE NEIGHBOUR: 'it returns false'. Refute it at one input. -/
def routePlansWrong : ChangeSpec := { name := "routePlans", fn := fun _ => fun
  | [d1, d2, d3] => { results := [.lit (.bool false)], args := [d1, d2, d3] }
  | _ => none }
def RoutePlansWrongFalsely : Prop := routePlansRow.holds Try.pinned (OpenSpec.ofChange routePlansWrong)

/-- 'weaverlaw07.RouteEnds': WHATEVER THE INPUT: true; the input reads as it did. -/
def routeEndsSpec : ChangeSpec := { name := "routeEnds", fn := fun _ => fun
  | [d] => { results := [.lit (.bool true)], args := [d] }
  | _ => none }
def routeEndsRow : OpenClaim := { program := "ytmnohdkfnkgcdaa", sum := "e96d2cba0673d9af43c1284922a9d7adb47265c7da28b7aa57dbdd37c70019ee", func := "weaver/weaverlaw07.RouteEnds", spec := "routeEnds", unfollowed := true, recurses := true, apart := false }
def RouteEndsSaid : Prop := routeEndsRow.holds Try.pinned (OpenSpec.ofChange routeEndsSpec)

/-- ITS FALSE NEIGHBOUR: 'it returns false'. Refute it at one input. -/
def routeEndsWrong : ChangeSpec := { name := "routeEnds", fn := fun _ => fun
  | [d] => { results := [.lit (.bool false)], args := [d] }
  | _ => none }
def RouteEndsWrongFalsely : Prop := routeEndsRow.holds Try.pinned (OpenSpec.ofChange routeEndsWrong)

/-- 'weaverlaw09.TripPlays': WHATEVER THE INPUT: true; the input reads as it did. -/
def tripPlaysSpec : ChangeSpec := { name := "tripPlays", fn := fun _ => fun
  | [d1, d2] => { results := [.lit (.bool true)], args := [d1, d2] }
  | _ => none }
def tripPlaysRow : OpenClaim := { program := "ytmnohdkfnkgcdaa", sum := "e96d2cba0673d9af43c1284922a9d7adb47265c7da28b7aa57dbdd37c70019ee", func := "weaver/weaverlaw09.TripPlays", spec := "tripPlays", inPlace := ["sync/atomic.StoreUint32", "sync/atomic.LoadUint32", "(*internal/sync.Mutex).Lock", "internal/race.Disable", "sync/atomic.CompareAndSwapInt32", "internal/race.Enable", "internal/race.Acquire", "(*internal/sync.Mutex).lockSlow", "internal/sync.runtime_canSpin", "internal/sync.runtime_doSpin", "internal/sync.throw", "internal/sync.runtime_nanotime", "internal/sync.runtime_SemacquireMutex", "sync/atomic.AddInt32", "(*internal/sync.Mutex).Unlock", "internal/race.ReleaseMerge", "(*internal/sync.Mutex).unlockSlow", "internal/sync.fatal", "internal/sync.runtime_Semrelease"], unfollowed := true, recurses := true, apart := false }
def TripPlaysSaid : Prop := tripPlaysRow.holds Try.pinned (OpenSpec.ofChange tripPlaysSpec)

/-- ITS FALSE NEIGHBOUR: 'it returns false'. Refute it at one input. -/
def tripPlaysWrong : ChangeSpec := { name := "tripPlays", fn := fun _ => fun
  | [d1, d2] => { results := [.lit (.bool false)], args := [d1, d2] }
  | _ => none }
def TripPlaysWrongFalsely : Prop := tripPlaysRow.holds Try.pinned (OpenSpec.ofChange tripPlaysWrong)

/-- 'weaverlaw09.TripStays': WHATEVER THE INPUT: true; the input reads as it did. -/
def tripStaysSpec : ChangeSpec := { name := "tripStays", fn := fun _ => fun
  | [d1, d2, d3] => { results := [.lit (.bool true)], args := [d1, d2, d3] }
  | _ => none }
def tripStaysRow : OpenClaim := { program := "ytmnohdkfnkgcdaa", sum := "e96d2cba0673d9af43c1284922a9d7adb47265c7da28b7aa57dbdd37c70019ee", func := "weaver/weaverlaw09.TripStays", spec := "tripStays", inPlace := ["sync/atomic.LoadUint32", "sync/atomic.StoreUint32", "(*internal/sync.Mutex).Lock", "internal/race.Disable", "sync/atomic.CompareAndSwapInt32", "internal/race.Enable", "internal/race.Acquire", "(*internal/sync.Mutex).lockSlow", "internal/sync.runtime_canSpin", "internal/sync.runtime_doSpin", "internal/sync.throw", "internal/sync.runtime_nanotime", "internal/sync.runtime_SemacquireMutex", "sync/atomic.AddInt32", "(*internal/sync.Mutex).Unlock", "internal/race.ReleaseMerge", "(*internal/sync.Mutex).unlockSlow", "internal/sync.fatal", "internal/sync.runtime_Semrelease"], unfollowed := true, recurses := true, apart := false }
def TripStaysSaid : Prop := tripStaysRow.holds Try.pinned (OpenSpec.ofChange tripStaysSpec)

/-- ITS FALSE NEIGHBOUR: 'it returns false'. Refute it at one input. -/
def tripStaysWrong : ChangeSpec := { name := "tripStays", fn := fun _ => fun
  | [d1, d2, d3] => { results := [.lit (.bool false)], args := [d1, d2, d3] }
  | _ => none }
def TripStaysWrongFalsely : Prop := tripStaysRow.holds Try.pinned (OpenSpec.ofChange tripStaysWrong)

/-- 'weaverlaw09.TripRoom': WHATEVER THE INPUT: true; the input reads as it did. -/
def tripRoomSpec : ChangeSpec := { name := "tripRoom", fn := fun _ => fun
  | [d1, d2] => { results := [.lit (.bool true)], args := [d1, d2] }
  | _ => none }
def tripRoomRow : OpenClaim := { program := "ytmnohdkfnkgcdaa", sum := "e96d2cba0673d9af43c1284922a9d7adb47265c7da28b7aa57dbdd37c70019ee", func := "weaver/weaverlaw09.TripRoom", spec := "tripRoom", inPlace := ["sync/atomic.LoadUint32", "sync/atomic.StoreUint32", "(*internal/sync.Mutex).Lock", "internal/race.Disable", "sync/atomic.CompareAndSwapInt32", "internal/race.Enable", "internal/race.Acquire", "(*internal/sync.Mutex).lockSlow", "internal/sync.runtime_canSpin", "internal/sync.runtime_doSpin", "internal/sync.throw", "internal/sync.runtime_nanotime", "internal/sync.runtime_SemacquireMutex", "sync/atomic.AddInt32", "(*internal/sync.Mutex).Unlock", "internal/race.ReleaseMerge", "(*internal/sync.Mutex).unlockSlow", "internal/sync.fatal", "internal/sync.runtime_Semrelease"], unfollowed := true, recurses := true, apart := false }
def TripRoomSaid : Prop := tripRoomRow.holds Try.pinned (OpenSpec.ofChange tripRoomSpec)

/-- ITS FALSE NEIGHBOUR: 'it returns false'. Refute it at one input. -/
def tripRoomWrong : ChangeSpec := { name := "tripRoom", fn := fun _ => fun
  | [d1, d2] => { results := [.lit (.bool false)], args := [d1, d2] }
  | _ => none }
def TripRoomWrongFalsely : Prop := tripRoomRow.holds Try.pinned (OpenSpec.ofChange tripRoomWrong)

/- THE SECOND FORM. 'bulk': how many values and letters a reading holds, each counted each time it is reached (what is shared counts as often as it is met; a slice's spare places count too). A statement '..UptoSaid' is the law's where the arguments, and the package variables that the reading takes, are together of bulk at most 1048576: NARROWER than '..Said'. Prove '..Said' where nothing that the law and all that it calls make is longer than what came in: it says more and counts as full. Else prove '..UptoSaid'. A law counts once. -/
mutual
def uptoBulk {H : Type} : DataW H → Nat
  | .lit (.string bytes) => bytes.length + 1
  | .lit _ => 1
  | .nil => 1
  | .ptr d => uptoBulk d + 1
  | .slice elems spare => uptoBulkAll elems + uptoBulkAll spare + 1
  | .agg parts => uptoBulkAll parts + 1
  | .iface _ d => uptoBulk d + 1
  | .map entries => uptoBulkEntries entries + 1
  | .held _ => 1
def uptoBulkAll {H : Type} : List (DataW H) → Nat
  | [] => 0
  | d :: r => uptoBulk d + uptoBulkAll r
def uptoBulkEntries {H : Type} : List (Lit × DataW H) → Nat
  | [] => 0
  | x :: r => uptoBulkEntry x + uptoBulkEntries r
def uptoBulkEntry {H : Type} : Lit × DataW H → Nat
  | (.string bytes, d) => bytes.length + uptoBulk d + 1
  | (_, d) => uptoBulk d + 1
 end
def uptoSmall : (H : Type) → List (DataW H) → Bool := fun _ ds => decide (uptoBulkAll ds ≤ 1048576)
def OpenSpec.upto (s : _root_.Go.ChangeSpec) : _root_.Go.OpenSpec := { _root_.Go.OpenSpec.ofChange s with cond := some uptoSmall }

/-- 'weaverlaw08.MeterPlays', WHERE WHAT IT READS IS OF BULK AT MOST 1048576: true; the input reads as it did. -/
def meterPlaysUptoRow : OpenClaim := { program := "ytmnohdkfnkgcdaa", sum := "e96d2cba0673d9af43c1284922a9d7adb47265c7da28b7aa57dbdd37c70019ee", func := "weaver/weaverlaw08.MeterPlays", spec := "meterPlays", inPlace := ["sync/atomic.LoadInt64", "sync/atomic.CompareAndSwapInt64", "sync/atomic.AddInt64"], unfollowed := true, recurses := true, apart := false, narrowed := true }
def MeterPlaysUptoSaid : Prop := meterPlaysUptoRow.holds Try.pinned (OpenSpec.upto meterPlaysSpec)

/-- 'weaverlaw08.MeterOrder', WHERE WHAT IT READS IS OF BULK AT MOST 1048576: true; the input reads as it did. -/
def meterOrderUptoRow : OpenClaim := { program := "ytmnohdkfnkgcdaa", sum := "e96d2cba0673d9af43c1284922a9d7adb47265c7da28b7aa57dbdd37c70019ee", func := "weaver/weaverlaw08.MeterOrder", spec := "meterOrder", inPlace := ["sync/atomic.LoadInt64", "sync/atomic.CompareAndSwapInt64", "sync/atomic.AddInt64"], unfollowed := true, recurses := true, apart := false, narrowed := true }
def MeterOrderUptoSaid : Prop := meterOrderUptoRow.holds Try.pinned (OpenSpec.upto meterOrderSpec)

/-- 'weaverlaw08.MeterMost', WHERE WHAT IT READS IS OF BULK AT MOST 1048576: true; the input reads as it did. -/
def meterMostUptoRow : OpenClaim := { program := "ytmnohdkfnkgcdaa", sum := "e96d2cba0673d9af43c1284922a9d7adb47265c7da28b7aa57dbdd37c70019ee", func := "weaver/weaverlaw08.MeterMost", spec := "meterMost", inPlace := ["sync/atomic.LoadInt64", "sync/atomic.CompareAndSwapInt64", "sync/atomic.AddInt64"], unfollowed := true, recurses := true, apart := false, narrowed := true }
def MeterMostUptoSaid : Prop := meterMostUptoRow.holds Try.pinned (OpenSpec.upto meterMostSpec)

/-- 'weaverlaw08.MeterSwaps', WHERE WHAT IT READS IS OF BULK AT MOST 1048576: true; the input reads as it did. -/
def meterSwapsUptoRow : OpenClaim := { program := "ytmnohdkfnkgcdaa", sum := "e96d2cba0673d9af43c1284922a9d7adb47265c7da28b7aa57dbdd37c70019ee", func := "weaver/weaverlaw08.MeterSwaps", spec := "meterSwaps", inPlace := ["sync/atomic.LoadInt64", "sync/atomic.CompareAndSwapInt64", "sync/atomic.AddInt64"], unfollowed := true, recurses := true, apart := false, narrowed := true }
def MeterSwapsUptoSaid : Prop := meterSwapsUptoRow.holds Try.pinned (OpenSpec.upto meterSwapsSpec)

/-- 'weaverlaw07.RouteKeys', WHERE WHAT IT READS IS OF BULK AT MOST 1048576: true; the input reads as it did. -/
def routeKeysUptoRow : OpenClaim := { program := "ytmnohdkfnkgcdaa", sum := "e96d2cba0673d9af43c1284922a9d7adb47265c7da28b7aa57dbdd37c70019ee", func := "weaver/weaverlaw07.RouteKeys", spec := "routeKeys", unfollowed := true, recurses := true, apart := false, narrowed := true }
def RouteKeysUptoSaid : Prop := routeKeysUptoRow.holds Try.pinned (OpenSpec.upto routeKeysSpec)

/-- 'weaverlaw07.RouteOne', WHERE WHAT IT READS IS OF BULK AT MOST 1048576: true; the input reads as it did. -/
def routeOneUptoRow : OpenClaim := { program := "ytmnohdkfnkgcdaa", sum := "e96d2cba0673d9af43c1284922a9d7adb47265c7da28b7aa57dbdd37c70019ee", func := "weaver/weaverlaw07.RouteOne", spec := "routeOne", unfollowed := true, recurses := true, apart := false, narrowed := true }
def RouteOneUptoSaid : Prop := routeOneUptoRow.holds Try.pinned (OpenSpec.upto routeOneSpec)

/-- 'weaverlaw07.RouteCounts', WHERE WHAT IT READS IS OF BULK AT MOST 1048576: true; the input reads as it did. -/
def routeCountsUptoRow : OpenClaim := { program := "ytmnohdkfnkgcdaa", sum := "e96d2cba0673d9af43c1284922a9d7adb47265c7da28b7aa57dbdd37c70019ee", func := "weaver/weaverlaw07.RouteCounts", spec := "routeCounts", unfollowed := true, recurses := true, apart := false, narrowed := true }
def RouteCountsUptoSaid : Prop := routeCountsUptoRow.holds Try.pinned (OpenSpec.upto routeCountsSpec)

/-- 'weaverlaw07.RoutePlans', WHERE WHAT IT READS IS OF BULK AT MOST 1048576: true; the input reads as it did. -/
def routePlansUptoRow : OpenClaim := { program := "ytmnohdkfnkgcdaa", sum := "e96d2cba0673d9af43c1284922a9d7adb47265c7da28b7aa57dbdd37c70019ee", func := "weaver/weaverlaw07.RoutePlans", spec := "routePlans", unfollowed := true, recurses := true, apart := false, narrowed := true }
def RoutePlansUptoSaid : Prop := routePlansUptoRow.holds Try.pinned (OpenSpec.upto routePlansSpec)

/-- 'weaverlaw07.RouteEnds', WHERE WHAT IT READS IS OF BULK AT MOST 1048576: true; the input reads as it did. -/
def routeEndsUptoRow : OpenClaim := { program := "ytmnohdkfnkgcdaa", sum := "e96d2cba0673d9af43c1284922a9d7adb47265c7da28b7aa57dbdd37c70019ee", func := "weaver/weaverlaw07.RouteEnds", spec := "routeEnds", unfollowed := true, recurses := true, apart := false, narrowed := true }
def RouteEndsUptoSaid : Prop := routeEndsUptoRow.holds Try.pinned (OpenSpec.upto routeEndsSpec)

/-- 'weaverlaw09.TripPlays', WHERE WHAT IT READS IS OF BULK AT MOST 1048576: true; the input reads as it did. -/
def tripPlaysUptoRow : OpenClaim := { program := "ytmnohdkfnkgcdaa", sum := "e96d2cba0673d9af43c1284922a9d7adb47265c7da28b7aa57dbdd37c70019ee", func := "weaver/weaverlaw09.TripPlays", spec := "tripPlays", inPlace := ["sync/atomic.StoreUint32", "sync/atomic.LoadUint32", "(*internal/sync.Mutex).Lock", "internal/race.Disable", "sync/atomic.CompareAndSwapInt32", "internal/race.Enable", "internal/race.Acquire", "(*internal/sync.Mutex).lockSlow", "internal/sync.runtime_canSpin", "internal/sync.runtime_doSpin", "internal/sync.throw", "internal/sync.runtime_nanotime", "internal/sync.runtime_SemacquireMutex", "sync/atomic.AddInt32", "(*internal/sync.Mutex).Unlock", "internal/race.ReleaseMerge", "(*internal/sync.Mutex).unlockSlow", "internal/sync.fatal", "internal/sync.runtime_Semrelease"], unfollowed := true, recurses := true, apart := false, narrowed := true }
def TripPlaysUptoSaid : Prop := tripPlaysUptoRow.holds Try.pinned (OpenSpec.upto tripPlaysSpec)

/-- 'weaverlaw09.TripStays', WHERE WHAT IT READS IS OF BULK AT MOST 1048576: true; the input reads as it did. -/
def tripStaysUptoRow : OpenClaim := { program := "ytmnohdkfnkgcdaa", sum := "e96d2cba0673d9af43c1284922a9d7adb47265c7da28b7aa57dbdd37c70019ee", func := "weaver/weaverlaw09.TripStays", spec := "tripStays", inPlace := ["sync/atomic.LoadUint32", "sync/atomic.StoreUint32", "(*internal/sync.Mutex).Lock", "internal/race.Disable", "sync/atomic.CompareAndSwapInt32", "internal/race.Enable", "internal/race.Acquire", "(*internal/sync.Mutex).lockSlow", "internal/sync.runtime_canSpin", "internal/sync.runtime_doSpin", "internal/sync.throw", "internal/sync.runtime_nanotime", "internal/sync.runtime_SemacquireMutex", "sync/atomic.AddInt32", "(*internal/sync.Mutex).Unlock", "internal/race.ReleaseMerge", "(*internal/sync.Mutex).unlockSlow", "internal/sync.fatal", "internal/sync.runtime_Semrelease"], unfollowed := true, recurses := true, apart := false, narrowed := true }
def TripStaysUptoSaid : Prop := tripStaysUptoRow.holds Try.pinned (OpenSpec.upto tripStaysSpec)

/-- 'weaverlaw09.TripRoom', WHERE WHAT IT READS IS OF BULK AT MOST 1048576: true; the input reads as it did. -/
def tripRoomUptoRow : OpenClaim := { program := "ytmnohdkfnkgcdaa", sum := "e96d2cba0673d9af43c1284922a9d7adb47265c7da28b7aa57dbdd37c70019ee", func := "weaver/weaverlaw09.TripRoom", spec := "tripRoom", inPlace := ["sync/atomic.LoadUint32", "sync/atomic.StoreUint32", "(*internal/sync.Mutex).Lock", "internal/race.Disable", "sync/atomic.CompareAndSwapInt32", "internal/race.Enable", "internal/race.Acquire", "(*internal/sync.Mutex).lockSlow", "internal/sync.runtime_canSpin", "internal/sync.runtime_doSpin", "internal/sync.throw", "internal/sync.runtime_nanotime", "internal/sync.runtime_SemacquireMutex", "sync/atomic.AddInt32", "(*internal/sync.Mutex).Unlock", "internal/race.ReleaseMerge", "(*internal/sync.Mutex).unlockSlow", "internal/sync.fatal", "internal/sync.runtime_Semrelease"], unfollowed := true, recurses := true, apart := false, narrowed := true }
def TripRoomUptoSaid : Prop := tripRoomUptoRow.holds Try.pinned (OpenSpec.upto tripRoomSpec)

end Rows
end Go.Proofs.Ytmnohdkfnkgcdaa

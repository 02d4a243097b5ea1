/-
  No cell of these rows narrows 'for every input' (looked for: loops, veiled, ifaces, maps, wideKeys, modest, calm, conditions, laid).
  DERIVED. THE GIVEN ROWS OF THIS SEAT. 10 by the template 'for every input the law returns true; each argument reads behind the call as it read before'; 0 by the template 'total and deterministic' (their statements: YthelmobipjekjaaGreatTotals.lean).
  GIVEN WITH THE SEED: the statements are not yours to turn. If you find one false, say at which input.
  Laid BY PROGRAM, IN A SANDBOX (cutbox-rows.mjs): the forced cells as the released guide's own fill.sh prints them over the translation 2fea6c4d4d6e10c7… (all of the seat's roots in one cut). By AI agents, Wed Nov 11 2026. No macro, syntax, notation, axiom, sorry.
-/
import Derived.Test.YthelmobipjekjaaGreatChecked
import GoSem.Claim
import GoSem.ClaimJoined
import GoSem.ClaimMapViews
import Derived.JoinedTies
import Derived.KernelRfl
namespace Go.Proofs.YthelmobipjekjaaGreat
/- THE CELL 'sum', in the pinned program and in every row, IS THE sha256 OF THE DUMP (.gsa) THAT YthelmobipjekjaaGreatProg.lean LOADS. Nothing in Lean hashes anything: it is a label: what it is worth is what the hold of that sum in a sandbox is worth. -/
noncomputable def Tryz.pinned : Pinned := { name := "ythelmobipjekjaagreat", sum := "2fea6c4d4d6e10c7ee1ed91e6db451146cb6cfadeee28c8c641c8cfe16959601", checked := Tryz.checked }
namespace Rows
def none {H : Type} : Left H := { results := [], args := [] }

/-- 'trammellaw24.BareRuns': WHATEVER THE INPUT: true; the input reads as it did. -/
def bareRunsSpec : ChangeSpec := { name := "bareRuns", fn := fun _ => fun
  | [d1, d2, d3, d4] => { results := [.lit (.bool true)], args := [d1, d2, d3, d4] }
  | _ => none }
def bareRunsRow : OpenClaim := { program := "ythelmobipjekjaagreat", sum := "2fea6c4d4d6e10c7ee1ed91e6db451146cb6cfadeee28c8c641c8cfe16959601", func := "trammel/trammellaw24.BareRuns", spec := "bareRuns", unfollowed := true, recurses := true, apart := false }
def BareRunsSaid : Prop := bareRunsRow.holds Tryz.pinned (OpenSpec.ofChange bareRunsSpec)

/-- ITS FALSE NEIGHBOUR: 'it returns false'. Refute it at one input. -/
def bareRunsWrong : ChangeSpec := { name := "bareRuns", fn := fun _ => fun
  | [d1, d2, d3, d4] => { results := [.lit (.bool false)], args := [d1, d2, d3, d4] }
  | _ => none }
def BareRunsWrongFalsely : Prop := bareRunsRow.holds Tryz.pinned (OpenSpec.ofChange bareRunsWrong)

/-- 'trammellaw24.BareWatches': WHATEVER THE INPUT: true; the input reads as it did. -/
def bareWatchesSpec : ChangeSpec := { name := "bareWatches", fn := fun _ => fun
  | [d1, d2, d3, d4, d5] => { results := [.lit (.bool true)], args := [d1, d2, d3, d4, d5] }
  | _ => none }
def bareWatchesRow : OpenClaim := { program := "ythelmobipjekjaagreat", sum := "2fea6c4d4d6e10c7ee1ed91e6db451146cb6cfadeee28c8c641c8cfe16959601", func := "trammel/trammellaw24.BareWatches", spec := "bareWatches", unfollowed := true, recurses := true, apart := false }
def BareWatchesSaid : Prop := bareWatchesRow.holds Tryz.pinned (OpenSpec.ofChange bareWatchesSpec)

/-- ITS FALSE NEIGHBOUR: 'it returns false'. Refute it at one input. -/
def bareWatchesWrong : ChangeSpec := { name := "bareWatches", fn := fun _ => fun
  | [d1, d2, d3, d4, d5] => { results := [.lit (.bool false)], args := [d1, d2, d3, d4, d5] }
  | _ => none }
def BareWatchesWrongFalsely : Prop := bareWatchesRow.holds Tryz.pinned (OpenSpec.ofChange bareWatchesWrong)

/-- 'trammellaw24.BareStorage': WHATEVER THE INPUT: true; the input reads as it did. -/
def bareStorageSpec : ChangeSpec := { name := "bareStorage", fn := fun _ => fun
  | [d1, d2, d3, d4] => { results := [.lit (.bool true)], args := [d1, d2, d3, d4] }
  | _ => none }
def bareStorageRow : OpenClaim := { program := "ythelmobipjekjaagreat", sum := "2fea6c4d4d6e10c7ee1ed91e6db451146cb6cfadeee28c8c641c8cfe16959601", func := "trammel/trammellaw24.BareStorage", spec := "bareStorage", unfollowed := true, recurses := true, apart := false }
def BareStorageSaid : Prop := bareStorageRow.holds Tryz.pinned (OpenSpec.ofChange bareStorageSpec)

/-- ITS FALSE NEIGHBOUR: 'it returns false'. Refute it at one input. -/
def bareStorageWrong : ChangeSpec := { name := "bareStorage", fn := fun _ => fun
  | [d1, d2, d3, d4] => { results := [.lit (.bool false)], args := [d1, d2, d3, d4] }
  | _ => none }
def BareStorageWrongFalsely : Prop := bareStorageRow.holds Tryz.pinned (OpenSpec.ofChange bareStorageWrong)

/-- 'trammellaw24.BareKnown': WHATEVER THE INPUT: true; the input reads as it did. -/
def bareKnownSpec : ChangeSpec := { name := "bareKnown", fn := fun _ => fun
  | [] => { results := [.lit (.bool true)], args := [] }
  | _ => none }
def bareKnownRow : OpenClaim := { program := "ythelmobipjekjaagreat", sum := "2fea6c4d4d6e10c7ee1ed91e6db451146cb6cfadeee28c8c641c8cfe16959601", func := "trammel/trammellaw24.BareKnown", spec := "bareKnown", unfollowed := true, recurses := true, apart := false }
def BareKnownSaid : Prop := bareKnownRow.holds Tryz.pinned (OpenSpec.ofChange bareKnownSpec)

/-- ITS FALSE NEIGHBOUR: 'it returns false'. Refute it at one input. -/
def bareKnownWrong : ChangeSpec := { name := "bareKnown", fn := fun _ => fun
  | [] => { results := [.lit (.bool false)], args := [] }
  | _ => none }
def BareKnownWrongFalsely : Prop := bareKnownRow.holds Tryz.pinned (OpenSpec.ofChange bareKnownWrong)

/-- 'trammellaw26.HostSteps': WHATEVER THE INPUT: true; the input reads as it did. -/
def hostStepsSpec : ChangeSpec := { name := "hostSteps", fn := fun _ => fun
  | [d] => { results := [.lit (.bool true)], args := [d] }
  | _ => none }
def hostStepsRow : OpenClaim := { program := "ythelmobipjekjaagreat", sum := "2fea6c4d4d6e10c7ee1ed91e6db451146cb6cfadeee28c8c641c8cfe16959601", func := "trammel/trammellaw26.HostSteps", spec := "hostSteps", inPlace := ["(*internal/sync.Mutex).Lock", "internal/race.Disable", "sync/atomic.CompareAndSwapInt32", "internal/race.Enable", "internal/race.Acquire", "(*internal/sync.Mutex).lockSlow", "internal/sync.runtime_canSpin", "internal/sync.runtime_doSpin", "internal/sync.throw", "internal/sync.runtime_nanotime", "internal/sync.runtime_SemacquireMutex", "sync/atomic.AddInt32", "(*internal/sync.Mutex).Unlock", "internal/race.ReleaseMerge", "(*internal/sync.Mutex).unlockSlow", "internal/sync.fatal", "internal/sync.runtime_Semrelease"], unfollowed := true, recurses := true, apart := false }
def HostStepsSaid : Prop := hostStepsRow.holds Tryz.pinned (OpenSpec.ofChange hostStepsSpec)

/-- ITS FALSE NEIGHBOUR: 'it returns false'. Refute it at one input. -/
def hostStepsWrong : ChangeSpec := { name := "hostSteps", fn := fun _ => fun
  | [d] => { results := [.lit (.bool false)], args := [d] }
  | _ => none }
def HostStepsWrongFalsely : Prop := hostStepsRow.holds Tryz.pinned (OpenSpec.ofChange hostStepsWrong)

/-- 'trammellaw26.HostAlone': WHATEVER THE INPUT: true; the input reads as it did. -/
def hostAloneSpec : ChangeSpec := { name := "hostAlone", fn := fun _ => fun
  | [d1, d2, d3, d4] => { results := [.lit (.bool true)], args := [d1, d2, d3, d4] }
  | _ => none }
def hostAloneRow : OpenClaim := { program := "ythelmobipjekjaagreat", sum := "2fea6c4d4d6e10c7ee1ed91e6db451146cb6cfadeee28c8c641c8cfe16959601", func := "trammel/trammellaw26.HostAlone", spec := "hostAlone", inPlace := ["(*internal/sync.Mutex).Lock", "internal/race.Disable", "sync/atomic.CompareAndSwapInt32", "internal/race.Enable", "internal/race.Acquire", "(*internal/sync.Mutex).lockSlow", "internal/sync.runtime_canSpin", "internal/sync.runtime_doSpin", "internal/sync.throw", "internal/sync.runtime_nanotime", "internal/sync.runtime_SemacquireMutex", "sync/atomic.AddInt32", "(*internal/sync.Mutex).Unlock", "internal/race.ReleaseMerge", "(*internal/sync.Mutex).unlockSlow", "internal/sync.fatal", "internal/sync.runtime_Semrelease"], unfollowed := true, recurses := true, apart := false }
def HostAloneSaid : Prop := hostAloneRow.holds Tryz.pinned (OpenSpec.ofChange hostAloneSpec)

/-- ITS FALSE NEIGHBOUR: 'it returns false'. Refute it at one input. -/
def hostAloneWrong : ChangeSpec := { name := "hostAlone", fn := fun _ => fun
  | [d1, d2, d3, d4] => { results := [.lit (.bool false)], args := [d1, d2, d3, d4] }
  | _ => none }
def HostAloneWrongFalsely : Prop := hostAloneRow.holds Tryz.pinned (OpenSpec.ofChange hostAloneWrong)

/-- 'trammellaw24.BareGuard': WHATEVER THE INPUT: true; the input reads as it did. -/
def bareGuardSpec : ChangeSpec := { name := "bareGuard", fn := fun _ => fun
  | [d1, d2, d3, d4] => { results := [.lit (.bool true)], args := [d1, d2, d3, d4] }
  | _ => none }
def bareGuardRow : OpenClaim := { program := "ythelmobipjekjaagreat", sum := "2fea6c4d4d6e10c7ee1ed91e6db451146cb6cfadeee28c8c641c8cfe16959601", func := "trammel/trammellaw24.BareGuard", spec := "bareGuard", unfollowed := true, recurses := true, apart := false }
def BareGuardSaid : Prop := bareGuardRow.holds Tryz.pinned (OpenSpec.ofChange bareGuardSpec)

/-- ITS FALSE NEIGHBOUR: 'it returns false'. Refute it at one input. -/
def bareGuardWrong : ChangeSpec := { name := "bareGuard", fn := fun _ => fun
  | [d1, d2, d3, d4] => { results := [.lit (.bool false)], args := [d1, d2, d3, d4] }
  | _ => none }
def BareGuardWrongFalsely : Prop := bareGuardRow.holds Tryz.pinned (OpenSpec.ofChange bareGuardWrong)

/-- 'trammellaw26.HostPlays': WHATEVER THE INPUT: true; the input reads as it did. -/
def hostPlaysSpec : ChangeSpec := { name := "hostPlays", fn := fun _ => fun
  | [d] => { results := [.lit (.bool true)], args := [d] }
  | _ => none }
def hostPlaysRow : OpenClaim := { program := "ythelmobipjekjaagreat", sum := "2fea6c4d4d6e10c7ee1ed91e6db451146cb6cfadeee28c8c641c8cfe16959601", func := "trammel/trammellaw26.HostPlays", spec := "hostPlays", inPlace := ["(*internal/sync.Mutex).Lock", "internal/race.Disable", "sync/atomic.CompareAndSwapInt32", "internal/race.Enable", "internal/race.Acquire", "(*internal/sync.Mutex).lockSlow", "internal/sync.runtime_canSpin", "internal/sync.runtime_doSpin", "internal/sync.throw", "internal/sync.runtime_nanotime", "internal/sync.runtime_SemacquireMutex", "sync/atomic.AddInt32", "(*internal/sync.Mutex).Unlock", "internal/race.ReleaseMerge", "(*internal/sync.Mutex).unlockSlow", "internal/sync.fatal", "internal/sync.runtime_Semrelease"], unfollowed := true, recurses := true, apart := false }
def HostPlaysSaid : Prop := hostPlaysRow.holds Tryz.pinned (OpenSpec.ofChange hostPlaysSpec)

/-- ITS FALSE NEIGHBOUR: 'it returns false'. Refute it at one input. -/
def hostPlaysWrong : ChangeSpec := { name := "hostPlays", fn := fun _ => fun
  | [d] => { results := [.lit (.bool false)], args := [d] }
  | _ => none }
def HostPlaysWrongFalsely : Prop := hostPlaysRow.holds Tryz.pinned (OpenSpec.ofChange hostPlaysWrong)

/-- 'trammellaw26.HostNone': WHATEVER THE INPUT: true; the input reads as it did. -/
def hostNoneSpec : ChangeSpec := { name := "hostNone", fn := fun _ => fun
  | [d] => { results := [.lit (.bool true)], args := [d] }
  | _ => none }
def hostNoneRow : OpenClaim := { program := "ythelmobipjekjaagreat", sum := "2fea6c4d4d6e10c7ee1ed91e6db451146cb6cfadeee28c8c641c8cfe16959601", func := "trammel/trammellaw26.HostNone", spec := "hostNone", inPlace := ["(*internal/sync.Mutex).Lock", "internal/race.Disable", "sync/atomic.CompareAndSwapInt32", "internal/race.Enable", "internal/race.Acquire", "(*internal/sync.Mutex).lockSlow", "internal/sync.runtime_canSpin", "internal/sync.runtime_doSpin", "internal/sync.throw", "internal/sync.runtime_nanotime", "internal/sync.runtime_SemacquireMutex", "sync/atomic.AddInt32", "(*internal/sync.Mutex).Unlock", "internal/race.ReleaseMerge", "(*internal/sync.Mutex).unlockSlow", "internal/sync.fatal", "internal/sync.runtime_Semrelease"], unfollowed := true, recurses := true, apart := false }
def HostNoneSaid : Prop := hostNoneRow.holds Tryz.pinned (OpenSpec.ofChange hostNoneSpec)

/-- ITS FALSE NEIGHBOUR: 'it returns false'. Refute it at one input. -/
def hostNoneWrong : ChangeSpec := { name := "hostNone", fn := fun _ => fun
  | [d] => { results := [.lit (.bool false)], args := [d] }
  | _ => none }
def HostNoneWrongFalsely : Prop := hostNoneRow.holds Tryz.pinned (OpenSpec.ofChange hostNoneWrong)

/-- 'trammellaw26.HostKnown': WHATEVER THE INPUT: true; the input reads as it did. -/
def hostKnownSpec : ChangeSpec := { name := "hostKnown", fn := fun _ => fun
  | [] => { results := [.lit (.bool true)], args := [] }
  | _ => none }
def hostKnownRow : OpenClaim := { program := "ythelmobipjekjaagreat", sum := "2fea6c4d4d6e10c7ee1ed91e6db451146cb6cfadeee28c8c641c8cfe16959601", func := "trammel/trammellaw26.HostKnown", spec := "hostKnown", inPlace := ["(*internal/sync.Mutex).Lock", "internal/race.Disable", "sync/atomic.CompareAndSwapInt32", "internal/race.Enable", "internal/race.Acquire", "(*internal/sync.Mutex).lockSlow", "internal/sync.runtime_canSpin", "internal/sync.runtime_doSpin", "internal/sync.throw", "internal/sync.runtime_nanotime", "internal/sync.runtime_SemacquireMutex", "sync/atomic.AddInt32", "(*internal/sync.Mutex).Unlock", "internal/race.ReleaseMerge", "(*internal/sync.Mutex).unlockSlow", "internal/sync.fatal", "internal/sync.runtime_Semrelease"], unfollowed := true, recurses := true, apart := false }
def HostKnownSaid : Prop := hostKnownRow.holds Tryz.pinned (OpenSpec.ofChange hostKnownSpec)

/-- ITS FALSE NEIGHBOUR: 'it returns false'. Refute it at one input. -/
def hostKnownWrong : ChangeSpec := { name := "hostKnown", fn := fun _ => fun
  | [] => { results := [.lit (.bool false)], args := [] }
  | _ => none }
def HostKnownWrongFalsely : Prop := hostKnownRow.holds Tryz.pinned (OpenSpec.ofChange hostKnownWrong)

/- THE SECOND FORM. 'bulk': how many values and letters a reading holds, each counted each time it is reached (what is shared counts as often as it is met; a slice's spare places count too). A statement '..UptoSaid' is the law's where the arguments, and the package variables that the reading takes, are together of bulk at most 1048576: NARROWER than '..Said'. Prove '..Said' where nothing that the law and all that it calls make is longer than what came in: it says more and counts as full. Else prove '..UptoSaid'. A law counts once. -/
mutual
def uptoBulk {H : Type} : DataW H → Nat
  | .lit (.string bytes) => bytes.length + 1
  | .lit _ => 1
  | .nil => 1
  | .ptr d => uptoBulk d + 1
  | .slice elems spare => uptoBulkAll elems + uptoBulkAll spare + 1
  | .agg parts => uptoBulkAll parts + 1
  | .iface _ d => uptoBulk d + 1
  | .map entries => uptoBulkEntries entries + 1
  | .held _ => 1
def uptoBulkAll {H : Type} : List (DataW H) → Nat
  | [] => 0
  | d :: r => uptoBulk d + uptoBulkAll r
def uptoBulkEntries {H : Type} : List (Lit × DataW H) → Nat
  | [] => 0
  | x :: r => uptoBulkEntry x + uptoBulkEntries r
def uptoBulkEntry {H : Type} : Lit × DataW H → Nat
  | (.string bytes, d) => bytes.length + uptoBulk d + 1
  | (_, d) => uptoBulk d + 1
 end
def uptoSmall : (H : Type) → List (DataW H) → Bool := fun _ ds => decide (uptoBulkAll ds ≤ 1048576)
def OpenSpec.upto (s : _root_.Go.ChangeSpec) : _root_.Go.OpenSpec := { _root_.Go.OpenSpec.ofChange s with cond := some uptoSmall }

/-- 'trammellaw24.BareRuns', WHERE WHAT IT READS IS OF BULK AT MOST 1048576: true; the input reads as it did. -/
def bareRunsUptoRow : OpenClaim := { program := "ythelmobipjekjaagreat", sum := "2fea6c4d4d6e10c7ee1ed91e6db451146cb6cfadeee28c8c641c8cfe16959601", func := "trammel/trammellaw24.BareRuns", spec := "bareRuns", unfollowed := true, recurses := true, apart := false, narrowed := true }
def BareRunsUptoSaid : Prop := bareRunsUptoRow.holds Tryz.pinned (OpenSpec.upto bareRunsSpec)

/-- 'trammellaw24.BareWatches', WHERE WHAT IT READS IS OF BULK AT MOST 1048576: true; the input reads as it did. -/
def bareWatchesUptoRow : OpenClaim := { program := "ythelmobipjekjaagreat", sum := "2fea6c4d4d6e10c7ee1ed91e6db451146cb6cfadeee28c8c641c8cfe16959601", func := "trammel/trammellaw24.BareWatches", spec := "bareWatches", unfollowed := true, recurses := true, apart := false, narrowed := true }
def BareWatchesUptoSaid : Prop := bareWatchesUptoRow.holds Tryz.pinned (OpenSpec.upto bareWatchesSpec)

/-- 'trammellaw24.BareStorage', WHERE WHAT IT READS IS OF BULK AT MOST 1048576: true; the input reads as it did. -/
def bareStorageUptoRow : OpenClaim := { program := "ythelmobipjekjaagreat", sum := "2fea6c4d4d6e10c7ee1ed91e6db451146cb6cfadeee28c8c641c8cfe16959601", func := "trammel/trammellaw24.BareStorage", spec := "bareStorage", unfollowed := true, recurses := true, apart := false, narrowed := true }
def BareStorageUptoSaid : Prop := bareStorageUptoRow.holds Tryz.pinned (OpenSpec.upto bareStorageSpec)

/-- 'trammellaw24.BareKnown', WHERE WHAT IT READS IS OF BULK AT MOST 1048576: true; the input reads as it did. -/
def bareKnownUptoRow : OpenClaim := { program := "ythelmobipjekjaagreat", sum := "2fea6c4d4d6e10c7ee1ed91e6db451146cb6cfadeee28c8c641c8cfe16959601", func := "trammel/trammellaw24.BareKnown", spec := "bareKnown", unfollowed := true, recurses := true, apart := false, narrowed := true }
def BareKnownUptoSaid : Prop := bareKnownUptoRow.holds Tryz.pinned (OpenSpec.upto bareKnownSpec)

/-- 'trammellaw26.HostSteps', WHERE WHAT IT READS IS OF BULK AT MOST 1048576: true; the input reads as it did. -/
def hostStepsUptoRow : OpenClaim := { program := "ythelmobipjekjaagreat", sum := "2fea6c4d4d6e10c7ee1ed91e6db451146cb6cfadeee28c8c641c8cfe16959601", func := "trammel/trammellaw26.HostSteps", spec := "hostSteps", inPlace := ["(*internal/sync.Mutex).Lock", "internal/race.Disable", "sync/atomic.CompareAndSwapInt32", "internal/race.Enable", "internal/race.Acquire", "(*internal/sync.Mutex).lockSlow", "internal/sync.runtime_canSpin", "internal/sync.runtime_doSpin", "internal/sync.throw", "internal/sync.runtime_nanotime", "internal/sync.runtime_SemacquireMutex", "sync/atomic.AddInt32", "(*internal/sync.Mutex).Unlock", "internal/race.ReleaseMerge", "(*internal/sync.Mutex).unlockSlow", "internal/sync.fatal", "internal/sync.runtime_Semrelease"], unfollowed := true, recurses := true, apart := false, narrowed := true }
def HostStepsUptoSaid : Prop := hostStepsUptoRow.holds Tryz.pinned (OpenSpec.upto hostStepsSpec)

/-- 'trammellaw26.HostAlone', WHERE WHAT IT READS IS OF BULK AT MOST 1048576: true; the input reads as it did. -/
def hostAloneUptoRow : OpenClaim := { program := "ythelmobipjekjaagreat", sum := "2fea6c4d4d6e10c7ee1ed91e6db451146cb6cfadeee28c8c641c8cfe16959601", func := "trammel/trammellaw26.HostAlone", spec := "hostAlone", inPlace := ["(*internal/sync.Mutex).Lock", "internal/race.Disable", "sync/atomic.CompareAndSwapInt32", "internal/race.Enable", "internal/race.Acquire", "(*internal/sync.Mutex).lockSlow", "internal/sync.runtime_canSpin", "internal/sync.runtime_doSpin", "internal/sync.throw", "internal/sync.runtime_nanotime", "internal/sync.runtime_SemacquireMutex", "sync/atomic.AddInt32", "(*internal/sync.Mutex).Unlock", "internal/race.ReleaseMerge", "(*internal/sync.Mutex).unlockSlow", "internal/sync.fatal", "internal/sync.runtime_Semrelease"], unfollowed := true, recurses := true, apart := false, narrowed := true }
def HostAloneUptoSaid : Prop := hostAloneUptoRow.holds Tryz.pinned (OpenSpec.upto hostAloneSpec)

/-- 'trammellaw24.BareGuard', WHERE WHAT IT READS IS OF BULK AT MOST 1048576: true; the input reads as it did. -/
def bareGuardUptoRow : OpenClaim := { program := "ythelmobipjekjaagreat", sum := "2fea6c4d4d6e10c7ee1ed91e6db451146cb6cfadeee28c8c641c8cfe16959601", func := "trammel/trammellaw24.BareGuard", spec := "bareGuard", unfollowed := true, recurses := true, apart := false, narrowed := true }
def BareGuardUptoSaid : Prop := bareGuardUptoRow.holds Tryz.pinned (OpenSpec.upto bareGuardSpec)

/-- 'trammellaw26.HostPlays', WHERE WHAT IT READS IS OF BULK AT MOST 1048576: true; the input reads as it did. -/
def hostPlaysUptoRow : OpenClaim := { program := "ythelmobipjekjaagreat", sum := "2fea6c4d4d6e10c7ee1ed91e6db451146cb6cfadeee28c8c641c8cfe16959601", func := "trammel/trammellaw26.HostPlays", spec := "hostPlays", inPlace := ["(*internal/sync.Mutex).Lock", "internal/race.Disable", "sync/atomic.CompareAndSwapInt32", "internal/race.Enable", "internal/race.Acquire", "(*internal/sync.Mutex).lockSlow", "internal/sync.runtime_canSpin", "internal/sync.runtime_doSpin", "internal/sync.throw", "internal/sync.runtime_nanotime", "internal/sync.runtime_SemacquireMutex", "sync/atomic.AddInt32", "(*internal/sync.Mutex).Unlock", "internal/race.ReleaseMerge", "(*internal/sync.Mutex).unlockSlow", "internal/sync.fatal", "internal/sync.runtime_Semrelease"], unfollowed := true, recurses := true, apart := false, narrowed := true }
def HostPlaysUptoSaid : Prop := hostPlaysUptoRow.holds Tryz.pinned (OpenSpec.upto hostPlaysSpec)

/-- 'trammellaw26.HostNone', WHERE WHAT IT READS IS OF BULK AT MOST 1048576: true; the input reads as it did. -/
def hostNoneUptoRow : OpenClaim := { program := "ythelmobipjekjaagreat", sum := "2fea6c4d4d6e10c7ee1ed91e6db451146cb6cfadeee28c8c641c8cfe16959601", func := "trammel/trammellaw26.HostNone", spec := "hostNone", inPlace := ["(*internal/sync.Mutex).Lock", "internal/race.Disable", "sync/atomic.CompareAndSwapInt32", "internal/race.Enable", "internal/race.Acquire", "(*internal/sync.Mutex).lockSlow", "internal/sync.runtime_canSpin", "internal/sync.runtime_doSpin", "internal/sync.throw", "internal/sync.runtime_nanotime", "internal/sync.runtime_SemacquireMutex", "sync/atomic.AddInt32", "(*internal/sync.Mutex).Unlock", "internal/race.ReleaseMerge", "(*internal/sync.Mutex).unlockSlow", "internal/sync.fatal", "internal/sync.runtime_Semrelease"], unfollowed := true, recurses := true, apart := false, narrowed := true }
def HostNoneUptoSaid : Prop := hostNoneUptoRow.holds Tryz.pinned (OpenSpec.upto hostNoneSpec)

/-- 'trammellaw26.HostKnown', WHERE WHAT IT READS IS OF BULK AT MOST 1048576: true; the input reads as it did. -/
def hostKnownUptoRow : OpenClaim := { program := "ythelmobipjekjaagreat", sum := "2fea6c4d4d6e10c7ee1ed91e6db451146cb6cfadeee28c8c641c8cfe16959601", func := "trammel/trammellaw26.HostKnown", spec := "hostKnown", inPlace := ["(*internal/sync.Mutex).Lock", "internal/race.Disable", "sync/atomic.CompareAndSwapInt32", "internal/race.Enable", "internal/race.Acquire", "(*internal/sync.Mutex).lockSlow", "internal/sync.runtime_canSpin", "internal/sync.runtime_doSpin", "internal/sync.throw", "internal/sync.runtime_nanotime", "internal/sync.runtime_SemacquireMutex", "sync/atomic.AddInt32", "(*internal/sync.Mutex).Unlock", "internal/race.ReleaseMerge", "(*internal/sync.Mutex).unlockSlow", "internal/sync.fatal", "internal/sync.runtime_Semrelease"], unfollowed := true, recurses := true, apart := false, narrowed := true }
def HostKnownUptoSaid : Prop := hostKnownUptoRow.holds Tryz.pinned (OpenSpec.upto hostKnownSpec)

end Rows
end Go.Proofs.YthelmobipjekjaaGreat

/-
  NARROWER THAN 'FOR EVERY INPUT', by the rows' own cells (each row's printed sentence says how): ReaderNames: loops.
  DERIVED. THE GIVEN ROWS OF THIS SEAT. 9 by the template 'for every input the law returns true; each argument reads behind the call as it read before'; 0 by the template 'total and deterministic' (their statements: YtdhfnmbbdcpnbaaTotals.lean).
  GIVEN WITH THE SEED: the statements are not yours to turn. If you find one false, say at which input.
  Laid BY PROGRAM, IN A SANDBOX (cutbox-rows.mjs): the forced cells as the released guide's own fill.sh prints them over the translation 5b64e5baa0378ac2… (all of the seat's roots in one cut). By AI agents, Wed Nov 11 2026. No macro, syntax, notation, axiom, sorry.
-/
import Derived.Test.YtdhfnmbbdcpnbaaChecked
import GoSem.Claim
import GoSem.ClaimJoined
import GoSem.ClaimMapViews
import Derived.JoinedTies
import Derived.KernelRfl
namespace Go.Proofs.Ytdhfnmbbdcpnbaa
/- THE CELL 'sum', in the pinned program and in every row, IS THE sha256 OF THE DUMP (.gsa) THAT YtdhfnmbbdcpnbaaProg.lean LOADS. Nothing in Lean hashes anything: it is a label: what it is worth is what the hold of that sum in a sandbox is worth. -/
noncomputable def Try.pinned : Pinned := { name := "ytdhfnmbbdcpnbaa", sum := "5b64e5baa0378ac2e3dbd9246e7c12b0717c030dc13a8904b5facdd745547d79", checked := Try.checked }
namespace Rows
def none {H : Type} : Left H := { results := [], args := [] }

/-- 'glazierlaw35.StatsCommon': WHATEVER THE INPUT: true; the input reads as it did. -/
def statsCommonSpec : ChangeSpec := { name := "statsCommon", fn := fun _ => fun
  | [d] => { results := [.lit (.bool true)], args := [d] }
  | _ => none }
def statsCommonRow : OpenClaim := { program := "ytdhfnmbbdcpnbaa", sum := "5b64e5baa0378ac2e3dbd9246e7c12b0717c030dc13a8904b5facdd745547d79", func := "glazier/glazierlaw35.StatsCommon", spec := "statsCommon", inPlace := ["sync/atomic.AddInt64", "(*internal/sync.Mutex).Lock", "internal/race.Disable", "sync/atomic.CompareAndSwapInt32", "internal/race.Enable", "internal/race.Acquire", "(*internal/sync.Mutex).lockSlow", "internal/sync.runtime_canSpin", "internal/sync.runtime_doSpin", "internal/sync.throw", "internal/sync.runtime_nanotime", "internal/sync.runtime_SemacquireMutex", "sync/atomic.AddInt32", "(*internal/sync.Mutex).Unlock", "internal/race.ReleaseMerge", "(*internal/sync.Mutex).unlockSlow", "internal/sync.fatal", "internal/sync.runtime_Semrelease", "sync/atomic.LoadInt64", "sync/atomic.LoadUint32", "sync/atomic.StoreUint32"], unfollowed := true, recurses := true, apart := false }
def StatsCommonSaid : Prop := statsCommonRow.holds Try.pinned (OpenSpec.ofChange statsCommonSpec)

/-- ITS FALSE NEIGHBOUR: 'it returns false'. Refute it at one input. -/
def statsCommonWrong : ChangeSpec := { name := "statsCommon", fn := fun _ => fun
  | [d] => { results := [.lit (.bool false)], args := [d] }
  | _ => none }
def StatsCommonWrongFalsely : Prop := statsCommonRow.holds Try.pinned (OpenSpec.ofChange statsCommonWrong)

/-- 'glazierlaw35.StatsCounts': WHATEVER THE INPUT: true; the input reads as it did. -/
def statsCountsSpec : ChangeSpec := { name := "statsCounts", fn := fun _ => fun
  | [d1, d2] => { results := [.lit (.bool true)], args := [d1, d2] }
  | _ => none }
def statsCountsRow : OpenClaim := { program := "ytdhfnmbbdcpnbaa", sum := "5b64e5baa0378ac2e3dbd9246e7c12b0717c030dc13a8904b5facdd745547d79", func := "glazier/glazierlaw35.StatsCounts", spec := "statsCounts", inPlace := ["sync/atomic.AddInt64", "(*internal/sync.Mutex).Lock", "internal/race.Disable", "sync/atomic.CompareAndSwapInt32", "internal/race.Enable", "internal/race.Acquire", "(*internal/sync.Mutex).lockSlow", "internal/sync.runtime_canSpin", "internal/sync.runtime_doSpin", "internal/sync.throw", "internal/sync.runtime_nanotime", "internal/sync.runtime_SemacquireMutex", "sync/atomic.AddInt32", "(*internal/sync.Mutex).Unlock", "internal/race.ReleaseMerge", "(*internal/sync.Mutex).unlockSlow", "internal/sync.fatal", "internal/sync.runtime_Semrelease", "sync/atomic.LoadInt64", "sync/atomic.LoadUint32", "sync/atomic.StoreUint32"], unfollowed := true, recurses := true, apart := false }
def StatsCountsSaid : Prop := statsCountsRow.holds Try.pinned (OpenSpec.ofChange statsCountsSpec)

/-- ITS FALSE NEIGHBOUR: 'it returns false'. Refute it at one input. -/
def statsCountsWrong : ChangeSpec := { name := "statsCounts", fn := fun _ => fun
  | [d1, d2] => { results := [.lit (.bool false)], args := [d1, d2] }
  | _ => none }
def StatsCountsWrongFalsely : Prop := statsCountsRow.holds Try.pinned (OpenSpec.ofChange statsCountsWrong)

/-- 'glazierlaw35.StatsNobody': WHATEVER THE INPUT: true; the input reads as it did. -/
def statsNobodySpec : ChangeSpec := { name := "statsNobody", fn := fun _ => fun
  | [d1, d2] => { results := [.lit (.bool true)], args := [d1, d2] }
  | _ => none }
def statsNobodyRow : OpenClaim := { program := "ytdhfnmbbdcpnbaa", sum := "5b64e5baa0378ac2e3dbd9246e7c12b0717c030dc13a8904b5facdd745547d79", func := "glazier/glazierlaw35.StatsNobody", spec := "statsNobody", inPlace := ["sync/atomic.AddInt64", "(*internal/sync.Mutex).Lock", "internal/race.Disable", "sync/atomic.CompareAndSwapInt32", "internal/race.Enable", "internal/race.Acquire", "(*internal/sync.Mutex).lockSlow", "internal/sync.runtime_canSpin", "internal/sync.runtime_doSpin", "internal/sync.throw", "internal/sync.runtime_nanotime", "internal/sync.runtime_SemacquireMutex", "sync/atomic.AddInt32", "(*internal/sync.Mutex).Unlock", "internal/race.ReleaseMerge", "(*internal/sync.Mutex).unlockSlow", "internal/sync.fatal", "internal/sync.runtime_Semrelease", "sync/atomic.LoadInt64", "sync/atomic.LoadUint32", "sync/atomic.StoreUint32"], unfollowed := true, recurses := true, apart := false }
def StatsNobodySaid : Prop := statsNobodyRow.holds Try.pinned (OpenSpec.ofChange statsNobodySpec)

/-- ITS FALSE NEIGHBOUR: 'it returns false'. Refute it at one input. -/
def statsNobodyWrong : ChangeSpec := { name := "statsNobody", fn := fun _ => fun
  | [d1, d2] => { results := [.lit (.bool false)], args := [d1, d2] }
  | _ => none }
def StatsNobodyWrongFalsely : Prop := statsNobodyRow.holds Try.pinned (OpenSpec.ofChange statsNobodyWrong)

/-- 'glazierlaw13.TokenTags': WHATEVER THE INPUT: true; the input reads as it did. -/
def tokenTagsSpec : ChangeSpec := { name := "tokenTags", fn := fun _ => fun
  | [d] => { results := [.lit (.bool true)], args := [d] }
  | _ => none }
def tokenTagsRow : OpenClaim := { program := "ytdhfnmbbdcpnbaa", sum := "5b64e5baa0378ac2e3dbd9246e7c12b0717c030dc13a8904b5facdd745547d79", func := "glazier/glazierlaw13.TokenTags", spec := "tokenTags", inPlace := ["internal/bytealg.IndexByteString", "internal/bytealg.IndexString"], unfollowed := true, recurses := true, named := ["internal/bytealg.MaxLen"], apart := false }
def TokenTagsSaid : Prop := tokenTagsRow.holds Try.pinned (OpenSpec.ofChange tokenTagsSpec)

/-- ITS FALSE NEIGHBOUR: 'it returns false'. Refute it at one input. -/
def tokenTagsWrong : ChangeSpec := { name := "tokenTags", fn := fun _ => fun
  | [d] => { results := [.lit (.bool false)], args := [d] }
  | _ => none }
def TokenTagsWrongFalsely : Prop := tokenTagsRow.holds Try.pinned (OpenSpec.ofChange tokenTagsWrong)

/-- 'glazierlaw13.TokenPlain': WHATEVER THE INPUT: true; the input reads as it did. -/
def tokenPlainSpec : ChangeSpec := { name := "tokenPlain", fn := fun _ => fun
  | [d1, d2] => { results := [.lit (.bool true)], args := [d1, d2] }
  | _ => none }
def tokenPlainRow : OpenClaim := { program := "ytdhfnmbbdcpnbaa", sum := "5b64e5baa0378ac2e3dbd9246e7c12b0717c030dc13a8904b5facdd745547d79", func := "glazier/glazierlaw13.TokenPlain", spec := "tokenPlain", inPlace := ["internal/bytealg.IndexByteString", "internal/bytealg.IndexString"], unfollowed := true, recurses := true, named := ["internal/bytealg.MaxLen"], apart := false }
def TokenPlainSaid : Prop := tokenPlainRow.holds Try.pinned (OpenSpec.ofChange tokenPlainSpec)

/-- ITS FALSE NEIGHBOUR: 'it returns false'. Refute it at one input. -/
def tokenPlainWrong : ChangeSpec := { name := "tokenPlain", fn := fun _ => fun
  | [d1, d2] => { results := [.lit (.bool false)], args := [d1, d2] }
  | _ => none }
def TokenPlainWrongFalsely : Prop := tokenPlainRow.holds Try.pinned (OpenSpec.ofChange tokenPlainWrong)

/-- 'glazierlaw13.TokenTells': WHATEVER THE INPUT: true; the input reads as it did. -/
def tokenTellsSpec : ChangeSpec := { name := "tokenTells", fn := fun _ => fun
  | [d] => { results := [.lit (.bool true)], args := [d] }
  | _ => none }
def tokenTellsRow : OpenClaim := { program := "ytdhfnmbbdcpnbaa", sum := "5b64e5baa0378ac2e3dbd9246e7c12b0717c030dc13a8904b5facdd745547d79", func := "glazier/glazierlaw13.TokenTells", spec := "tokenTells", inPlace := ["internal/bytealg.IndexByteString", "internal/bytealg.IndexString"], unfollowed := true, recurses := true, named := ["internal/bytealg.MaxLen"], apart := false }
def TokenTellsSaid : Prop := tokenTellsRow.holds Try.pinned (OpenSpec.ofChange tokenTellsSpec)

/-- ITS FALSE NEIGHBOUR: 'it returns false'. Refute it at one input. -/
def tokenTellsWrong : ChangeSpec := { name := "tokenTells", fn := fun _ => fun
  | [d] => { results := [.lit (.bool false)], args := [d] }
  | _ => none }
def TokenTellsWrongFalsely : Prop := tokenTellsRow.holds Try.pinned (OpenSpec.ofChange tokenTellsWrong)

/-- 'glazierlaw15.ReaderTells': WHATEVER THE INPUT: true; the input reads as it did. -/
def readerTellsSpec : ChangeSpec := { name := "readerTells", fn := fun _ => fun
  | [d] => { results := [.lit (.bool true)], args := [d] }
  | _ => none }
def readerTellsRow : OpenClaim := { program := "ytdhfnmbbdcpnbaa", sum := "5b64e5baa0378ac2e3dbd9246e7c12b0717c030dc13a8904b5facdd745547d79", func := "glazier/glazierlaw15.ReaderTells", spec := "readerTells", inPlace := ["internal/bytealg.IndexByteString", "internal/bytealg.IndexString"], unfollowed := true, recurses := true, named := ["internal/bytealg.MaxLen"], apart := false }
def ReaderTellsSaid : Prop := readerTellsRow.holds Try.pinned (OpenSpec.ofChange readerTellsSpec)

/-- ITS FALSE NEIGHBOUR: 'it returns false'. Refute it at one input. -/
def readerTellsWrong : ChangeSpec := { name := "readerTells", fn := fun _ => fun
  | [d] => { results := [.lit (.bool false)], args := [d] }
  | _ => none }
def ReaderTellsWrongFalsely : Prop := readerTellsRow.holds Try.pinned (OpenSpec.ofChange readerTellsWrong)

/-- 'glazierlaw15.ReaderValid': WHATEVER THE INPUT: true; the input reads as it did. -/
def readerValidSpec : ChangeSpec := { name := "readerValid", fn := fun _ => fun
  | [d] => { results := [.lit (.bool true)], args := [d] }
  | _ => none }
def readerValidRow : OpenClaim := { program := "ytdhfnmbbdcpnbaa", sum := "5b64e5baa0378ac2e3dbd9246e7c12b0717c030dc13a8904b5facdd745547d79", func := "glazier/glazierlaw15.ReaderValid", spec := "readerValid", inPlace := ["internal/bytealg.IndexByteString", "internal/bytealg.IndexString"], unfollowed := true, recurses := true, named := ["internal/bytealg.MaxLen"], apart := false }
def ReaderValidSaid : Prop := readerValidRow.holds Try.pinned (OpenSpec.ofChange readerValidSpec)

/-- ITS FALSE NEIGHBOUR: 'it returns false'. Refute it at one input. -/
def readerValidWrong : ChangeSpec := { name := "readerValid", fn := fun _ => fun
  | [d] => { results := [.lit (.bool false)], args := [d] }
  | _ => none }
def ReaderValidWrongFalsely : Prop := readerValidRow.holds Try.pinned (OpenSpec.ofChange readerValidWrong)

/-- 'glazierlaw15.ReaderNames': WHATEVER THE INPUT: true; the input reads as it did. -/
def readerNamesSpec : ChangeSpec := { name := "readerNames", fn := fun _ => fun
  | [d] => { results := [.lit (.bool true)], args := [d] }
  | _ => none }
def readerNamesRow : OpenClaim := { program := "ytdhfnmbbdcpnbaa", sum := "5b64e5baa0378ac2e3dbd9246e7c12b0717c030dc13a8904b5facdd745547d79", func := "glazier/glazierlaw15.ReaderNames", spec := "readerNames", inPlace := ["internal/bytealg.IndexByteString", "internal/bytealg.IndexString"], unfollowed := true, recurses := true, named := ["internal/bytealg.MaxLen"], loops := true, apart := false }
def ReaderNamesSaid : Prop := readerNamesRow.holds Try.pinned (OpenSpec.ofChange readerNamesSpec)

/-- ITS FALSE NEIGHBOUR: 'it returns false'. Refute it at one input. -/
def readerNamesWrong : ChangeSpec := { name := "readerNames", fn := fun _ => fun
  | [d] => { results := [.lit (.bool false)], args := [d] }
  | _ => none }
def ReaderNamesWrongFalsely : Prop := readerNamesRow.holds Try.pinned (OpenSpec.ofChange readerNamesWrong)

/- THE SECOND FORM. 'bulk': how many values and letters a reading holds, each counted each time it is reached (what is shared counts as often as it is met; a slice's spare places count too). A statement '..UptoSaid' is the law's where the arguments, and the package variables that the reading takes, are together of bulk at most 1048576: NARROWER than '..Said'. Prove '..Said' where nothing that the law and all that it calls make is longer than what came in: it says more and counts as full. Else prove '..UptoSaid'. A law counts once. -/
mutual
def uptoBulk {H : Type} : DataW H → Nat
  | .lit (.string bytes) => bytes.length + 1
  | .lit _ => 1
  | .nil => 1
  | .ptr d => uptoBulk d + 1
  | .slice elems spare => uptoBulkAll elems + uptoBulkAll spare + 1
  | .agg parts => uptoBulkAll parts + 1
  | .iface _ d => uptoBulk d + 1
  | .map entries => uptoBulkEntries entries + 1
  | .held _ => 1
def uptoBulkAll {H : Type} : List (DataW H) → Nat
  | [] => 0
  | d :: r => uptoBulk d + uptoBulkAll r
def uptoBulkEntries {H : Type} : List (Lit × DataW H) → Nat
  | [] => 0
  | x :: r => uptoBulkEntry x + uptoBulkEntries r
def uptoBulkEntry {H : Type} : Lit × DataW H → Nat
  | (.string bytes, d) => bytes.length + uptoBulk d + 1
  | (_, d) => uptoBulk d + 1
 end
def uptoSmall : (H : Type) → List (DataW H) → Bool := fun _ ds => decide (uptoBulkAll ds ≤ 1048576)
def OpenSpec.upto (s : _root_.Go.ChangeSpec) : _root_.Go.OpenSpec := { _root_.Go.OpenSpec.ofChange s with cond := some uptoSmall }

/-- 'glazierlaw35.StatsCommon', WHERE WHAT IT READS IS OF BULK AT MOST 1048576: true; the input reads as it did. -/
def statsCommonUptoRow : OpenClaim := { program := "ytdhfnmbbdcpnbaa", sum := "5b64e5baa0378ac2e3dbd9246e7c12b0717c030dc13a8904b5facdd745547d79", func := "glazier/glazierlaw35.StatsCommon", spec := "statsCommon", inPlace := ["sync/atomic.AddInt64", "(*internal/sync.Mutex).Lock", "internal/race.Disable", "sync/atomic.CompareAndSwapInt32", "internal/race.Enable", "internal/race.Acquire", "(*internal/sync.Mutex).lockSlow", "internal/sync.runtime_canSpin", "internal/sync.runtime_doSpin", "internal/sync.throw", "internal/sync.runtime_nanotime", "internal/sync.runtime_SemacquireMutex", "sync/atomic.AddInt32", "(*internal/sync.Mutex).Unlock", "internal/race.ReleaseMerge", "(*internal/sync.Mutex).unlockSlow", "internal/sync.fatal", "internal/sync.runtime_Semrelease", "sync/atomic.LoadInt64", "sync/atomic.LoadUint32", "sync/atomic.StoreUint32"], unfollowed := true, recurses := true, apart := false, narrowed := true }
def StatsCommonUptoSaid : Prop := statsCommonUptoRow.holds Try.pinned (OpenSpec.upto statsCommonSpec)

/-- 'glazierlaw35.StatsCounts', WHERE WHAT IT READS IS OF BULK AT MOST 1048576: true; the input reads as it did. -/
def statsCountsUptoRow : OpenClaim := { program := "ytdhfnmbbdcpnbaa", sum := "5b64e5baa0378ac2e3dbd9246e7c12b0717c030dc13a8904b5facdd745547d79", func := "glazier/glazierlaw35.StatsCounts", spec := "statsCounts", inPlace := ["sync/atomic.AddInt64", "(*internal/sync.Mutex).Lock", "internal/race.Disable", "sync/atomic.CompareAndSwapInt32", "internal/race.Enable", "internal/race.Acquire", "(*internal/sync.Mutex).lockSlow", "internal/sync.runtime_canSpin", "internal/sync.runtime_doSpin", "internal/sync.throw", "internal/sync.runtime_nanotime", "internal/sync.runtime_SemacquireMutex", "sync/atomic.AddInt32", "(*internal/sync.Mutex).Unlock", "internal/race.ReleaseMerge", "(*internal/sync.Mutex).unlockSlow", "internal/sync.fatal", "internal/sync.runtime_Semrelease", "sync/atomic.LoadInt64", "sync/atomic.LoadUint32", "sync/atomic.StoreUint32"], unfollowed := true, recurses := true, apart := false, narrowed := true }
def StatsCountsUptoSaid : Prop := statsCountsUptoRow.holds Try.pinned (OpenSpec.upto statsCountsSpec)

/-- 'glazierlaw35.StatsNobody', WHERE WHAT IT READS IS OF BULK AT MOST 1048576: true; the input reads as it did. -/
def statsNobodyUptoRow : OpenClaim := { program := "ytdhfnmbbdcpnbaa", sum := "5b64e5baa0378ac2e3dbd9246e7c12b0717c030dc13a8904b5facdd745547d79", func := "glazier/glazierlaw35.StatsNobody", spec := "statsNobody", inPlace := ["sync/atomic.AddInt64", "(*internal/sync.Mutex).Lock", "internal/race.Disable", "sync/atomic.CompareAndSwapInt32", "internal/race.Enable", "internal/race.Acquire", "(*internal/sync.Mutex).lockSlow", "internal/sync.runtime_canSpin", "internal/sync.runtime_doSpin", "internal/sync.throw", "internal/sync.runtime_nanotime", "internal/sync.runtime_SemacquireMutex", "sync/atomic.AddInt32", "(*internal/sync.Mutex).Unlock", "internal/race.ReleaseMerge", "(*internal/sync.Mutex).unlockSlow", "internal/sync.fatal", "internal/sync.runtime_Semrelease", "sync/atomic.LoadInt64", "sync/atomic.LoadUint32", "sync/atomic.StoreUint32"], unfollowed := true, recurses := true, apart := false, narrowed := true }
def StatsNobodyUptoSaid : Prop := statsNobodyUptoRow.holds Try.pinned (OpenSpec.upto statsNobodySpec)

/-- 'glazierlaw13.TokenTags', WHERE WHAT IT READS IS OF BULK AT MOST 1048576: true; the input reads as it did. -/
def tokenTagsUptoRow : OpenClaim := { program := "ytdhfnmbbdcpnbaa", sum := "5b64e5baa0378ac2e3dbd9246e7c12b0717c030dc13a8904b5facdd745547d79", func := "glazier/glazierlaw13.TokenTags", spec := "tokenTags", inPlace := ["internal/bytealg.IndexByteString", "internal/bytealg.IndexString"], unfollowed := true, recurses := true, named := ["internal/bytealg.MaxLen"], apart := false, narrowed := true }
def TokenTagsUptoSaid : Prop := tokenTagsUptoRow.holds Try.pinned (OpenSpec.upto tokenTagsSpec)

/-- 'glazierlaw13.TokenPlain', WHERE WHAT IT READS IS OF BULK AT MOST 1048576: true; the input reads as it did. -/
def tokenPlainUptoRow : OpenClaim := { program := "ytdhfnmbbdcpnbaa", sum := "5b64e5baa0378ac2e3dbd9246e7c12b0717c030dc13a8904b5facdd745547d79", func := "glazier/glazierlaw13.TokenPlain", spec := "tokenPlain", inPlace := ["internal/bytealg.IndexByteString", "internal/bytealg.IndexString"], unfollowed := true, recurses := true, named := ["internal/bytealg.MaxLen"], apart := false, narrowed := true }
def TokenPlainUptoSaid : Prop := tokenPlainUptoRow.holds Try.pinned (OpenSpec.upto tokenPlainSpec)

/-- 'glazierlaw13.TokenTells', WHERE WHAT IT READS IS OF BULK AT MOST 1048576: true; the input reads as it did. -/
def tokenTellsUptoRow : OpenClaim := { program := "ytdhfnmbbdcpnbaa", sum := "5b64e5baa0378ac2e3dbd9246e7c12b0717c030dc13a8904b5facdd745547d79", func := "glazier/glazierlaw13.TokenTells", spec := "tokenTells", inPlace := ["internal/bytealg.IndexByteString", "internal/bytealg.IndexString"], unfollowed := true, recurses := true, named := ["internal/bytealg.MaxLen"], apart := false, narrowed := true }
def TokenTellsUptoSaid : Prop := tokenTellsUptoRow.holds Try.pinned (OpenSpec.upto tokenTellsSpec)

/-- 'glazierlaw15.ReaderTells', WHERE WHAT IT READS IS OF BULK AT MOST 1048576: true; the input reads as it did. -/
def readerTellsUptoRow : OpenClaim := { program := "ytdhfnmbbdcpnbaa", sum := "5b64e5baa0378ac2e3dbd9246e7c12b0717c030dc13a8904b5facdd745547d79", func := "glazier/glazierlaw15.ReaderTells", spec := "readerTells", inPlace := ["internal/bytealg.IndexByteString", "internal/bytealg.IndexString"], unfollowed := true, recurses := true, named := ["internal/bytealg.MaxLen"], apart := false, narrowed := true }
def ReaderTellsUptoSaid : Prop := readerTellsUptoRow.holds Try.pinned (OpenSpec.upto readerTellsSpec)

/-- 'glazierlaw15.ReaderValid', WHERE WHAT IT READS IS OF BULK AT MOST 1048576: true; the input reads as it did. -/
def readerValidUptoRow : OpenClaim := { program := "ytdhfnmbbdcpnbaa", sum := "5b64e5baa0378ac2e3dbd9246e7c12b0717c030dc13a8904b5facdd745547d79", func := "glazier/glazierlaw15.ReaderValid", spec := "readerValid", inPlace := ["internal/bytealg.IndexByteString", "internal/bytealg.IndexString"], unfollowed := true, recurses := true, named := ["internal/bytealg.MaxLen"], apart := false, narrowed := true }
def ReaderValidUptoSaid : Prop := readerValidUptoRow.holds Try.pinned (OpenSpec.upto readerValidSpec)

/-- 'glazierlaw15.ReaderNames', WHERE WHAT IT READS IS OF BULK AT MOST 1048576: true; the input reads as it did. -/
def readerNamesUptoRow : OpenClaim := { program := "ytdhfnmbbdcpnbaa", sum := "5b64e5baa0378ac2e3dbd9246e7c12b0717c030dc13a8904b5facdd745547d79", func := "glazier/glazierlaw15.ReaderNames", spec := "readerNames", inPlace := ["internal/bytealg.IndexByteString", "internal/bytealg.IndexString"], unfollowed := true, recurses := true, named := ["internal/bytealg.MaxLen"], loops := true, apart := false, narrowed := true }
def ReaderNamesUptoSaid : Prop := readerNamesUptoRow.holds Try.pinned (OpenSpec.upto readerNamesSpec)

end Rows
end Go.Proofs.Ytdhfnmbbdcpnbaa

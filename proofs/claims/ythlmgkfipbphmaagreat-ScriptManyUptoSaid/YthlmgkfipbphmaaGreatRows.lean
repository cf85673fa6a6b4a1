/-
  NARROWER THAN 'FOR EVERY INPUT', by the rows' own cells (each row's printed sentence says how): PatchSteps: loops · CommitNobody: loops · AppCommits: loops · ScriptRuns: loops · ScriptSteps: loops · AppRuns: loops · AppFires: loops · AppNobody: loops.
  DERIVED. THE GIVEN ROWS OF THIS SEAT. 9 by the template 'for every input the law returns true; each argument reads behind the call as it read before'; 0 by the template 'total and deterministic' (their statements: YthlmgkfipbphmaaGreatTotals.lean).
  GIVEN WITH THE SEED: the statements are not yours to turn. If you find one false, say at which input.
  Laid BY PROGRAM, IN A SANDBOX (cutbox-rows.mjs): the forced cells as the released guide's own fill.sh prints them over the translation e0ffe53b01760541… (all of the seat's roots in one cut). By AI agents, Wed Nov 11 2026. No macro, syntax, notation, axiom, sorry.
-/
import Derived.Test.YthlmgkfipbphmaaGreatChecked
import GoSem.Claim
import GoSem.ClaimJoined
import GoSem.ClaimMapViews
import Derived.JoinedTies
import Derived.KernelRfl
namespace Go.Proofs.YthlmgkfipbphmaaGreat
/- THE CELL 'sum', in the pinned program and in every row, IS THE sha256 OF THE DUMP (.gsa) THAT YthlmgkfipbphmaaGreatProg.lean LOADS. Nothing in Lean hashes anything: it is a label: what it is worth is what the hold of that sum in a sandbox is worth. -/
noncomputable def Tryz.pinned : Pinned := { name := "ythlmgkfipbphmaagreat", sum := "e0ffe53b01760541877c9cd0a9161e1d7b0a422744c9475663d99db7cfd0657e", checked := Tryz.checked }
namespace Rows
def none {H : Type} : Left H := { results := [], args := [] }

/-- 'glazierlaw24.PatchSteps': WHATEVER THE INPUT: true; the input reads as it did. -/
def patchStepsSpec : ChangeSpec := { name := "patchSteps", fn := fun _ => fun
  | [d1, d2] => { results := [.lit (.bool true)], args := [d1, d2] }
  | _ => none }
def patchStepsRow : OpenClaim := { program := "ythlmgkfipbphmaagreat", sum := "e0ffe53b01760541877c9cd0a9161e1d7b0a422744c9475663d99db7cfd0657e", func := "glazier/glazierlaw24.PatchSteps", spec := "patchSteps", inPlace := ["maps.clone", "slices.overlaps[int]", "internal/bytealg.IndexByteString"], unfollowed := true, recurses := true, loops := true, apart := false }
def PatchStepsSaid : Prop := patchStepsRow.holds Tryz.pinned (OpenSpec.ofChange patchStepsSpec)

/-- ITS FALSE NEIGHBOUR: 'it returns false'. Refute it at one input. -/
def patchStepsWrong : ChangeSpec := { name := "patchSteps", fn := fun _ => fun
  | [d1, d2] => { results := [.lit (.bool false)], args := [d1, d2] }
  | _ => none }
def PatchStepsWrongFalsely : Prop := patchStepsRow.holds Tryz.pinned (OpenSpec.ofChange patchStepsWrong)

/-- 'glazierlaw25.CommitNobody': WHATEVER THE INPUT: true; the input reads as it did. -/
def commitNobodySpec : ChangeSpec := { name := "commitNobody", fn := fun _ => fun
  | [d] => { results := [.lit (.bool true)], args := [d] }
  | _ => none }
def commitNobodyRow : OpenClaim := { program := "ythlmgkfipbphmaagreat", sum := "e0ffe53b01760541877c9cd0a9161e1d7b0a422744c9475663d99db7cfd0657e", func := "glazier/glazierlaw25.CommitNobody", spec := "commitNobody", inPlace := ["internal/bytealg.IndexByteString", "slices.overlaps[int]", "maps.clone"], unfollowed := true, recurses := true, loops := true, apart := false }
def CommitNobodySaid : Prop := commitNobodyRow.holds Tryz.pinned (OpenSpec.ofChange commitNobodySpec)

/-- ITS FALSE NEIGHBOUR: 'it returns false'. Refute it at one input. -/
def commitNobodyWrong : ChangeSpec := { name := "commitNobody", fn := fun _ => fun
  | [d] => { results := [.lit (.bool false)], args := [d] }
  | _ => none }
def CommitNobodyWrongFalsely : Prop := commitNobodyRow.holds Tryz.pinned (OpenSpec.ofChange commitNobodyWrong)

/-- 'glazierlaw31.AppCommits': WHATEVER THE INPUT: true; the input reads as it did. -/
def appCommitsSpec : ChangeSpec := { name := "appCommits", fn := fun _ => fun
  | [d1, d2] => { results := [.lit (.bool true)], args := [d1, d2] }
  | _ => none }
def appCommitsRow : OpenClaim := { program := "ythlmgkfipbphmaagreat", sum := "e0ffe53b01760541877c9cd0a9161e1d7b0a422744c9475663d99db7cfd0657e", func := "glazier/glazierlaw31.AppCommits", spec := "appCommits", inPlace := ["internal/bytealg.IndexByteString", "slices.overlaps[int]", "maps.clone"], unfollowed := true, recurses := true, loops := true, apart := false }
def AppCommitsSaid : Prop := appCommitsRow.holds Tryz.pinned (OpenSpec.ofChange appCommitsSpec)

/-- ITS FALSE NEIGHBOUR: 'it returns false'. Refute it at one input. -/
def appCommitsWrong : ChangeSpec := { name := "appCommits", fn := fun _ => fun
  | [d1, d2] => { results := [.lit (.bool false)], args := [d1, d2] }
  | _ => none }
def AppCommitsWrongFalsely : Prop := appCommitsRow.holds Tryz.pinned (OpenSpec.ofChange appCommitsWrong)

/-- 'glazierlaw32.ScriptMany': WHATEVER THE INPUT: true; the input reads as it did. -/
def scriptManySpec : ChangeSpec := { name := "scriptMany", fn := fun _ => fun
  | [d1, d2] => { results := [.lit (.bool true)], args := [d1, d2] }
  | _ => none }
def scriptManyRow : OpenClaim := { program := "ythlmgkfipbphmaagreat", sum := "e0ffe53b01760541877c9cd0a9161e1d7b0a422744c9475663d99db7cfd0657e", func := "glazier/glazierlaw32.ScriptMany", spec := "scriptMany", inPlace := ["internal/bytealg.IndexByteString", "slices.overlaps[int]", "maps.clone"], unfollowed := true, recurses := true, apart := false }
def ScriptManySaid : Prop := scriptManyRow.holds Tryz.pinned (OpenSpec.ofChange scriptManySpec)

/-- ITS FALSE NEIGHBOUR: 'it returns false'. Refute it at one input. -/
def scriptManyWrong : ChangeSpec := { name := "scriptMany", fn := fun _ => fun
  | [d1, d2] => { results := [.lit (.bool false)], args := [d1, d2] }
  | _ => none }
def ScriptManyWrongFalsely : Prop := scriptManyRow.holds Tryz.pinned (OpenSpec.ofChange scriptManyWrong)

/-- 'glazierlaw32.ScriptRuns': WHATEVER THE INPUT: true; the input reads as it did. -/
def scriptRunsSpec : ChangeSpec := { name := "scriptRuns", fn := fun _ => fun
  | [d] => { results := [.lit (.bool true)], args := [d] }
  | _ => none }
def scriptRunsRow : OpenClaim := { program := "ythlmgkfipbphmaagreat", sum := "e0ffe53b01760541877c9cd0a9161e1d7b0a422744c9475663d99db7cfd0657e", func := "glazier/glazierlaw32.ScriptRuns", spec := "scriptRuns", inPlace := ["internal/bytealg.IndexByteString", "slices.overlaps[int]", "maps.clone"], unfollowed := true, recurses := true, loops := true, apart := false }
def ScriptRunsSaid : Prop := scriptRunsRow.holds Tryz.pinned (OpenSpec.ofChange scriptRunsSpec)

/-- ITS FALSE NEIGHBOUR: 'it returns false'. Refute it at one input. -/
def scriptRunsWrong : ChangeSpec := { name := "scriptRuns", fn := fun _ => fun
  | [d] => { results := [.lit (.bool false)], args := [d] }
  | _ => none }
def ScriptRunsWrongFalsely : Prop := scriptRunsRow.holds Tryz.pinned (OpenSpec.ofChange scriptRunsWrong)

/-- 'glazierlaw32.ScriptSteps': WHATEVER THE INPUT: true; the input reads as it did. -/
def scriptStepsSpec : ChangeSpec := { name := "scriptSteps", fn := fun _ => fun
  | [d1, d2] => { results := [.lit (.bool true)], args := [d1, d2] }
  | _ => none }
def scriptStepsRow : OpenClaim := { program := "ythlmgkfipbphmaagreat", sum := "e0ffe53b01760541877c9cd0a9161e1d7b0a422744c9475663d99db7cfd0657e", func := "glazier/glazierlaw32.ScriptSteps", spec := "scriptSteps", inPlace := ["internal/bytealg.IndexByteString", "slices.overlaps[int]", "maps.clone"], unfollowed := true, recurses := true, loops := true, apart := false }
def ScriptStepsSaid : Prop := scriptStepsRow.holds Tryz.pinned (OpenSpec.ofChange scriptStepsSpec)

/-- ITS FALSE NEIGHBOUR: 'it returns false'. Refute it at one input. -/
def scriptStepsWrong : ChangeSpec := { name := "scriptSteps", fn := fun _ => fun
  | [d1, d2] => { results := [.lit (.bool false)], args := [d1, d2] }
  | _ => none }
def ScriptStepsWrongFalsely : Prop := scriptStepsRow.holds Tryz.pinned (OpenSpec.ofChange scriptStepsWrong)

/-- 'glazierlaw31.AppRuns': WHATEVER THE INPUT: true; the input reads as it did. -/
def appRunsSpec : ChangeSpec := { name := "appRuns", fn := fun _ => fun
  | [d1, d2, d3, d4] => { results := [.lit (.bool true)], args := [d1, d2, d3, d4] }
  | _ => none }
def appRunsRow : OpenClaim := { program := "ythlmgkfipbphmaagreat", sum := "e0ffe53b01760541877c9cd0a9161e1d7b0a422744c9475663d99db7cfd0657e", func := "glazier/glazierlaw31.AppRuns", spec := "appRuns", inPlace := ["internal/bytealg.IndexByteString", "slices.overlaps[int]", "maps.clone"], unfollowed := true, recurses := true, loops := true, apart := false }
def AppRunsSaid : Prop := appRunsRow.holds Tryz.pinned (OpenSpec.ofChange appRunsSpec)

/-- ITS FALSE NEIGHBOUR: 'it returns false'. Refute it at one input. -/
def appRunsWrong : ChangeSpec := { name := "appRuns", fn := fun _ => fun
  | [d1, d2, d3, d4] => { results := [.lit (.bool false)], args := [d1, d2, d3, d4] }
  | _ => none }
def AppRunsWrongFalsely : Prop := appRunsRow.holds Tryz.pinned (OpenSpec.ofChange appRunsWrong)

/-- 'glazierlaw31.AppFires': WHATEVER THE INPUT: true; the input reads as it did. -/
def appFiresSpec : ChangeSpec := { name := "appFires", fn := fun _ => fun
  | [d1, d2, d3, d4, d5, d6] => { results := [.lit (.bool true)], args := [d1, d2, d3, d4, d5, d6] }
  | _ => none }
def appFiresRow : OpenClaim := { program := "ythlmgkfipbphmaagreat", sum := "e0ffe53b01760541877c9cd0a9161e1d7b0a422744c9475663d99db7cfd0657e", func := "glazier/glazierlaw31.AppFires", spec := "appFires", inPlace := ["internal/bytealg.IndexByteString", "slices.overlaps[int]", "maps.clone"], unfollowed := true, recurses := true, loops := true, apart := false }
def AppFiresSaid : Prop := appFiresRow.holds Tryz.pinned (OpenSpec.ofChange appFiresSpec)

/-- ITS FALSE NEIGHBOUR: 'it returns false'. Refute it at one input. -/
def appFiresWrong : ChangeSpec := { name := "appFires", fn := fun _ => fun
  | [d1, d2, d3, d4, d5, d6] => { results := [.lit (.bool false)], args := [d1, d2, d3, d4, d5, d6] }
  | _ => none }
def AppFiresWrongFalsely : Prop := appFiresRow.holds Tryz.pinned (OpenSpec.ofChange appFiresWrong)

/-- 'glazierlaw31.AppNobody': WHATEVER THE INPUT: true; the input reads as it did. -/
def appNobodySpec : ChangeSpec := { name := "appNobody", fn := fun _ => fun
  | [d1, d2, d3] => { results := [.lit (.bool true)], args := [d1, d2, d3] }
  | _ => none }
def appNobodyRow : OpenClaim := { program := "ythlmgkfipbphmaagreat", sum := "e0ffe53b01760541877c9cd0a9161e1d7b0a422744c9475663d99db7cfd0657e", func := "glazier/glazierlaw31.AppNobody", spec := "appNobody", inPlace := ["internal/bytealg.IndexByteString", "slices.overlaps[int]", "maps.clone"], unfollowed := true, recurses := true, loops := true, apart := false }
def AppNobodySaid : Prop := appNobodyRow.holds Tryz.pinned (OpenSpec.ofChange appNobodySpec)

/-- ITS FALSE NEIGHBOUR: 'it returns false'. Refute it at one input. -/
def appNobodyWrong : ChangeSpec := { name := "appNobody", fn := fun _ => fun
  | [d1, d2, d3] => { results := [.lit (.bool false)], args := [d1, d2, d3] }
  | _ => none }
def AppNobodyWrongFalsely : Prop := appNobodyRow.holds Tryz.pinned (OpenSpec.ofChange appNobodyWrong)

/- THE SECOND FORM. 'bulk': how many values and letters a reading holds, each counted each time it is reached (what is shared counts as often as it is met; a slice's spare places count too). A statement '..UptoSaid' is the law's where the arguments, and the package variables that the reading takes, are together of bulk at most 1048576: NARROWER than '..Said'. Prove '..Said' where nothing that the law and all that it calls make is longer than what came in: it says more and counts as full. Else prove '..UptoSaid'. A law counts once. -/
mutual
def uptoBulk {H : Type} : DataW H → Nat
  | .lit (.string bytes) => bytes.length + 1
  | .lit _ => 1
  | .nil => 1
  | .ptr d => uptoBulk d + 1
  | .slice elems spare => uptoBulkAll elems + uptoBulkAll spare + 1
  | .agg parts => uptoBulkAll parts + 1
  | .iface _ d => uptoBulk d + 1
  | .map entries => uptoBulkEntries entries + 1
  | .held _ => 1
def uptoBulkAll {H : Type} : List (DataW H) → Nat
  | [] => 0
  | d :: r => uptoBulk d + uptoBulkAll r
def uptoBulkEntries {H : Type} : List (Lit × DataW H) → Nat
  | [] => 0
  | x :: r => uptoBulkEntry x + uptoBulkEntries r
def uptoBulkEntry {H : Type} : Lit × DataW H → Nat
  | (.string bytes, d) => bytes.length + uptoBulk d + 1
  | (_, d) => uptoBulk d + 1
 end
def uptoSmall : (H : Type) → List (DataW H) → Bool := fun _ ds => decide (uptoBulkAll ds ≤ 1048576)
def OpenSpec.upto (s : _root_.Go.ChangeSpec) : _root_.Go.OpenSpec := { _root_.Go.OpenSpec.ofChange s with cond := some uptoSmall }

/-- 'glazierlaw24.PatchSteps', WHERE WHAT IT READS IS OF BULK AT MOST 1048576: true; the input reads as it did. -/
def patchStepsUptoRow : OpenClaim := { program := "ythlmgkfipbphmaagreat", sum := "e0ffe53b01760541877c9cd0a9161e1d7b0a422744c9475663d99db7cfd0657e", func := "glazier/glazierlaw24.PatchSteps", spec := "patchSteps", inPlace := ["maps.clone", "slices.overlaps[int]", "internal/bytealg.IndexByteString"], unfollowed := true, recurses := true, loops := true, apart := false, narrowed := true }
def PatchStepsUptoSaid : Prop := patchStepsUptoRow.holds Tryz.pinned (OpenSpec.upto patchStepsSpec)

/-- 'glazierlaw25.CommitNobody', WHERE WHAT IT READS IS OF BULK AT MOST 1048576: true; the input reads as it did. -/
def commitNobodyUptoRow : OpenClaim := { program := "ythlmgkfipbphmaagreat", sum := "e0ffe53b01760541877c9cd0a9161e1d7b0a422744c9475663d99db7cfd0657e", func := "glazier/glazierlaw25.CommitNobody", spec := "commitNobody", inPlace := ["internal/bytealg.IndexByteString", "slices.overlaps[int]", "maps.clone"], unfollowed := true, recurses := true, loops := true, apart := false, narrowed := true }
def CommitNobodyUptoSaid : Prop := commitNobodyUptoRow.holds Tryz.pinned (OpenSpec.upto commitNobodySpec)

/-- 'glazierlaw31.AppCommits', WHERE WHAT IT READS IS OF BULK AT MOST 1048576: true; the input reads as it did. -/
def appCommitsUptoRow : OpenClaim := { program := "ythlmgkfipbphmaagreat", sum := "e0ffe53b01760541877c9cd0a9161e1d7b0a422744c9475663d99db7cfd0657e", func := "glazier/glazierlaw31.AppCommits", spec := "appCommits", inPlace := ["internal/bytealg.IndexByteString", "slices.overlaps[int]", "maps.clone"], unfollowed := true, recurses := true, loops := true, apart := false, narrowed := true }
def AppCommitsUptoSaid : Prop := appCommitsUptoRow.holds Tryz.pinned (OpenSpec.upto appCommitsSpec)

/-- 'glazierlaw32.ScriptMany', WHERE WHAT IT READS IS OF BULK AT MOST 1048576: true; the input reads as it did. -/
def scriptManyUptoRow : OpenClaim := { program := "ythlmgkfipbphmaagreat", sum := "e0ffe53b01760541877c9cd0a9161e1d7b0a422744c9475663d99db7cfd0657e", func := "glazier/glazierlaw32.ScriptMany", spec := "scriptMany", inPlace := ["internal/bytealg.IndexByteString", "slices.overlaps[int]", "maps.clone"], unfollowed := true, recurses := true, apart := false, narrowed := true }
def ScriptManyUptoSaid : Prop := scriptManyUptoRow.holds Tryz.pinned (OpenSpec.upto scriptManySpec)

/-- 'glazierlaw32.ScriptRuns', WHERE WHAT IT READS IS OF BULK AT MOST 1048576: true; the input reads as it did. -/
def scriptRunsUptoRow : OpenClaim := { program := "ythlmgkfipbphmaagreat", sum := "e0ffe53b01760541877c9cd0a9161e1d7b0a422744c9475663d99db7cfd0657e", func := "glazier/glazierlaw32.ScriptRuns", spec := "scriptRuns", inPlace := ["internal/bytealg.IndexByteString", "slices.overlaps[int]", "maps.clone"], unfollowed := true, recurses := true, loops := true, apart := false, narrowed := true }
def ScriptRunsUptoSaid : Prop := scriptRunsUptoRow.holds Tryz.pinned (OpenSpec.upto scriptRunsSpec)

/-- 'glazierlaw32.ScriptSteps', WHERE WHAT IT READS IS OF BULK AT MOST 1048576: true; the input reads as it did. -/
def scriptStepsUptoRow : OpenClaim := { program := "ythlmgkfipbphmaagreat", sum := "e0ffe53b01760541877c9cd0a9161e1d7b0a422744c9475663d99db7cfd0657e", func := "glazier/glazierlaw32.ScriptSteps", spec := "scriptSteps", inPlace := ["internal/bytealg.IndexByteString", "slices.overlaps[int]", "maps.clone"], unfollowed := true, recurses := true, loops := true, apart := false, narrowed := true }
def ScriptStepsUptoSaid : Prop := scriptStepsUptoRow.holds Tryz.pinned (OpenSpec.upto scriptStepsSpec)

/-- 'glazierlaw31.AppRuns', WHERE WHAT IT READS IS OF BULK AT MOST 1048576: true; the input reads as it did. -/
def appRunsUptoRow : OpenClaim := { program := "ythlmgkfipbphmaagreat", sum := "e0ffe53b01760541877c9cd0a9161e1d7b0a422744c9475663d99db7cfd0657e", func := "glazier/glazierlaw31.AppRuns", spec := "appRuns", inPlace := ["internal/bytealg.IndexByteString", "slices.overlaps[int]", "maps.clone"], unfollowed := true, recurses := true, loops := true, apart := false, narrowed := true }
def AppRunsUptoSaid : Prop := appRunsUptoRow.holds Tryz.pinned (OpenSpec.upto appRunsSpec)

/-- 'glazierlaw31.AppFires', WHERE WHAT IT READS IS OF BULK AT MOST 1048576: true; the input reads as it did. -/
def appFiresUptoRow : OpenClaim := { program := "ythlmgkfipbphmaagreat", sum := "e0ffe53b01760541877c9cd0a9161e1d7b0a422744c9475663d99db7cfd0657e", func := "glazier/glazierlaw31.AppFires", spec := "appFires", inPlace := ["internal/bytealg.IndexByteString", "slices.overlaps[int]", "maps.clone"], unfollowed := true, recurses := true, loops := true, apart := false, narrowed := true }
def AppFiresUptoSaid : Prop := appFiresUptoRow.holds Tryz.pinned (OpenSpec.upto appFiresSpec)

/-- 'glazierlaw31.AppNobody', WHERE WHAT IT READS IS OF BULK AT MOST 1048576: true; the input reads as it did. -/
def appNobodyUptoRow : OpenClaim := { program := "ythlmgkfipbphmaagreat", sum := "e0ffe53b01760541877c9cd0a9161e1d7b0a422744c9475663d99db7cfd0657e", func := "glazier/glazierlaw31.AppNobody", spec := "appNobody", inPlace := ["internal/bytealg.IndexByteString", "slices.overlaps[int]", "maps.clone"], unfollowed := true, recurses := true, loops := true, apart := false, narrowed := true }
def AppNobodyUptoSaid : Prop := appNobodyUptoRow.holds Tryz.pinned (OpenSpec.upto appNobodySpec)

end Rows
end Go.Proofs.YthlmgkfipbphmaaGreat

/-
  No cell of these rows narrows 'for every input' (looked for: loops, veiled, ifaces, maps, wideKeys, modest, calm, conditions, laid).
  DERIVED. THE GIVEN ROWS OF THIS SEAT. 7 by the template 'for every input the law returns true; each argument reads behind the call as it read before'; 0 by the template 'total and deterministic' (their statements: YthlmgkfipbphmaaTotals.lean).
  GIVEN WITH THE SEED: the statements are not yours to turn. If you find one false, say at which input.
  Laid BY PROGRAM, IN A SANDBOX (cutbox-rows.mjs): the forced cells as the released guide's own fill.sh prints them over the translation dc92b0d587459f33… (all of the seat's roots in one cut). By AI agents, Wed Nov 11 2026. No macro, syntax, notation, axiom, sorry.
-/
import Derived.Test.YthlmgkfipbphmaaChecked
import GoSem.Claim
import GoSem.ClaimJoined
import GoSem.ClaimMapViews
import Derived.JoinedTies
import Derived.KernelRfl
namespace Go.Proofs.Ythlmgkfipbphmaa
/- THE CELL 'sum', in the pinned program and in every row, IS THE sha256 OF THE DUMP (.gsa) THAT YthlmgkfipbphmaaProg.lean LOADS. Nothing in Lean hashes anything: it is a label: what it is worth is what the hold of that sum in a sandbox is worth. -/
noncomputable def Try.pinned : Pinned := { name := "ythlmgkfipbphmaa", sum := "dc92b0d587459f331c2ebeb128a027fcd8619ada5a4117c188a4a3b939ce1f01", checked := Try.checked }
namespace Rows
def none {H : Type} : Left H := { results := [], args := [] }

/-- 'glazierlaw19.ArenaApart': WHATEVER THE INPUT: true; the input reads as it did. -/
def arenaApartSpec : ChangeSpec := { name := "arenaApart", fn := fun _ => fun
  | [d1, d2, d3] => { results := [.lit (.bool true)], args := [d1, d2, d3] }
  | _ => none }
def arenaApartRow : OpenClaim := { program := "ythlmgkfipbphmaa", sum := "dc92b0d587459f331c2ebeb128a027fcd8619ada5a4117c188a4a3b939ce1f01", func := "glazier/glazierlaw19.ArenaApart", spec := "arenaApart", inPlace := ["maps.clone"], recurses := true, apart := false }
def ArenaApartSaid : Prop := arenaApartRow.holds Try.pinned (OpenSpec.ofChange arenaApartSpec)

/-- ITS FALSE NEIGHBOUR: 'it returns false'. Refute it at one input. -/
def arenaApartWrong : ChangeSpec := { name := "arenaApart", fn := fun _ => fun
  | [d1, d2, d3] => { results := [.lit (.bool false)], args := [d1, d2, d3] }
  | _ => none }
def ArenaApartWrongFalsely : Prop := arenaApartRow.holds Try.pinned (OpenSpec.ofChange arenaApartWrong)

/-- 'glazierlaw19.ArenaNobody': WHATEVER THE INPUT: true; the input reads as it did. -/
def arenaNobodySpec : ChangeSpec := { name := "arenaNobody", fn := fun _ => fun
  | [d1, d2] => { results := [.lit (.bool true)], args := [d1, d2] }
  | _ => none }
def arenaNobodyRow : OpenClaim := { program := "ythlmgkfipbphmaa", sum := "dc92b0d587459f331c2ebeb128a027fcd8619ada5a4117c188a4a3b939ce1f01", func := "glazier/glazierlaw19.ArenaNobody", spec := "arenaNobody", inPlace := ["maps.clone"], recurses := true, apart := false }
def ArenaNobodySaid : Prop := arenaNobodyRow.holds Try.pinned (OpenSpec.ofChange arenaNobodySpec)

/-- ITS FALSE NEIGHBOUR: 'it returns false'. Refute it at one input. -/
def arenaNobodyWrong : ChangeSpec := { name := "arenaNobody", fn := fun _ => fun
  | [d1, d2] => { results := [.lit (.bool false)], args := [d1, d2] }
  | _ => none }
def ArenaNobodyWrongFalsely : Prop := arenaNobodyRow.holds Try.pinned (OpenSpec.ofChange arenaNobodyWrong)

/-- 'glazierlaw18.LimitChain': WHATEVER THE INPUT: true; the input reads as it did. -/
def limitChainSpec : ChangeSpec := { name := "limitChain", fn := fun _ => fun
  | [d1, d2] => { results := [.lit (.bool true)], args := [d1, d2] }
  | _ => none }
def limitChainRow : OpenClaim := { program := "ythlmgkfipbphmaa", sum := "dc92b0d587459f331c2ebeb128a027fcd8619ada5a4117c188a4a3b939ce1f01", func := "glazier/glazierlaw18.LimitChain", spec := "limitChain", unfollowed := true, recurses := true, apart := false }
def LimitChainSaid : Prop := limitChainRow.holds Try.pinned (OpenSpec.ofChange limitChainSpec)

/-- ITS FALSE NEIGHBOUR: 'it returns false'. Refute it at one input. -/
def limitChainWrong : ChangeSpec := { name := "limitChain", fn := fun _ => fun
  | [d1, d2] => { results := [.lit (.bool false)], args := [d1, d2] }
  | _ => none }
def LimitChainWrongFalsely : Prop := limitChainRow.holds Try.pinned (OpenSpec.ofChange limitChainWrong)

/-- 'glazierlaw24.PatchKinds': WHATEVER THE INPUT: true; the input reads as it did. -/
def patchKindsSpec : ChangeSpec := { name := "patchKinds", fn := fun _ => fun
  | [d1, d2] => { results := [.lit (.bool true)], args := [d1, d2] }
  | _ => none }
def patchKindsRow : OpenClaim := { program := "ythlmgkfipbphmaa", sum := "dc92b0d587459f331c2ebeb128a027fcd8619ada5a4117c188a4a3b939ce1f01", func := "glazier/glazierlaw24.PatchKinds", spec := "patchKinds", inPlace := ["maps.clone", "slices.overlaps[int]"], unfollowed := true, recurses := true, apart := false }
def PatchKindsSaid : Prop := patchKindsRow.holds Try.pinned (OpenSpec.ofChange patchKindsSpec)

/-- ITS FALSE NEIGHBOUR: 'it returns false'. Refute it at one input. -/
def patchKindsWrong : ChangeSpec := { name := "patchKinds", fn := fun _ => fun
  | [d1, d2] => { results := [.lit (.bool false)], args := [d1, d2] }
  | _ => none }
def PatchKindsWrongFalsely : Prop := patchKindsRow.holds Try.pinned (OpenSpec.ofChange patchKindsWrong)

/-- 'glazierlaw18.LimitLong': WHATEVER THE INPUT: true; the input reads as it did. -/
def limitLongSpec : ChangeSpec := { name := "limitLong", fn := fun _ => fun
  | [d1, d2] => { results := [.lit (.bool true)], args := [d1, d2] }
  | _ => none }
def limitLongRow : OpenClaim := { program := "ythlmgkfipbphmaa", sum := "dc92b0d587459f331c2ebeb128a027fcd8619ada5a4117c188a4a3b939ce1f01", func := "glazier/glazierlaw18.LimitLong", spec := "limitLong", unfollowed := true, recurses := true, apart := false }
def LimitLongSaid : Prop := limitLongRow.holds Try.pinned (OpenSpec.ofChange limitLongSpec)

/-- ITS FALSE NEIGHBOUR: 'it returns false'. Refute it at one input. -/
def limitLongWrong : ChangeSpec := { name := "limitLong", fn := fun _ => fun
  | [d1, d2] => { results := [.lit (.bool false)], args := [d1, d2] }
  | _ => none }
def LimitLongWrongFalsely : Prop := limitLongRow.holds Try.pinned (OpenSpec.ofChange limitLongWrong)

/-- 'glazierlaw50.MirrorTakes': WHATEVER THE INPUT: true; the input reads as it did. -/
def mirrorTakesSpec : ChangeSpec := { name := "mirrorTakes", fn := fun _ => fun
  | [d] => { results := [.lit (.bool true)], args := [d] }
  | _ => none }
def mirrorTakesRow : OpenClaim := { program := "ythlmgkfipbphmaa", sum := "dc92b0d587459f331c2ebeb128a027fcd8619ada5a4117c188a4a3b939ce1f01", func := "glazier/glazierlaw50.MirrorTakes", spec := "mirrorTakes", inPlace := ["maps.clone", "slices.overlaps[int]"], unfollowed := true, recurses := true, apart := false }
def MirrorTakesSaid : Prop := mirrorTakesRow.holds Try.pinned (OpenSpec.ofChange mirrorTakesSpec)

/-- ITS FALSE NEIGHBOUR: 'it returns false'. Refute it at one input. -/
def mirrorTakesWrong : ChangeSpec := { name := "mirrorTakes", fn := fun _ => fun
  | [d] => { results := [.lit (.bool false)], args := [d] }
  | _ => none }
def MirrorTakesWrongFalsely : Prop := mirrorTakesRow.holds Try.pinned (OpenSpec.ofChange mirrorTakesWrong)

/-- 'glazierlaw50.MirrorNobody': WHATEVER THE INPUT: true; the input reads as it did. -/
def mirrorNobodySpec : ChangeSpec := { name := "mirrorNobody", fn := fun _ => fun
  | [d] => { results := [.lit (.bool true)], args := [d] }
  | _ => none }
def mirrorNobodyRow : OpenClaim := { program := "ythlmgkfipbphmaa", sum := "dc92b0d587459f331c2ebeb128a027fcd8619ada5a4117c188a4a3b939ce1f01", func := "glazier/glazierlaw50.MirrorNobody", spec := "mirrorNobody", inPlace := ["maps.clone", "slices.overlaps[int]"], unfollowed := true, recurses := true, apart := false }
def MirrorNobodySaid : Prop := mirrorNobodyRow.holds Try.pinned (OpenSpec.ofChange mirrorNobodySpec)

/-- ITS FALSE NEIGHBOUR: 'it returns false'. Refute it at one input. -/
def mirrorNobodyWrong : ChangeSpec := { name := "mirrorNobody", fn := fun _ => fun
  | [d] => { results := [.lit (.bool false)], args := [d] }
  | _ => none }
def MirrorNobodyWrongFalsely : Prop := mirrorNobodyRow.holds Try.pinned (OpenSpec.ofChange mirrorNobodyWrong)

/- THE SECOND FORM. 'bulk': how many values and letters a reading holds, each counted each time it is reached (what is shared counts as often as it is met; a slice's spare places count too). A statement '..UptoSaid' is the law's where the arguments, and the package variables that the reading takes, are together of bulk at most 1048576: NARROWER than '..Said'. Prove '..Said' where nothing that the law and all that it calls make is longer than what came in: it says more and counts as full. Else prove '..UptoSaid'. A law counts once. -/
mutual
def uptoBulk {H : Type} : DataW H → Nat
  | .lit (.string bytes) => bytes.length + 1
  | .lit _ => 1
  | .nil => 1
  | .ptr d => uptoBulk d + 1
  | .slice elems spare => uptoBulkAll elems + uptoBulkAll spare + 1
  | .agg parts => uptoBulkAll parts + 1
  | .iface _ d => uptoBulk d + 1
  | .map entries => uptoBulkEntries entries + 1
  | .held _ => 1
def uptoBulkAll {H : Type} : List (DataW H) → Nat
  | [] => 0
  | d :: r => uptoBulk d + uptoBulkAll r
def uptoBulkEntries {H : Type} : List (Lit × DataW H) → Nat
  | [] => 0
  | x :: r => uptoBulkEntry x + uptoBulkEntries r
def uptoBulkEntry {H : Type} : Lit × DataW H → Nat
  | (.string bytes, d) => bytes.length + uptoBulk d + 1
  | (_, d) => uptoBulk d + 1
 end
def uptoSmall : (H : Type) → List (DataW H) → Bool := fun _ ds => decide (uptoBulkAll ds ≤ 1048576)
def OpenSpec.upto (s : _root_.Go.ChangeSpec) : _root_.Go.OpenSpec := { _root_.Go.OpenSpec.ofChange s with cond := some uptoSmall }

/-- 'glazierlaw19.ArenaApart', WHERE WHAT IT READS IS OF BULK AT MOST 1048576: true; the input reads as it did. -/
def arenaApartUptoRow : OpenClaim := { program := "ythlmgkfipbphmaa", sum := "dc92b0d587459f331c2ebeb128a027fcd8619ada5a4117c188a4a3b939ce1f01", func := "glazier/glazierlaw19.ArenaApart", spec := "arenaApart", inPlace := ["maps.clone"], recurses := true, apart := false, narrowed := true }
def ArenaApartUptoSaid : Prop := arenaApartUptoRow.holds Try.pinned (OpenSpec.upto arenaApartSpec)

/-- 'glazierlaw19.ArenaNobody', WHERE WHAT IT READS IS OF BULK AT MOST 1048576: true; the input reads as it did. -/
def arenaNobodyUptoRow : OpenClaim := { program := "ythlmgkfipbphmaa", sum := "dc92b0d587459f331c2ebeb128a027fcd8619ada5a4117c188a4a3b939ce1f01", func := "glazier/glazierlaw19.ArenaNobody", spec := "arenaNobody", inPlace := ["maps.clone"], recurses := true, apart := false, narrowed := true }
def ArenaNobodyUptoSaid : Prop := arenaNobodyUptoRow.holds Try.pinned (OpenSpec.upto arenaNobodySpec)

/-- 'glazierlaw18.LimitChain', WHERE WHAT IT READS IS OF BULK AT MOST 1048576: true; the input reads as it did. -/
def limitChainUptoRow : OpenClaim := { program := "ythlmgkfipbphmaa", sum := "dc92b0d587459f331c2ebeb128a027fcd8619ada5a4117c188a4a3b939ce1f01", func := "glazier/glazierlaw18.LimitChain", spec := "limitChain", unfollowed := true, recurses := true, apart := false, narrowed := true }
def LimitChainUptoSaid : Prop := limitChainUptoRow.holds Try.pinned (OpenSpec.upto limitChainSpec)

/-- 'glazierlaw24.PatchKinds', WHERE WHAT IT READS IS OF BULK AT MOST 1048576: true; the input reads as it did. -/
def patchKindsUptoRow : OpenClaim := { program := "ythlmgkfipbphmaa", sum := "dc92b0d587459f331c2ebeb128a027fcd8619ada5a4117c188a4a3b939ce1f01", func := "glazier/glazierlaw24.PatchKinds", spec := "patchKinds", inPlace := ["maps.clone", "slices.overlaps[int]"], unfollowed := true, recurses := true, apart := false, narrowed := true }
def PatchKindsUptoSaid : Prop := patchKindsUptoRow.holds Try.pinned (OpenSpec.upto patchKindsSpec)

/-- 'glazierlaw18.LimitLong', WHERE WHAT IT READS IS OF BULK AT MOST 1048576: true; the input reads as it did. -/
def limitLongUptoRow : OpenClaim := { program := "ythlmgkfipbphmaa", sum := "dc92b0d587459f331c2ebeb128a027fcd8619ada5a4117c188a4a3b939ce1f01", func := "glazier/glazierlaw18.LimitLong", spec := "limitLong", unfollowed := true, recurses := true, apart := false, narrowed := true }
def LimitLongUptoSaid : Prop := limitLongUptoRow.holds Try.pinned (OpenSpec.upto limitLongSpec)

/-- 'glazierlaw50.MirrorTakes', WHERE WHAT IT READS IS OF BULK AT MOST 1048576: true; the input reads as it did. -/
def mirrorTakesUptoRow : OpenClaim := { program := "ythlmgkfipbphmaa", sum := "dc92b0d587459f331c2ebeb128a027fcd8619ada5a4117c188a4a3b939ce1f01", func := "glazier/glazierlaw50.MirrorTakes", spec := "mirrorTakes", inPlace := ["maps.clone", "slices.overlaps[int]"], unfollowed := true, recurses := true, apart := false, narrowed := true }
def MirrorTakesUptoSaid : Prop := mirrorTakesUptoRow.holds Try.pinned (OpenSpec.upto mirrorTakesSpec)

/-- 'glazierlaw50.MirrorNobody', WHERE WHAT IT READS IS OF BULK AT MOST 1048576: true; the input reads as it did. -/
def mirrorNobodyUptoRow : OpenClaim := { program := "ythlmgkfipbphmaa", sum := "dc92b0d587459f331c2ebeb128a027fcd8619ada5a4117c188a4a3b939ce1f01", func := "glazier/glazierlaw50.MirrorNobody", spec := "mirrorNobody", inPlace := ["maps.clone", "slices.overlaps[int]"], unfollowed := true, recurses := true, apart := false, narrowed := true }
def MirrorNobodyUptoSaid : Prop := mirrorNobodyUptoRow.holds Try.pinned (OpenSpec.upto mirrorNobodySpec)

end Rows
end Go.Proofs.Ythlmgkfipbphmaa

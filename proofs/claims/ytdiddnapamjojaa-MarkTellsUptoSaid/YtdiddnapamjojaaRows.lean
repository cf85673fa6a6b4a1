/-
  NARROWER THAN 'FOR EVERY INPUT', by the rows' own cells (each row's printed sentence says how): EraseParts: loops.
  DERIVED. THE GIVEN ROWS OF THIS SEAT. 15 by the template 'for every input the law returns true; each argument reads behind the call as it read before'; 0 by the template 'total and deterministic' (their statements: YtdiddnapamjojaaTotals.lean).
  GIVEN WITH THE SEED: the statements are not yours to turn. If you find one false, say at which input.
  Laid BY PROGRAM, IN A SANDBOX (cutbox-rows.mjs): the forced cells as the released guide's own fill.sh prints them over the translation f08d42a9f4eb5668… (all of the seat's roots in one cut). By AI agents, Wed Nov 11 2026. No macro, syntax, notation, axiom, sorry.
-/
import Derived.Test.YtdiddnapamjojaaChecked
import GoSem.Claim
import GoSem.ClaimJoined
import GoSem.ClaimMapViews
import Derived.JoinedTies
import Derived.KernelRfl
namespace Go.Proofs.Ytdiddnapamjojaa
/- THE CELL 'sum', in the pinned program and in every row, IS THE sha256 OF THE DUMP (.gsa) THAT YtdiddnapamjojaaProg.lean LOADS. Nothing in Lean hashes anything: it is a label: what it is worth is what the hold of that sum in a sandbox is worth. -/
noncomputable def Try.pinned : Pinned := { name := "ytdiddnapamjojaa", sum := "f08d42a9f4eb566819e13a130b6bec678480c0b782bbe75c662ab2354a128c95", checked := Try.checked }
namespace Rows
def none {H : Type} : Left H := { results := [], args := [] }

/-- 'glazierlaw01.MarkMany': WHATEVER THE INPUT: true; the input reads as it did. -/
def markManySpec : ChangeSpec := { name := "markMany", fn := fun _ => fun
  | [d] => { results := [.lit (.bool true)], args := [d] }
  | _ => none }
def markManyRow : OpenClaim := { program := "ytdiddnapamjojaa", sum := "f08d42a9f4eb566819e13a130b6bec678480c0b782bbe75c662ab2354a128c95", func := "glazier/glazierlaw01.MarkMany", spec := "markMany", apart := false }
def MarkManySaid : Prop := markManyRow.holds Try.pinned (OpenSpec.ofChange markManySpec)

/-- ITS FALSE NEIGHBOUR: 'it returns false'. Refute it at one input. -/
def markManyWrong : ChangeSpec := { name := "markMany", fn := fun _ => fun
  | [d] => { results := [.lit (.bool false)], args := [d] }
  | _ => none }
def MarkManyWrongFalsely : Prop := markManyRow.holds Try.pinned (OpenSpec.ofChange markManyWrong)

/-- 'glazierlaw48.SquashTells': WHATEVER THE INPUT: true; the input reads as it did. -/
def squashTellsSpec : ChangeSpec := { name := "squashTells", fn := fun _ => fun
  | [d1, d2] => { results := [.lit (.bool true)], args := [d1, d2] }
  | _ => none }
def squashTellsRow : OpenClaim := { program := "ytdiddnapamjojaa", sum := "f08d42a9f4eb566819e13a130b6bec678480c0b782bbe75c662ab2354a128c95", func := "glazier/glazierlaw48.SquashTells", spec := "squashTells", unfollowed := true, recurses := true, apart := false }
def SquashTellsSaid : Prop := squashTellsRow.holds Try.pinned (OpenSpec.ofChange squashTellsSpec)

/-- ITS FALSE NEIGHBOUR: 'it returns false'. Refute it at one input. -/
def squashTellsWrong : ChangeSpec := { name := "squashTells", fn := fun _ => fun
  | [d1, d2] => { results := [.lit (.bool false)], args := [d1, d2] }
  | _ => none }
def SquashTellsWrongFalsely : Prop := squashTellsRow.holds Try.pinned (OpenSpec.ofChange squashTellsWrong)

/-- 'glazierlaw01.MarkOwn': WHATEVER THE INPUT: true; the input reads as it did. -/
def markOwnSpec : ChangeSpec := { name := "markOwn", fn := fun _ => fun
  | [d] => { results := [.lit (.bool true)], args := [d] }
  | _ => none }
def markOwnRow : OpenClaim := { program := "ytdiddnapamjojaa", sum := "f08d42a9f4eb566819e13a130b6bec678480c0b782bbe75c662ab2354a128c95", func := "glazier/glazierlaw01.MarkOwn", spec := "markOwn", apart := false }
def MarkOwnSaid : Prop := markOwnRow.holds Try.pinned (OpenSpec.ofChange markOwnSpec)

/-- ITS FALSE NEIGHBOUR: 'it returns false'. Refute it at one input. -/
def markOwnWrong : ChangeSpec := { name := "markOwn", fn := fun _ => fun
  | [d] => { results := [.lit (.bool false)], args := [d] }
  | _ => none }
def MarkOwnWrongFalsely : Prop := markOwnRow.holds Try.pinned (OpenSpec.ofChange markOwnWrong)

/-- 'glazierlaw01.MarkCuts': WHATEVER THE INPUT: true; the input reads as it did. -/
def markCutsSpec : ChangeSpec := { name := "markCuts", fn := fun _ => fun
  | [d1, d2, d3, d4, d5] => { results := [.lit (.bool true)], args := [d1, d2, d3, d4, d5] }
  | _ => none }
def markCutsRow : OpenClaim := { program := "ytdiddnapamjojaa", sum := "f08d42a9f4eb566819e13a130b6bec678480c0b782bbe75c662ab2354a128c95", func := "glazier/glazierlaw01.MarkCuts", spec := "markCuts", apart := false }
def MarkCutsSaid : Prop := markCutsRow.holds Try.pinned (OpenSpec.ofChange markCutsSpec)

/-- ITS FALSE NEIGHBOUR: 'it returns false'. Refute it at one input. -/
def markCutsWrong : ChangeSpec := { name := "markCuts", fn := fun _ => fun
  | [d1, d2, d3, d4, d5] => { results := [.lit (.bool false)], args := [d1, d2, d3, d4, d5] }
  | _ => none }
def MarkCutsWrongFalsely : Prop := markCutsRow.holds Try.pinned (OpenSpec.ofChange markCutsWrong)

/-- 'glazierlaw33.EraseParts': WHATEVER THE INPUT: true; the input reads as it did. -/
def erasePartsSpec : ChangeSpec := { name := "eraseParts", fn := fun _ => fun
  | [d1, d2, d3, d4] => { results := [.lit (.bool true)], args := [d1, d2, d3, d4] }
  | _ => none }
def erasePartsRow : OpenClaim := { program := "ytdiddnapamjojaa", sum := "f08d42a9f4eb566819e13a130b6bec678480c0b782bbe75c662ab2354a128c95", func := "glazier/glazierlaw33.EraseParts", spec := "eraseParts", unfollowed := true, recurses := true, loops := true, apart := false }
def ErasePartsSaid : Prop := erasePartsRow.holds Try.pinned (OpenSpec.ofChange erasePartsSpec)

/-- ITS FALSE NEIGHBOUR: 'it returns false'. Refute it at one input. -/
def erasePartsWrong : ChangeSpec := { name := "eraseParts", fn := fun _ => fun
  | [d1, d2, d3, d4] => { results := [.lit (.bool false)], args := [d1, d2, d3, d4] }
  | _ => none }
def ErasePartsWrongFalsely : Prop := erasePartsRow.holds Try.pinned (OpenSpec.ofChange erasePartsWrong)

/-- 'glazierlaw09.EscapeParts': WHATEVER THE INPUT: true; the input reads as it did. -/
def escapePartsSpec : ChangeSpec := { name := "escapeParts", fn := fun _ => fun
  | [d1, d2] => { results := [.lit (.bool true)], args := [d1, d2] }
  | _ => none }
def escapePartsRow : OpenClaim := { program := "ytdiddnapamjojaa", sum := "f08d42a9f4eb566819e13a130b6bec678480c0b782bbe75c662ab2354a128c95", func := "glazier/glazierlaw09.EscapeParts", spec := "escapeParts", apart := false }
def EscapePartsSaid : Prop := escapePartsRow.holds Try.pinned (OpenSpec.ofChange escapePartsSpec)

/-- ITS FALSE NEIGHBOUR: 'it returns false'. Refute it at one input. -/
def escapePartsWrong : ChangeSpec := { name := "escapeParts", fn := fun _ => fun
  | [d1, d2] => { results := [.lit (.bool false)], args := [d1, d2] }
  | _ => none }
def EscapePartsWrongFalsely : Prop := escapePartsRow.holds Try.pinned (OpenSpec.ofChange escapePartsWrong)

/-- 'glazierlaw09.EscapeTells': WHATEVER THE INPUT: true; the input reads as it did. -/
def escapeTellsSpec : ChangeSpec := { name := "escapeTells", fn := fun _ => fun
  | [d1, d2] => { results := [.lit (.bool true)], args := [d1, d2] }
  | _ => none }
def escapeTellsRow : OpenClaim := { program := "ytdiddnapamjojaa", sum := "f08d42a9f4eb566819e13a130b6bec678480c0b782bbe75c662ab2354a128c95", func := "glazier/glazierlaw09.EscapeTells", spec := "escapeTells", unfollowed := true, recurses := true, apart := false }
def EscapeTellsSaid : Prop := escapeTellsRow.holds Try.pinned (OpenSpec.ofChange escapeTellsSpec)

/-- ITS FALSE NEIGHBOUR: 'it returns false'. Refute it at one input. -/
def escapeTellsWrong : ChangeSpec := { name := "escapeTells", fn := fun _ => fun
  | [d1, d2] => { results := [.lit (.bool false)], args := [d1, d2] }
  | _ => none }
def EscapeTellsWrongFalsely : Prop := escapeTellsRow.holds Try.pinned (OpenSpec.ofChange escapeTellsWrong)

/-- 'glazierlaw49.WireCuts': WHATEVER THE INPUT: true; the input reads as it did. -/
def wireCutsSpec : ChangeSpec := { name := "wireCuts", fn := fun _ => fun
  | [d1, d2] => { results := [.lit (.bool true)], args := [d1, d2] }
  | _ => none }
def wireCutsRow : OpenClaim := { program := "ytdiddnapamjojaa", sum := "f08d42a9f4eb566819e13a130b6bec678480c0b782bbe75c662ab2354a128c95", func := "glazier/glazierlaw49.WireCuts", spec := "wireCuts", apart := false }
def WireCutsSaid : Prop := wireCutsRow.holds Try.pinned (OpenSpec.ofChange wireCutsSpec)

/-- ITS FALSE NEIGHBOUR: 'it returns false'. Refute it at one input. -/
def wireCutsWrong : ChangeSpec := { name := "wireCuts", fn := fun _ => fun
  | [d1, d2] => { results := [.lit (.bool false)], args := [d1, d2] }
  | _ => none }
def WireCutsWrongFalsely : Prop := wireCutsRow.holds Try.pinned (OpenSpec.ofChange wireCutsWrong)

/-- 'glazierlaw49.WireTells': WHATEVER THE INPUT: true; the input reads as it did. -/
def wireTellsSpec : ChangeSpec := { name := "wireTells", fn := fun _ => fun
  | [d1, d2] => { results := [.lit (.bool true)], args := [d1, d2] }
  | _ => none }
def wireTellsRow : OpenClaim := { program := "ytdiddnapamjojaa", sum := "f08d42a9f4eb566819e13a130b6bec678480c0b782bbe75c662ab2354a128c95", func := "glazier/glazierlaw49.WireTells", spec := "wireTells", apart := false }
def WireTellsSaid : Prop := wireTellsRow.holds Try.pinned (OpenSpec.ofChange wireTellsSpec)

/-- ITS FALSE NEIGHBOUR: 'it returns false'. Refute it at one input. -/
def wireTellsWrong : ChangeSpec := { name := "wireTells", fn := fun _ => fun
  | [d1, d2] => { results := [.lit (.bool false)], args := [d1, d2] }
  | _ => none }
def WireTellsWrongFalsely : Prop := wireTellsRow.holds Try.pinned (OpenSpec.ofChange wireTellsWrong)

/-- 'glazierlaw49.WireBack': WHATEVER THE INPUT: true; the input reads as it did. -/
def wireBackSpec : ChangeSpec := { name := "wireBack", fn := fun _ => fun
  | [d1, d2, d3, d4] => { results := [.lit (.bool true)], args := [d1, d2, d3, d4] }
  | _ => none }
def wireBackRow : OpenClaim := { program := "ytdiddnapamjojaa", sum := "f08d42a9f4eb566819e13a130b6bec678480c0b782bbe75c662ab2354a128c95", func := "glazier/glazierlaw49.WireBack", spec := "wireBack", apart := false }
def WireBackSaid : Prop := wireBackRow.holds Try.pinned (OpenSpec.ofChange wireBackSpec)

/-- ITS FALSE NEIGHBOUR: 'it returns false'. Refute it at one input. -/
def wireBackWrong : ChangeSpec := { name := "wireBack", fn := fun _ => fun
  | [d1, d2, d3, d4] => { results := [.lit (.bool false)], args := [d1, d2, d3, d4] }
  | _ => none }
def WireBackWrongFalsely : Prop := wireBackRow.holds Try.pinned (OpenSpec.ofChange wireBackWrong)

/-- 'glazierlaw08.EntityTells': WHATEVER THE INPUT: true; the input reads as it did. -/
def entityTellsSpec : ChangeSpec := { name := "entityTells", fn := fun _ => fun
  | [d1, d2, d3] => { results := [.lit (.bool true)], args := [d1, d2, d3] }
  | _ => none }
def entityTellsRow : OpenClaim := { program := "ytdiddnapamjojaa", sum := "f08d42a9f4eb566819e13a130b6bec678480c0b782bbe75c662ab2354a128c95", func := "glazier/glazierlaw08.EntityTells", spec := "entityTells", inPlace := ["internal/bytealg.IndexByteString"], apart := false }
def EntityTellsSaid : Prop := entityTellsRow.holds Try.pinned (OpenSpec.ofChange entityTellsSpec)

/-- ITS FALSE NEIGHBOUR: 'it returns false'. Refute it at one input. -/
def entityTellsWrong : ChangeSpec := { name := "entityTells", fn := fun _ => fun
  | [d1, d2, d3] => { results := [.lit (.bool false)], args := [d1, d2, d3] }
  | _ => none }
def EntityTellsWrongFalsely : Prop := entityTellsRow.holds Try.pinned (OpenSpec.ofChange entityTellsWrong)

/-- 'glazierlaw08.EntityNumbers': WHATEVER THE INPUT: true; the input reads as it did. -/
def entityNumbersSpec : ChangeSpec := { name := "entityNumbers", fn := fun _ => fun
  | [d1, d2] => { results := [.lit (.bool true)], args := [d1, d2] }
  | _ => none }
def entityNumbersRow : OpenClaim := { program := "ytdiddnapamjojaa", sum := "f08d42a9f4eb566819e13a130b6bec678480c0b782bbe75c662ab2354a128c95", func := "glazier/glazierlaw08.EntityNumbers", spec := "entityNumbers", inPlace := ["internal/bytealg.IndexByteString"], apart := false }
def EntityNumbersSaid : Prop := entityNumbersRow.holds Try.pinned (OpenSpec.ofChange entityNumbersSpec)

/-- ITS FALSE NEIGHBOUR: 'it returns false'. Refute it at one input. -/
def entityNumbersWrong : ChangeSpec := { name := "entityNumbers", fn := fun _ => fun
  | [d1, d2] => { results := [.lit (.bool false)], args := [d1, d2] }
  | _ => none }
def EntityNumbersWrongFalsely : Prop := entityNumbersRow.holds Try.pinned (OpenSpec.ofChange entityNumbersWrong)

/-- 'glazierlaw08.EntityPlain': WHATEVER THE INPUT: true; the input reads as it did. -/
def entityPlainSpec : ChangeSpec := { name := "entityPlain", fn := fun _ => fun
  | [d] => { results := [.lit (.bool true)], args := [d] }
  | _ => none }
def entityPlainRow : OpenClaim := { program := "ytdiddnapamjojaa", sum := "f08d42a9f4eb566819e13a130b6bec678480c0b782bbe75c662ab2354a128c95", func := "glazier/glazierlaw08.EntityPlain", spec := "entityPlain", inPlace := ["internal/bytealg.IndexByteString"], apart := false }
def EntityPlainSaid : Prop := entityPlainRow.holds Try.pinned (OpenSpec.ofChange entityPlainSpec)

/-- ITS FALSE NEIGHBOUR: 'it returns false'. Refute it at one input. -/
def entityPlainWrong : ChangeSpec := { name := "entityPlain", fn := fun _ => fun
  | [d] => { results := [.lit (.bool false)], args := [d] }
  | _ => none }
def EntityPlainWrongFalsely : Prop := entityPlainRow.holds Try.pinned (OpenSpec.ofChange entityPlainWrong)

/-- 'glazierlaw09.EscapeBack': WHATEVER THE INPUT: true; the input reads as it did. -/
def escapeBackSpec : ChangeSpec := { name := "escapeBack", fn := fun _ => fun
  | [d] => { results := [.lit (.bool true)], args := [d] }
  | _ => none }
def escapeBackRow : OpenClaim := { program := "ytdiddnapamjojaa", sum := "f08d42a9f4eb566819e13a130b6bec678480c0b782bbe75c662ab2354a128c95", func := "glazier/glazierlaw09.EscapeBack", spec := "escapeBack", inPlace := ["internal/bytealg.IndexByteString", "internal/bytealg.IndexString"], named := ["internal/bytealg.MaxLen"], apart := false }
def EscapeBackSaid : Prop := escapeBackRow.holds Try.pinned (OpenSpec.ofChange escapeBackSpec)

/-- ITS FALSE NEIGHBOUR: 'it returns false'. Refute it at one input. -/
def escapeBackWrong : ChangeSpec := { name := "escapeBack", fn := fun _ => fun
  | [d] => { results := [.lit (.bool false)], args := [d] }
  | _ => none }
def EscapeBackWrongFalsely : Prop := escapeBackRow.holds Try.pinned (OpenSpec.ofChange escapeBackWrong)

/-- 'glazierlaw01.MarkTells': WHATEVER THE INPUT: true; the input reads as it did. -/
def markTellsSpec : ChangeSpec := { name := "markTells", fn := fun _ => fun
  | [d1, d2, d3, d4] => { results := [.lit (.bool true)], args := [d1, d2, d3, d4] }
  | _ => none }
def markTellsRow : OpenClaim := { program := "ytdiddnapamjojaa", sum := "f08d42a9f4eb566819e13a130b6bec678480c0b782bbe75c662ab2354a128c95", func := "glazier/glazierlaw01.MarkTells", spec := "markTells", recurses := true, apart := false }
def MarkTellsSaid : Prop := markTellsRow.holds Try.pinned (OpenSpec.ofChange markTellsSpec)

/-- ITS FALSE NEIGHBOUR: 'it returns false'. Refute it at one input. -/
def markTellsWrong : ChangeSpec := { name := "markTells", fn := fun _ => fun
  | [d1, d2, d3, d4] => { results := [.lit (.bool false)], args := [d1, d2, d3, d4] }
  | _ => none }
def MarkTellsWrongFalsely : Prop := markTellsRow.holds Try.pinned (OpenSpec.ofChange markTellsWrong)

/- THE SECOND FORM. 'bulk': how many values and letters a reading holds, each counted each time it is reached (what is shared counts as often as it is met; a slice's spare places count too). A statement '..UptoSaid' is the law's where the arguments, and the package variables that the reading takes, are together of bulk at most 1048576: NARROWER than '..Said'. Prove '..Said' where nothing that the law and all that it calls make is longer than what came in: it says more and counts as full. Else prove '..UptoSaid'. A law counts once. -/
mutual
def uptoBulk {H : Type} : DataW H → Nat
  | .lit (.string bytes) => bytes.length + 1
  | .lit _ => 1
  | .nil => 1
  | .ptr d => uptoBulk d + 1
  | .slice elems spare => uptoBulkAll elems + uptoBulkAll spare + 1
  | .agg parts => uptoBulkAll parts + 1
  | .iface _ d => uptoBulk d + 1
  | .map entries => uptoBulkEntries entries + 1
  | .held _ => 1
def uptoBulkAll {H : Type} : List (DataW H) → Nat
  | [] => 0
  | d :: r => uptoBulk d + uptoBulkAll r
def uptoBulkEntries {H : Type} : List (Lit × DataW H) → Nat
  | [] => 0
  | x :: r => uptoBulkEntry x + uptoBulkEntries r
def uptoBulkEntry {H : Type} : Lit × DataW H → Nat
  | (.string bytes, d) => bytes.length + uptoBulk d + 1
  | (_, d) => uptoBulk d + 1
 end
def uptoSmall : (H : Type) → List (DataW H) → Bool := fun _ ds => decide (uptoBulkAll ds ≤ 1048576)
def OpenSpec.upto (s : _root_.Go.ChangeSpec) : _root_.Go.OpenSpec := { _root_.Go.OpenSpec.ofChange s with cond := some uptoSmall }

/-- 'glazierlaw01.MarkMany', WHERE WHAT IT READS IS OF BULK AT MOST 1048576: true; the input reads as it did. -/
def markManyUptoRow : OpenClaim := { program := "ytdiddnapamjojaa", sum := "f08d42a9f4eb566819e13a130b6bec678480c0b782bbe75c662ab2354a128c95", func := "glazier/glazierlaw01.MarkMany", spec := "markMany", apart := false, narrowed := true }
def MarkManyUptoSaid : Prop := markManyUptoRow.holds Try.pinned (OpenSpec.upto markManySpec)

/-- 'glazierlaw48.SquashTells', WHERE WHAT IT READS IS OF BULK AT MOST 1048576: true; the input reads as it did. -/
def squashTellsUptoRow : OpenClaim := { program := "ytdiddnapamjojaa", sum := "f08d42a9f4eb566819e13a130b6bec678480c0b782bbe75c662ab2354a128c95", func := "glazier/glazierlaw48.SquashTells", spec := "squashTells", unfollowed := true, recurses := true, apart := false, narrowed := true }
def SquashTellsUptoSaid : Prop := squashTellsUptoRow.holds Try.pinned (OpenSpec.upto squashTellsSpec)

/-- 'glazierlaw01.MarkOwn', WHERE WHAT IT READS IS OF BULK AT MOST 1048576: true; the input reads as it did. -/
def markOwnUptoRow : OpenClaim := { program := "ytdiddnapamjojaa", sum := "f08d42a9f4eb566819e13a130b6bec678480c0b782bbe75c662ab2354a128c95", func := "glazier/glazierlaw01.MarkOwn", spec := "markOwn", apart := false, narrowed := true }
def MarkOwnUptoSaid : Prop := markOwnUptoRow.holds Try.pinned (OpenSpec.upto markOwnSpec)

/-- 'glazierlaw01.MarkCuts', WHERE WHAT IT READS IS OF BULK AT MOST 1048576: true; the input reads as it did. -/
def markCutsUptoRow : OpenClaim := { program := "ytdiddnapamjojaa", sum := "f08d42a9f4eb566819e13a130b6bec678480c0b782bbe75c662ab2354a128c95", func := "glazier/glazierlaw01.MarkCuts", spec := "markCuts", apart := false, narrowed := true }
def MarkCutsUptoSaid : Prop := markCutsUptoRow.holds Try.pinned (OpenSpec.upto markCutsSpec)

/-- 'glazierlaw33.EraseParts', WHERE WHAT IT READS IS OF BULK AT MOST 1048576: true; the input reads as it did. -/
def erasePartsUptoRow : OpenClaim := { program := "ytdiddnapamjojaa", sum := "f08d42a9f4eb566819e13a130b6bec678480c0b782bbe75c662ab2354a128c95", func := "glazier/glazierlaw33.EraseParts", spec := "eraseParts", unfollowed := true, recurses := true, loops := true, apart := false, narrowed := true }
def ErasePartsUptoSaid : Prop := erasePartsUptoRow.holds Try.pinned (OpenSpec.upto erasePartsSpec)

/-- 'glazierlaw09.EscapeParts', WHERE WHAT IT READS IS OF BULK AT MOST 1048576: true; the input reads as it did. -/
def escapePartsUptoRow : OpenClaim := { program := "ytdiddnapamjojaa", sum := "f08d42a9f4eb566819e13a130b6bec678480c0b782bbe75c662ab2354a128c95", func := "glazier/glazierlaw09.EscapeParts", spec := "escapeParts", apart := false, narrowed := true }
def EscapePartsUptoSaid : Prop := escapePartsUptoRow.holds Try.pinned (OpenSpec.upto escapePartsSpec)

/-- 'glazierlaw09.EscapeTells', WHERE WHAT IT READS IS OF BULK AT MOST 1048576: true; the input reads as it did. -/
def escapeTellsUptoRow : OpenClaim := { program := "ytdiddnapamjojaa", sum := "f08d42a9f4eb566819e13a130b6bec678480c0b782bbe75c662ab2354a128c95", func := "glazier/glazierlaw09.EscapeTells", spec := "escapeTells", unfollowed := true, recurses := true, apart := false, narrowed := true }
def EscapeTellsUptoSaid : Prop := escapeTellsUptoRow.holds Try.pinned (OpenSpec.upto escapeTellsSpec)

/-- 'glazierlaw49.WireCuts', WHERE WHAT IT READS IS OF BULK AT MOST 1048576: true; the input reads as it did. -/
def wireCutsUptoRow : OpenClaim := { program := "ytdiddnapamjojaa", sum := "f08d42a9f4eb566819e13a130b6bec678480c0b782bbe75c662ab2354a128c95", func := "glazier/glazierlaw49.WireCuts", spec := "wireCuts", apart := false, narrowed := true }
def WireCutsUptoSaid : Prop := wireCutsUptoRow.holds Try.pinned (OpenSpec.upto wireCutsSpec)

/-- 'glazierlaw49.WireTells', WHERE WHAT IT READS IS OF BULK AT MOST 1048576: true; the input reads as it did. -/
def wireTellsUptoRow : OpenClaim := { program := "ytdiddnapamjojaa", sum := "f08d42a9f4eb566819e13a130b6bec678480c0b782bbe75c662ab2354a128c95", func := "glazier/glazierlaw49.WireTells", spec := "wireTells", apart := false, narrowed := true }
def WireTellsUptoSaid : Prop := wireTellsUptoRow.holds Try.pinned (OpenSpec.upto wireTellsSpec)

/-- 'glazierlaw49.WireBack', WHERE WHAT IT READS IS OF BULK AT MOST 1048576: true; the input reads as it did. -/
def wireBackUptoRow : OpenClaim := { program := "ytdiddnapamjojaa", sum := "f08d42a9f4eb566819e13a130b6bec678480c0b782bbe75c662ab2354a128c95", func := "glazier/glazierlaw49.WireBack", spec := "wireBack", apart := false, narrowed := true }
def WireBackUptoSaid : Prop := wireBackUptoRow.holds Try.pinned (OpenSpec.upto wireBackSpec)

/-- 'glazierlaw08.EntityTells', WHERE WHAT IT READS IS OF BULK AT MOST 1048576: true; the input reads as it did. -/
def entityTellsUptoRow : OpenClaim := { program := "ytdiddnapamjojaa", sum := "f08d42a9f4eb566819e13a130b6bec678480c0b782bbe75c662ab2354a128c95", func := "glazier/glazierlaw08.EntityTells", spec := "entityTells", inPlace := ["internal/bytealg.IndexByteString"], apart := false, narrowed := true }
def EntityTellsUptoSaid : Prop := entityTellsUptoRow.holds Try.pinned (OpenSpec.upto entityTellsSpec)

/-- 'glazierlaw08.EntityNumbers', WHERE WHAT IT READS IS OF BULK AT MOST 1048576: true; the input reads as it did. -/
def entityNumbersUptoRow : OpenClaim := { program := "ytdiddnapamjojaa", sum := "f08d42a9f4eb566819e13a130b6bec678480c0b782bbe75c662ab2354a128c95", func := "glazier/glazierlaw08.EntityNumbers", spec := "entityNumbers", inPlace := ["internal/bytealg.IndexByteString"], apart := false, narrowed := true }
def EntityNumbersUptoSaid : Prop := entityNumbersUptoRow.holds Try.pinned (OpenSpec.upto entityNumbersSpec)

/-- 'glazierlaw08.EntityPlain', WHERE WHAT IT READS IS OF BULK AT MOST 1048576: true; the input reads as it did. -/
def entityPlainUptoRow : OpenClaim := { program := "ytdiddnapamjojaa", sum := "f08d42a9f4eb566819e13a130b6bec678480c0b782bbe75c662ab2354a128c95", func := "glazier/glazierlaw08.EntityPlain", spec := "entityPlain", inPlace := ["internal/bytealg.IndexByteString"], apart := false, narrowed := true }
def EntityPlainUptoSaid : Prop := entityPlainUptoRow.holds Try.pinned (OpenSpec.upto entityPlainSpec)

/-- 'glazierlaw09.EscapeBack', WHERE WHAT IT READS IS OF BULK AT MOST 1048576: true; the input reads as it did. -/
def escapeBackUptoRow : OpenClaim := { program := "ytdiddnapamjojaa", sum := "f08d42a9f4eb566819e13a130b6bec678480c0b782bbe75c662ab2354a128c95", func := "glazier/glazierlaw09.EscapeBack", spec := "escapeBack", inPlace := ["internal/bytealg.IndexByteString", "internal/bytealg.IndexString"], named := ["internal/bytealg.MaxLen"], apart := false, narrowed := true }
def EscapeBackUptoSaid : Prop := escapeBackUptoRow.holds Try.pinned (OpenSpec.upto escapeBackSpec)

/-- 'glazierlaw01.MarkTells', WHERE WHAT IT READS IS OF BULK AT MOST 1048576: true; the input reads as it did. -/
def markTellsUptoRow : OpenClaim := { program := "ytdiddnapamjojaa", sum := "f08d42a9f4eb566819e13a130b6bec678480c0b782bbe75c662ab2354a128c95", func := "glazier/glazierlaw01.MarkTells", spec := "markTells", recurses := true, apart := false, narrowed := true }
def MarkTellsUptoSaid : Prop := markTellsUptoRow.holds Try.pinned (OpenSpec.upto markTellsSpec)

end Rows
end Go.Proofs.Ytdiddnapamjojaa

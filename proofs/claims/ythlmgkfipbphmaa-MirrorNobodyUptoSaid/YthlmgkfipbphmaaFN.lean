/- Contracts of functions of the program, for what calls them, and the law that its name tells. -/
import Derived.Test.YthlmgkfipbphmaaEM
import Derived.Test.YthlmgkfipbphmaaLA
namespace Go.Proofs.VL
open Go Go.RowKit
set_option maxRecDepth 100000
set_option linter.unusedSimpArgs false
set_option linter.unusedVariables false

theorem mirror_alive : VFn Try.prog 29 [] (.bool true) := runFT_sound tabM_ok 1000 60 (by kernel_rfl)
theorem mirrorNobody (rows : List (List V)) : VFn Try.prog 9 [.sl 1 rows] (.bool true) := runFT_sound tabM_ok 1000 60 (by kernel_rfl)
theorem cells_u8 : Try.prog.cellsOf 5 = 1 := by kernel_rfl
end Go.Proofs.VL

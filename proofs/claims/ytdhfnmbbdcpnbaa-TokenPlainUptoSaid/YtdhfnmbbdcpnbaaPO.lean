/- Contracts of functions of the program, for what calls them, and the law that its name tells. -/
import Derived.Test.YtdhfnmbbdcpnbaaPM
namespace Go.Proofs.VL
open Go Go.RowKit
set_option maxRecDepth 100000
theorem alive13 : VFn Try.prog 20 [] (.bool true) := runFT_sound tabT_ok 1000 60 (by kernel_rfl)
end Go.Proofs.VL

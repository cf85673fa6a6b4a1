/- Contracts of functions of the program, for what calls them, and the law that its name tells. -/
import Derived.Test.YtdhfnmbbdcpnbaaEZ
namespace Go.Proofs.VL
open Go Go.RowKit
set_option maxRecDepth 100000
def tagA : List (List UInt8) := [[100, 105, 118], [115, 112, 97, 110], [112], [97], [117, 108], [108, 105], [98], [105], [101, 109], [115, 116, 114, 111, 110, 103], [104, 49], [104, 50], [98, 114], [104, 114], [105, 109, 103]]
def attB : List (List UInt8) := [[99, 108, 97, 115, 115], [105, 100], [116, 105, 116, 108, 101], [97, 108, 116], [110, 97, 109, 101], [104, 114, 101, 102], [115, 114, 99]]
theorem allow_common : VFn Try.prog 14 [] (.tup [.sl 1 (sRow tagA), .sl 1 (sRow attB)]) := runFV_sound tabC_ok 1000 60 (by kernel_rfl)
end Go.Proofs.VL

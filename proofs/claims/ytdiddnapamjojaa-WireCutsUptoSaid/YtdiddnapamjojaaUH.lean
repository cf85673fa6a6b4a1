/- Contracts of functions of the program, for what calls them, and the law that its name tells. -/
import Derived.Test.YtdiddnapamjojaaLC
import Derived.Test.YtdiddnapamjojaaUF
namespace Go.Proofs.VL
open Go Go.RowKit Go.WideShapes Go.ChangeShapes Go.ChangeAt
theorem arg_pat (xs : List V) : argV Try.prog 39 xs = .agg xs := if_pos (by kernel_rfl)
end Go.Proofs.VL

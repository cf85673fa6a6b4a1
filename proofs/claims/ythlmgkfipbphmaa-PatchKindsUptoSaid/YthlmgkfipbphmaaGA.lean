/- Contracts of functions of the program, for what calls them, and the law that its name tells. -/
import Derived.Shelf.Spec.SlicesInsert
import Derived.Shelf.Spec.SlicesInsertGrow
import Derived.KernelRfl
import Derived.Test.YthlmgkfipbphmaaProg
namespace Go.Proofs.VL
open Go Go.RowKit Go.Proofs
set_option maxRecDepth 100000
def rnS : Go.Shelf.Ren := ⟨fun k => ([0, 1, 2, 0, 0, 0, 0, 0, 0, 0, 0, 0, 0, 0, 0, 67, 0, 0, 0, 0, 71, 79, 0, 0, 0, 0, 0, 100, 101, 0, 0, 115, 0, 0, 0, 122, 0, 130, 0, 132, 134, 135, 136, 137, 138, 139, 140, 141, 142, 143, 144, 145, 146, 147, 148, 149] : List Nat).getD k 0, fun k => ([0, 1, 2, 3, 4, 5, 6, 7, 8, 9, 10, 11, 12, 13, 14, 15, 16, 17, 18, 19, 20, 21, 35, 112, 0, 0, 0, 0, 120, 0, 0, 0, 0, 156, 0, 0, 140, 141, 0, 0, 135, 154, 49, 0, 0, 114, 126, 178, 179, 180, 181, 182, 73, 159, 183, 184, 185, 186, 187, 188, 189, 190, 191] : List Nat).getD k 0, fun k => k⟩
theorem layS : Lays2.n21 Try.prog rnS := by
  constructor
  all_goals first | kernel_rfl | (intro w; kernel_rfl)
end Go.Proofs.VL

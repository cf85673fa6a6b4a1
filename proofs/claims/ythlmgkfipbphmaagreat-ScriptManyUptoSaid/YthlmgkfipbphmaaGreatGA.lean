/- Contracts of functions of the program, for what calls them, and the law that its name tells. -/
import Derived.Shelf.Spec.SlicesInsert
import Derived.Shelf.Spec.SlicesInsertGrow
import Derived.KernelRfl
import Derived.Test.YthlmgkfipbphmaaGreatProg
namespace Go.Proofs.VL
open Go Go.RowKit Go.Proofs
set_option maxRecDepth 100000
def rnS : Go.Shelf.Ren := ⟨fun k => ([0, 1, 2, 0, 0, 0, 0, 0, 0, 0, 0, 0, 0, 0, 0, 98, 0, 0, 0, 0, 127, 103, 0, 183, 0, 0, 0, 143, 144, 0, 0, 216, 0, 0, 0, 188, 0, 252, 0, 119, 286, 287, 288, 289, 290, 291, 292, 293, 294, 295, 296, 297, 298, 299, 300, 301] : List Nat).getD k 0, fun k => ([0, 1, 2, 3, 4, 5, 6, 7, 8, 9, 10, 11, 12, 13, 14, 15, 16, 17, 18, 19, 20, 21, 44, 164, 237, 0, 0, 0, 169, 236, 0, 0, 0, 268, 0, 0, 43, 206, 0, 0, 228, 75, 102, 241, 214, 190, 322, 323, 324, 325, 326, 327, 178, 271, 328, 329, 330, 331, 332, 333, 334, 335, 336] : List Nat).getD k 0, fun k => k⟩
theorem layS : Lays2.n21 Tryz.prog rnS := by
  constructor
  all_goals first | kernel_rfl | (intro w; kernel_rfl)
end Go.Proofs.VL

/- Contracts of functions of the program, for what calls them, and the law that its name tells. -/
import Derived.Test.YthlmgkfipbphmaaGreatV3
import Derived.KernelRfl
import Derived.Test.YthlmgkfipbphmaaGreatProg
namespace Go.Proofs.VL
open Go Go.RowKit
set_option maxRecDepth 100000
def vc231 : VC := (.seq (.reg [⟨(some 1), (.box (.t 0)), none⟩, ⟨(some 2), (.mv (.c (.int .i64 (0)))), none⟩]) (.seq (.block 0 (.seq (.reg [⟨(some 4), (.fadr 0 (.t 1)), none⟩, ⟨(some 5), (.load false 1 (.t 4)), none⟩, ⟨(some 6), (.bin .lss (.t 5) (.c (.int .i64 (1)))), none⟩, ⟨(some 7), (.mv (.t 6)), none⟩, ⟨(some 8), (.fadr 0 (.t 1)), (some (7, false))⟩, ⟨(some 9), (.load false 1 (.t 8)), (some (7, false))⟩, ⟨(some 10), (.bin .gtr (.t 9) (.c (.int .i64 (9)))), (some (7, false))⟩, ⟨(some 11), (.pick (.t 7) (.c (.bool true)) (.t 10)), none⟩, ⟨(some 3), (.mv (.t 11)), none⟩]) (.cond (.t 3) (.seq (.reg [⟨(some 2), (.mv (.c (.int .i64 (12)))), none⟩]) .ret) (.seq (.reg [⟨(some 13), (.fadr 1 (.t 1)), none⟩, ⟨(some 14), (.load false 1 (.t 13)), none⟩, ⟨(some 15), (.fadr 2 (.t 1)), none⟩, ⟨(some 16), (.load false 1 (.t 15)), none⟩, ⟨(some 17), (.fadr 3 (.t 1)), none⟩, ⟨(some 18), (.load false 1 (.t 17)), none⟩, ⟨(some 19), (.bsl false 3 1 3 [(.int .i64 (0))] [(0, (.t 14)), (1, (.t 16)), (2, (.t 18))]), none⟩, ⟨(some 20), (.call (.c (.fn 259 [] [])) [(.t 19), (.c (.fn 260 [] []))]), none⟩, ⟨(some 12), (.mv (.t 20)), none⟩]) (.cond (.t 12) (.seq (.reg [⟨(some 2), (.mv (.c (.int .i64 (4)))), none⟩]) .ret) (.seq (.reg [⟨(some 22), (.fadr 4 (.t 1)), none⟩, ⟨(some 23), (.load false 1 (.t 22)), none⟩, ⟨(some 24), (.ln true (.t 23)), none⟩, ⟨(some 25), (.bin .gtr (.t 24) (.c (.int .i64 (4096)))), none⟩, ⟨(some 21), (.mv (.t 25)), none⟩]) (.cond (.t 21) (.seq (.reg [⟨(some 2), (.mv (.c (.int .i64 (5)))), none⟩]) .ret) .skip))))))) (.seq (.reg [⟨(some 2), (.mv (.c (.int .i64 (0)))), none⟩]) .ret)))
def rs231 : List RV := [(.t 2)]
theorem ok231 : FnOk Tryz.prog 231 Tryz.f231 vc231 rs231 := ⟨by kernel_rfl, by kernel_rfl, by kernel_rfl, by kernel_rfl⟩
def vc260 : VC := (.seq (.reg [⟨(some 2), (.mv (.c (.bool false))), none⟩]) (.seq (.reg [⟨(some 3), (.mv (.t 0)), none⟩, ⟨(some 4), (.bin .lss (.t 3) (.c (.int .i64 (0)))), none⟩, ⟨(some 5), (.mv (.t 4)), none⟩, ⟨(some 6), (.mv (.t 0)), (some (5, false))⟩, ⟨(some 7), (.bin .gtr (.t 6) (.c (.int .i64 (255)))), (some (5, false))⟩, ⟨(some 8), (.pick (.t 5) (.c (.bool true)) (.t 7)), none⟩, ⟨(some 2), (.mv (.t 8)), none⟩]) .ret))
def rs260 : List RV := [(.t 2)]
theorem ok260 : FnOk Tryz.prog 260 Tryz.f260 vc260 rs260 := ⟨by kernel_rfl, by kernel_rfl, by kernel_rfl, by kernel_rfl⟩
end Go.Proofs.VL

/- Contracts of functions of the program, for what calls them, and the law that its name tells. -/
import Derived.Test.YthlmgkfipbphmaaGreatV3
import Derived.KernelRfl
import Derived.Test.YthlmgkfipbphmaaGreatProg
namespace Go.Proofs.VL
open Go Go.RowKit
set_option maxRecDepth 100000
def vc242 : VC := (.seq (.reg [⟨(some 1), (.box (.t 0)), none⟩, ⟨(some 2), (.alloc [(.str []), .nils]), none⟩, ⟨(some 3), (.mv (.c (.bool false))), none⟩]) (.seq (.seq (.reg [⟨(some 4), (.load true 2 (.t 1)), none⟩, ⟨(some 5), (.call (.c (.fn 269 [] [])) [(.t 4)]), none⟩, ⟨(some 6), (.un .not (.t 5)), none⟩]) (.cond (.t 6) (.seq (.reg [⟨(some 7), (.build [(.str []), .nils] []), none⟩, ⟨none, (.store 2 (.t 2) (.t 7)), none⟩, ⟨(some 3), (.mv (.c (.bool false))), none⟩]) .ret) .skip)) (.seq (.reg [⟨(some 8), (.load true 2 (.t 1)), none⟩, ⟨(some 9), (.call (.c (.fn 270 [] [])) [(.t 8)]), none⟩, ⟨none, (.store 2 (.t 2) (.t 9)), none⟩, ⟨(some 3), (.mv (.c (.bool true))), none⟩]) .ret)))
def rs242 : List RV := [(.cell 2 true 2), (.t 3)]
theorem ok242 : FnOk Tryz.prog 242 Tryz.f242 vc242 rs242 := ⟨by kernel_rfl, by kernel_rfl, by kernel_rfl, by kernel_rfl⟩
def vc269 : VC := (.seq (.reg [⟨(some 1), (.box (.t 0)), none⟩, ⟨(some 2), (.mv (.c (.bool false))), none⟩]) (.seq (.reg [⟨(some 7), (.load true 2 (.t 1)), none⟩, ⟨(some 8), (.call (.c (.fn 277 [] [])) [(.t 7)]), none⟩, ⟨(some 6), (.mv (.t 8)), none⟩, ⟨(some 9), (.ext (.t 6) 0), none⟩, ⟨(some 10), (.ext (.t 6) 1), none⟩, ⟨(some 3), (.alloc [(.str []), .nils]), none⟩, ⟨none, (.store 2 (.t 3) (.t 9)), none⟩, ⟨(some 4), (.mv (.t 10)), none⟩]) (.seq (.seq (.reg [⟨(some 11), (.mv (.t 4)), none⟩, ⟨(some 12), (.un .not (.t 11)), none⟩]) (.cond (.t 12) (.seq (.reg [⟨(some 2), (.mv (.c (.bool true))), none⟩]) .ret) .skip)) (.seq (.dreg [⟨(some 13), (.load true 2 (.t 1)), none⟩, ⟨(some 14), (.call (.c (.fn 270 [] [])) [(.t 13)]), none⟩, ⟨(some 15), (.fadr 0 (.t 3)), none⟩, ⟨(some 16), (.load false 1 (.t 15)), none⟩, ⟨(some 17), (.ln true (.t 16)), none⟩, ⟨(some 18), (.call (.c (.fn 256 [] [])) [(.t 14), (.t 17)]), none⟩, ⟨(some 5), (.mv (.t 18)), none⟩] [false, false, false, false, false, true, true]) (.seq (.reg [⟨(some 19), (.fadr 0 (.t 3)), none⟩, ⟨(some 20), (.load false 1 (.t 19)), none⟩, ⟨(some 21), (.call (.c (.fn 278 [] [])) [(.t 20)]), none⟩, ⟨(some 22), (.mv (.t 21)), none⟩, ⟨(some 23), (.load true 2 (.t 3)), (some (22, true))⟩, ⟨(some 24), (.call (.c (.fn 166 [] [])) [(.t 23)]), (some (22, true))⟩, ⟨(some 25), (.pick (.t 22) (.t 24) (.c (.bool false))), none⟩, ⟨(some 26), (.mv (.t 25)), none⟩, ⟨(some 27), (.mv (.t 5)), (some (26, true))⟩, ⟨(some 28), (.bin .eql (.t 27) (.c (.int .i64 (0)))), (some (26, true))⟩, ⟨(some 29), (.pick (.t 26) (.t 28) (.c (.bool false))), none⟩, ⟨(some 2), (.mv (.t 29)), none⟩]) .ret)))))
def rs269 : List RV := [(.t 2)]
theorem ok269 : FnOk Tryz.prog 269 Tryz.f269 vc269 rs269 := ⟨by kernel_rfl, by kernel_rfl, by kernel_rfl, by kernel_rfl⟩
def vc278 : VC := (.seq (.reg [⟨(some 2), (.mv (.c (.bool false))), none⟩]) (.seq (.reg [⟨(some 3), (.call (.c (.fn 283 [] [])) []), none⟩, ⟨(some 4), (.mv (.t 0)), none⟩, ⟨(some 5), (.call (.c (.fn 193 [] [])) [(.t 3), (.t 4)]), none⟩, ⟨(some 2), (.mv (.t 5)), none⟩]) .ret))
def rs278 : List RV := [(.t 2)]
theorem ok278 : FnOk Tryz.prog 278 Tryz.f278 vc278 rs278 := ⟨by kernel_rfl, by kernel_rfl, by kernel_rfl, by kernel_rfl⟩
end Go.Proofs.VL

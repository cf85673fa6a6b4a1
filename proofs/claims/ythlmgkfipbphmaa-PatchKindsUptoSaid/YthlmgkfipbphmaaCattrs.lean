/- Contracts of functions of the program, for what calls them, and the law that its name tells. -/
import Derived.Test.YthlmgkfipbphmaaV3
import Derived.KernelRfl
import Derived.Test.YthlmgkfipbphmaaProg
namespace Go.Proofs.VL
open Go Go.RowKit
set_option maxRecDepth 100000
def vc81 : VC := (.seq (.reg [⟨(some 3), (.box (.t 1)), none⟩, ⟨(some 4), (.mv (.c .nils)), none⟩]) (.seq (.reg [⟨(some 7), (.mv (.t 0)), none⟩, ⟨(some 8), (.call (.c (.fn 102 [] [])) [(.t 7)]), none⟩, ⟨(some 5), (.mv (.t 8)), none⟩]) (.seq (.seq (.reg [⟨(some 9), (.mv (.t 5)), none⟩, ⟨(some 10), (.fadr 0 (.t 3)), none⟩, ⟨(some 11), (.fadr 0 (.t 10)), none⟩, ⟨(some 12), (.load false 1 (.t 11)), none⟩, ⟨(some 13), (.call (.c (.fn 103 [] [])) [(.t 9), (.t 12)]), none⟩, ⟨(some 6), (.mv (.t 13)), none⟩]) (.seq (.reg [⟨(some 14), (.mv (.t 6)), none⟩, ⟨(some 15), (.bin .geq (.t 14) (.c (.int .i64 (0)))), none⟩]) (.cond (.t 15) (.seq (.reg [⟨(some 16), (.mv (.t 5)), none⟩, ⟨(some 17), (.mv (.t 6)), none⟩, ⟨(some 18), (.load true 4 (.t 3)), none⟩, ⟨(some 19), (.call (.c (.fn 104 [] [])) [(.t 18)]), none⟩, ⟨(some 20), (.iadr none 4 (.t 16) (.t 17)), none⟩, ⟨none, (.store 4 (.t 20) (.t 19)), none⟩]) (.seq (.reg [⟨(some 21), (.mv (.t 5)), none⟩, ⟨(some 4), (.mv (.t 21)), none⟩]) .ret)) .skip))) (.seq (.reg [⟨(some 22), (.mv (.t 5)), none⟩, ⟨(some 23), (.load true 4 (.t 3)), none⟩, ⟨(some 24), (.call (.c (.fn 104 [] [])) [(.t 23)]), none⟩, ⟨(some 25), (.bsl false 41 4 1 [(.str []), .nils, (.str []), .nils] [(0, (.t 24))]), none⟩, ⟨(some 26), (.app 41 4 80 (.t 22) (.t 25)), none⟩, ⟨(some 4), (.mv (.t 26)), none⟩]) .ret))))
def rs81 : List RV := [(.t 4)]
theorem ok81 : FnOk Try.prog 81 Try.f81 vc81 rs81 := ⟨by kernel_rfl, by kernel_rfl, by kernel_rfl, by kernel_rfl⟩
def vc82 : VC := (.seq (.reg [⟨(some 3), (.box (.t 1)), none⟩, ⟨(some 4), (.mv (.c .nils)), none⟩]) (.seq (.reg [⟨(some 5), (.mv (.t 0)), none⟩, ⟨(some 6), (.call (.c (.fn 102 [] [])) [(.t 5)]), none⟩, ⟨(some 7), (.fn 106 [] [(.t 3)]), none⟩, ⟨(some 8), (.call (.c (.fn 105 [] [])) [(.t 6), (.t 7)]), none⟩, ⟨(some 4), (.mv (.t 8)), none⟩]) .ret))
def rs82 : List RV := [(.t 4)]
theorem ok82 : FnOk Try.prog 82 Try.f82 vc82 rs82 := ⟨by kernel_rfl, by kernel_rfl, by kernel_rfl, by kernel_rfl⟩
def vc102 : VC := (.seq (.reg [⟨(some 2), (.mv (.c .nils)), none⟩]) (.seq (.reg [⟨(some 3), (.mv (.c .nils)), none⟩]) (.seq (.seq (.reg [⟨(some 6), (.mv (.t 0)), none⟩, ⟨(some 7), (.ln false (.t 6)), none⟩, ⟨(some 8), (.mv (.c (.int .i64 (0)))), none⟩]) (.block 0 (.loop (.seq (.reg [⟨(some 9), (.bin .lss (.t 8) (.t 7)), none⟩]) (.seq (.cond (.t 9) .skip (.exit 0)) (.seq (.block 1 (.seq (.reg [⟨(some 10), (.iadr none 4 (.t 6) (.t 8)), none⟩, ⟨(some 11), (.load true 4 (.t 10)), none⟩, ⟨(some 5), (.alloc [(.str []), .nils, (.str []), .nils]), none⟩, ⟨none, (.store 4 (.t 5) (.t 11)), none⟩]) (.reg [⟨(some 12), (.mv (.t 3)), none⟩, ⟨(some 13), (.load true 4 (.t 5)), none⟩, ⟨(some 14), (.call (.c (.fn 104 [] [])) [(.t 13)]), none⟩, ⟨(some 15), (.bsl false 41 4 1 [(.str []), .nils, (.str []), .nils] [(0, (.t 14))]), none⟩, ⟨(some 16), (.app 41 4 80 (.t 12) (.t 15)), none⟩, ⟨(some 3), (.mv (.t 16)), none⟩]))) (.reg [⟨(some 17), (.bin .add (.t 8) (.c (.int .i64 (1)))), none⟩, ⟨(some 8), (.mv (.t 17)), none⟩]))))))) (.seq (.reg [⟨(some 18), (.mv (.t 3)), none⟩, ⟨(some 2), (.mv (.t 18)), none⟩]) .ret))))
def rs102 : List RV := [(.t 2)]
theorem ok102 : FnOk Try.prog 102 Try.f102 vc102 rs102 := ⟨by kernel_rfl, by kernel_rfl, by kernel_rfl, by kernel_rfl⟩
def vc103 : VC := (.seq (.reg [⟨(some 3), (.box (.t 1)), none⟩, ⟨(some 4), (.mv (.c (.int .i64 (0)))), none⟩]) (.seq (.reg [⟨(some 5), (.mv (.t 0)), none⟩, ⟨(some 6), (.fn 123 [] [(.t 3)]), none⟩, ⟨(some 7), (.call (.c (.fn 96 [] [])) [(.t 5), (.t 6)]), none⟩, ⟨(some 4), (.mv (.t 7)), none⟩]) .ret))
def rs103 : List RV := [(.t 4)]
theorem ok103 : FnOk Try.prog 103 Try.f103 vc103 rs103 := ⟨by kernel_rfl, by kernel_rfl, by kernel_rfl, by kernel_rfl⟩
def vc104 : VC := (.seq (.reg [⟨(some 1), (.box (.t 0)), none⟩, ⟨(some 2), (.alloc [(.str []), .nils, (.str []), .nils]), none⟩]) (.seq (.dreg [⟨(some 3), (.fadr 0 (.t 1)), none⟩, ⟨(some 4), (.load true 2 (.t 3)), none⟩, ⟨(some 5), (.call (.c (.fn 40 [] [])) [(.t 4)]), none⟩, ⟨(some 6), (.fadr 2 (.t 1)), none⟩, ⟨(some 7), (.load true 2 (.t 6)), none⟩, ⟨(some 8), (.call (.c (.fn 40 [] [])) [(.t 7)]), none⟩, ⟨(some 9), (.build [(.str []), .nils, (.str []), .nils] [(0, (2, (.t 5))), (2, (2, (.t 8)))]), none⟩, ⟨none, (.store 4 (.t 2) (.t 9)), none⟩] [false, false, false, false, false, true, true, true]) .ret))
def rs104 : List RV := [(.cell 2 true 4)]
theorem ok104 : FnOk Try.prog 104 Try.f104 vc104 rs104 := ⟨by kernel_rfl, by kernel_rfl, by kernel_rfl, by kernel_rfl⟩
def vc106 : VC := (.seq (.reg [⟨(some 2), (.box (.t 0)), none⟩, ⟨(some 3), (.mv (.c (.bool false))), none⟩]) (.seq (.reg [⟨(some 4), (.fadr 0 (.t 2)), none⟩, ⟨(some 5), (.fadr 0 (.t 4)), none⟩, ⟨(some 6), (.load false 1 (.t 5)), none⟩, ⟨(some 7), (.load false 1 (.t 1)), none⟩, ⟨(some 8), (.bin .eql (.t 6) (.t 7)), none⟩, ⟨(some 3), (.mv (.t 8)), none⟩]) .ret))
def rs106 : List RV := [(.t 3)]
theorem ok106 : FnOk Try.prog 106 Try.f106 vc106 rs106 := ⟨by kernel_rfl, by kernel_rfl, by kernel_rfl, by kernel_rfl⟩
def vc123 : VC := (.seq (.reg [⟨(some 2), (.box (.t 0)), none⟩, ⟨(some 3), (.mv (.c (.bool false))), none⟩]) (.seq (.reg [⟨(some 4), (.fadr 0 (.t 2)), none⟩, ⟨(some 5), (.fadr 0 (.t 4)), none⟩, ⟨(some 6), (.load false 1 (.t 5)), none⟩, ⟨(some 7), (.load false 1 (.t 1)), none⟩, ⟨(some 8), (.bin .eql (.t 6) (.t 7)), none⟩, ⟨(some 3), (.mv (.t 8)), none⟩]) .ret))
def rs123 : List RV := [(.t 3)]
theorem ok123 : FnOk Try.prog 123 Try.f123 vc123 rs123 := ⟨by kernel_rfl, by kernel_rfl, by kernel_rfl, by kernel_rfl⟩
end Go.Proofs.VL

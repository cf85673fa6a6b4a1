/- Contracts of functions of the program, for what calls them, and the law that its name tells. -/
import Derived.Test.YtdhfnmbbdcpnbaaV3
import Derived.KernelRfl
import Derived.Test.YtdhfnmbbdcpnbaaProg
namespace Go.Proofs.VL
open Go Go.RowKit
set_option maxRecDepth 100000
def vc96 : VC := (.seq (.reg [⟨(some 2), (.mv (.c .nils)), none⟩]) (.seq (.reg [⟨(some 3), (.mv (.c .nils)), none⟩]) (.seq (.seq (.reg [⟨(some 6), (.mv (.t 0)), none⟩, ⟨(some 7), (.ln false (.t 6)), none⟩, ⟨(some 8), (.mv (.c (.int .i64 (0)))), none⟩]) (.block 0 (.loop (.seq (.reg [⟨(some 9), (.bin .lss (.t 8) (.t 7)), none⟩]) (.seq (.cond (.t 9) .skip (.exit 0)) (.seq (.block 1 (.seq (.reg [⟨(some 10), (.iadr none 4 (.t 6) (.t 8)), none⟩, ⟨(some 11), (.load true 4 (.t 10)), none⟩, ⟨(some 5), (.alloc [(.str []), .nils, (.str []), .nils]), none⟩, ⟨none, (.store 4 (.t 5) (.t 11)), none⟩]) (.seq (.reg [⟨(some 12), (.mv (.t 3)), none⟩, ⟨(some 13), (.fadr 0 (.t 5)), none⟩, ⟨(some 14), (.fadr 0 (.t 13)), none⟩, ⟨(some 15), (.load false 1 (.t 14)), none⟩, ⟨(some 16), (.call (.c (.fn 130 [] [])) [(.t 12), (.t 15)]), none⟩, ⟨(some 17), (.bin .lss (.t 16) (.c (.int .i64 (0)))), none⟩]) (.cond (.t 17) (.reg [⟨(some 18), (.mv (.t 3)), none⟩, ⟨(some 19), (.load true 4 (.t 5)), none⟩, ⟨(some 20), (.call (.c (.fn 131 [] [])) [(.t 19)]), none⟩, ⟨(some 21), (.bsl false 114 4 1 [(.str []), .nils, (.str []), .nils] [(0, (.t 20))]), none⟩, ⟨(some 22), (.app 114 4 80 (.t 18) (.t 21)), none⟩, ⟨(some 3), (.mv (.t 22)), none⟩]) .skip)))) (.reg [⟨(some 23), (.bin .add (.t 8) (.c (.int .i64 (1)))), none⟩, ⟨(some 8), (.mv (.t 23)), none⟩]))))))) (.seq (.reg [⟨(some 24), (.mv (.t 3)), none⟩, ⟨(some 2), (.mv (.t 24)), none⟩]) .ret))))
def rs96 : List RV := [(.t 2)]
theorem ok96 : FnOk Try.prog 96 Try.f96 vc96 rs96 := ⟨by kernel_rfl, by kernel_rfl, by kernel_rfl, by kernel_rfl⟩
def vc130 : VC := (.seq (.reg [⟨(some 3), (.box (.t 1)), none⟩, ⟨(some 4), (.mv (.c (.int .i64 (0)))), none⟩]) (.seq (.reg [⟨(some 5), (.mv (.t 0)), none⟩, ⟨(some 6), (.fn 169 [] [(.t 3)]), none⟩, ⟨(some 7), (.call (.c (.fn 168 [] [])) [(.t 5), (.t 6)]), none⟩, ⟨(some 4), (.mv (.t 7)), none⟩]) .ret))
def rs130 : List RV := [(.t 4)]
theorem ok130 : FnOk Try.prog 130 Try.f130 vc130 rs130 := ⟨by kernel_rfl, by kernel_rfl, by kernel_rfl, by kernel_rfl⟩
def vc131 : VC := (.seq (.reg [⟨(some 1), (.box (.t 0)), none⟩, ⟨(some 2), (.alloc [(.str []), .nils, (.str []), .nils]), none⟩]) (.seq (.dreg [⟨(some 3), (.fadr 0 (.t 1)), none⟩, ⟨(some 4), (.load true 2 (.t 3)), none⟩, ⟨(some 5), (.call (.c (.fn 61 [] [])) [(.t 4)]), none⟩, ⟨(some 6), (.fadr 2 (.t 1)), none⟩, ⟨(some 7), (.load true 2 (.t 6)), none⟩, ⟨(some 8), (.call (.c (.fn 61 [] [])) [(.t 7)]), none⟩, ⟨(some 9), (.build [(.str []), .nils, (.str []), .nils] [(0, (2, (.t 5))), (2, (2, (.t 8)))]), none⟩, ⟨none, (.store 4 (.t 2) (.t 9)), none⟩] [false, false, false, false, false, true, true, true]) .ret))
def rs131 : List RV := [(.cell 2 true 4)]
theorem ok131 : FnOk Try.prog 131 Try.f131 vc131 rs131 := ⟨by kernel_rfl, by kernel_rfl, by kernel_rfl, by kernel_rfl⟩
def vc169 : VC := (.seq (.reg [⟨(some 2), (.box (.t 0)), none⟩, ⟨(some 3), (.mv (.c (.bool false))), none⟩]) (.seq (.reg [⟨(some 4), (.fadr 0 (.t 2)), none⟩, ⟨(some 5), (.fadr 0 (.t 4)), none⟩, ⟨(some 6), (.load false 1 (.t 5)), none⟩, ⟨(some 7), (.load false 1 (.t 1)), none⟩, ⟨(some 8), (.bin .eql (.t 6) (.t 7)), none⟩, ⟨(some 3), (.mv (.t 8)), none⟩]) .ret))
def rs169 : List RV := [(.t 3)]
theorem ok169 : FnOk Try.prog 169 Try.f169 vc169 rs169 := ⟨by kernel_rfl, by kernel_rfl, by kernel_rfl, by kernel_rfl⟩
end Go.Proofs.VL

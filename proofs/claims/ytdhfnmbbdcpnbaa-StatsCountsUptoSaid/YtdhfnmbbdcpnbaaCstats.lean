/- Contracts of functions of the program, for what calls them, and the law that its name tells. -/
import Derived.Test.YtdhfnmbbdcpnbaaV3
import Derived.KernelRfl
import Derived.Test.YtdhfnmbbdcpnbaaProg
namespace Go.Proofs.VL
open Go Go.RowKit
set_option maxRecDepth 100000
def vc13 : VC := (.seq (.reg [⟨(some 0), (.mv (.c .nilp)), none⟩]) (.seq (.reg [⟨(some 1), (.mkmap []), none⟩, ⟨(some 2), (.build [(.int .i64 (0)), (.int .i64 (0)), (.int .i64 (0)), (.int .i64 (0)), (.int .i64 (0)), (.int .i32 (0)), (.int .u32 (0)), .nilm, (.int .u32 (0)), (.int .i32 (0)), (.int .u32 (0)), (.int .i64 (0))] [(7, (1, (.t 1)))]), none⟩, ⟨(some 3), (.box (.t 2)), none⟩, ⟨(some 0), (.mv (.t 3)), none⟩]) .ret))
def rs13 : List RV := [(.t 0)]
theorem ok13 : FnOk Try.prog 13 Try.f13 vc13 rs13 := ⟨by kernel_rfl, by kernel_rfl, by kernel_rfl, by kernel_rfl⟩
def vc15 : VC := (.seq (.reg [⟨(some 1), (.box (.t 0)), none⟩, ⟨(some 2), (.mv (.c (.int .i64 (0)))), none⟩]) (.seq (.seq (.reg [⟨(some 3), (.load false 1 (.t 1)), none⟩, ⟨(some 4), (.call (.c (.fn 51 [] [])) [(.t 3)]), none⟩, ⟨(some 5), (.un .not (.t 4)), none⟩]) (.cond (.t 5) (.seq (.reg [⟨(some 2), (.mv (.c (.int .i64 (0)))), none⟩]) .ret) .skip)) (.seq (.reg [⟨(some 6), (.load false 1 (.t 1)), none⟩, ⟨(some 7), (.nilck (.t 6)), none⟩, ⟨(some 8), (.fadr 8 (.t 7)), none⟩, ⟨(some 9), (.fn 53 [] [(.t 1)]), none⟩, ⟨(some 10), (.call (.c (.fn 52 [] [])) [(.t 8), (.t 9)]), none⟩]) (.seq (.reg [⟨(some 11), (.load false 1 (.t 1)), none⟩, ⟨(some 12), (.nilck (.t 11)), none⟩, ⟨(some 13), (.fadr 11 (.t 12)), none⟩, ⟨(some 14), (.load false 1 (.t 13)), none⟩, ⟨(some 2), (.mv (.t 14)), none⟩]) .ret))))
def rs15 : List RV := [(.t 2)]
theorem ok15 : FnOk Try.prog 15 Try.f15 vc15 rs15 := ⟨by kernel_rfl, by kernel_rfl, by kernel_rfl, by kernel_rfl⟩
def vc17 : VC := (.seq (.reg [⟨(some 4), (.mv (.c (.int .i64 (0)))), none⟩]) (.seq (.seq (.reg [⟨(some 5), (.mv (.t 0)), none⟩, ⟨(some 6), (.call (.c (.fn 51 [] [])) [(.t 5)]), none⟩, ⟨(some 7), (.un .not (.t 6)), none⟩, ⟨(some 8), (.mv (.t 7)), none⟩, ⟨(some 9), (.mv (.t 1)), (some (8, false))⟩, ⟨(some 10), (.bin .lss (.t 9) (.c (.int .i64 (1)))), (some (8, false))⟩, ⟨(some 11), (.pick (.t 8) (.c (.bool true)) (.t 10)), none⟩, ⟨(some 12), (.mv (.t 11)), none⟩, ⟨(some 13), (.mv (.t 1)), (some (12, false))⟩, ⟨(some 14), (.bin .gtr (.t 13) (.c (.int .i64 (5)))), (some (12, false))⟩, ⟨(some 15), (.pick (.t 12) (.c (.bool true)) (.t 14)), none⟩]) (.cond (.t 15) (.seq (.reg [⟨(some 4), (.mv (.c (.int .i64 (0)))), none⟩]) .ret) .skip)) (.seq (.reg [⟨(some 16), (.mv (.t 0)), none⟩, ⟨(some 17), (.mv (.t 1)), none⟩, ⟨(some 18), (.bin .sub (.t 17) (.c (.int .i64 (1)))), none⟩, ⟨(some 19), (.nilck (.t 16)), none⟩, ⟨(some 20), (.fadr 0 (.t 19)), none⟩, ⟨(some 21), (.iadr (some 5) 1 (.t 20) (.t 18)), none⟩, ⟨(some 22), (.call (.c (.fn 57 [] [])) [(.t 21)]), none⟩, ⟨(some 4), (.mv (.t 22)), none⟩]) .ret)))
def rs17 : List RV := [(.t 4)]
theorem ok17 : FnOk Try.prog 17 Try.f17 vc17 rs17 := ⟨by kernel_rfl, by kernel_rfl, by kernel_rfl, by kernel_rfl⟩
def vc51 : VC := (.seq (.reg [⟨(some 2), (.mv (.c (.bool false))), none⟩]) (.seq (.reg [⟨(some 3), (.mv (.t 0)), none⟩, ⟨(some 4), (.eqn .p true (.t 3) (.c .nilp)), none⟩, ⟨(some 5), (.mv (.t 4)), none⟩, ⟨(some 6), (.mv (.t 0)), (some (5, true))⟩, ⟨(some 7), (.nilck (.t 6)), (some (5, true))⟩, ⟨(some 8), (.fadr 7 (.t 7)), (some (5, true))⟩, ⟨(some 9), (.load false 1 (.t 8)), (some (5, true))⟩, ⟨(some 10), (.eqn .m true (.t 9) (.c .nilm)), (some (5, true))⟩, ⟨(some 11), (.pick (.t 5) (.t 10) (.c (.bool false))), none⟩, ⟨(some 2), (.mv (.t 11)), none⟩]) .ret))
def rs51 : List RV := [(.t 2)]
theorem ok51 : FnOk Try.prog 51 Try.f51 vc51 rs51 := ⟨by kernel_rfl, by kernel_rfl, by kernel_rfl, by kernel_rfl⟩
def vc53 : VC := (.seq (.reg [⟨(some 4), (.call (.c (.fn 14 [] [])) []), none⟩, ⟨(some 3), (.mv (.t 4)), none⟩, ⟨(some 5), (.ext (.t 3) 0), none⟩, ⟨(some 6), (.ext (.t 3) 1), none⟩, ⟨(some 1), (.mv (.t 5)), none⟩, ⟨(some 2), (.mv (.t 6)), none⟩]) (.reg [⟨(some 7), (.load false 1 (.t 0)), none⟩, ⟨(some 8), (.mv (.t 1)), none⟩, ⟨(some 9), (.ln false (.t 8)), none⟩, ⟨(some 10), (.mv (.t 2)), none⟩, ⟨(some 11), (.ln false (.t 10)), none⟩, ⟨(some 12), (.bin .add (.t 9) (.t 11)), none⟩, ⟨(some 13), (.nilck (.t 7)), none⟩, ⟨(some 14), (.fadr 11 (.t 13)), none⟩, ⟨none, (.store 1 (.t 14) (.t 12)), none⟩]))
def rs53 : List RV := []
theorem ok53 : FnOk Try.prog 53 Try.f53 vc53 rs53 := ⟨by kernel_rfl, by kernel_rfl, by kernel_rfl, by kernel_rfl⟩
def vc54 : VC := (.reg [⟨(some 6), (.mv (.t 0)), none⟩, ⟨(some 7), (.mv (.t 1)), none⟩, ⟨(some 8), (.nilck (.t 6)), none⟩, ⟨(some 9), (.fadr 0 (.t 8)), none⟩, ⟨(some 10), (.iadr (some 5) 1 (.t 9) (.t 7)), none⟩, ⟨(some 11), (.mv (.t 2)), none⟩, ⟨(some 12), (.mm true [(.t 11), (.c (.int .i64 (0)))]), none⟩, ⟨(some 13), (.call (.c (.fn 100 [] [])) [(.t 10), (.t 12)]), none⟩])
def rs54 : List RV := []
theorem ok54 : FnOk Try.prog 54 Try.f54 vc54 rs54 := ⟨by kernel_rfl, by kernel_rfl, by kernel_rfl, by kernel_rfl⟩
end Go.Proofs.VL

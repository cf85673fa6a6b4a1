/- Contracts of functions of the program, for what calls them, and the law that its name tells. -/
import Derived.Test.YtdhfnmbbdcpnbaaV3
import Derived.KernelRfl
import Derived.Test.YtdhfnmbbdcpnbaaProg
namespace Go.Proofs.VL
open Go Go.RowKit
set_option maxRecDepth 100000
def vc14 : VC := (.seq (.reg [⟨(some 0), (.mv (.c .nils)), none⟩, ⟨(some 1), (.mv (.c .nils)), none⟩]) (.seq (.reg [⟨(some 2), (.call (.c (.fn 47 [] [])) []), none⟩, ⟨(some 3), (.call (.c (.fn 46 [] [])) [(.t 2), (.c (.fn 48 [] []))]), none⟩, ⟨(some 4), (.call (.c (.fn 49 [] [])) []), none⟩, ⟨(some 5), (.call (.c (.fn 50 [] [])) []), none⟩, ⟨(some 6), (.app 9 1 16 (.t 4) (.t 5)), none⟩, ⟨(some 0), (.mv (.t 3)), none⟩, ⟨(some 1), (.mv (.t 6)), none⟩]) .ret))
def rs14 : List RV := [(.t 0), (.t 1)]
theorem ok14 : FnOk Try.prog 14 Try.f14 vc14 rs14 := ⟨by kernel_rfl, by kernel_rfl, by kernel_rfl, by kernel_rfl⟩
def vc48 : VC := (.seq (.reg [⟨(some 2), (.mv (.c (.bool false))), none⟩]) (.seq (.reg [⟨(some 3), (.mv (.t 0)), none⟩, ⟨(some 4), (.bin .eql (.t 3) (.c (.str [115, 99, 114, 105, 112, 116]))), none⟩, ⟨(some 5), (.mv (.t 4)), none⟩, ⟨(some 6), (.mv (.t 0)), (some (5, false))⟩, ⟨(some 7), (.bin .eql (.t 6) (.c (.str [115, 116, 121, 108, 101]))), (some (5, false))⟩, ⟨(some 8), (.pick (.t 5) (.c (.bool true)) (.t 7)), none⟩, ⟨(some 2), (.mv (.t 8)), none⟩]) .ret))
def rs48 : List RV := [(.t 2)]
theorem ok48 : FnOk Try.prog 48 Try.f48 vc48 rs48 := ⟨by kernel_rfl, by kernel_rfl, by kernel_rfl, by kernel_rfl⟩
def vc49 : VC := (.seq (.reg [⟨(some 0), (.mv (.c .nils)), none⟩]) (.seq (.reg [⟨(some 1), (.bsl true 9 1 5 [(.str [])] [(0, (.c (.str [99, 108, 97, 115, 115]))), (1, (.c (.str [105, 100]))), (2, (.c (.str [116, 105, 116, 108, 101]))), (3, (.c (.str [97, 108, 116]))), (4, (.c (.str [110, 97, 109, 101])))]), none⟩, ⟨(some 0), (.mv (.t 1)), none⟩]) .ret))
def rs49 : List RV := [(.t 0)]
theorem ok49 : FnOkF [1] Try.prog 49 Try.f49 vc49 rs49 := ⟨by kernel_rfl, by kernel_rfl, by kernel_rfl, by kernel_rfl⟩
def vc50 : VC := (.seq (.reg [⟨(some 0), (.mv (.c .nils)), none⟩]) (.seq (.reg [⟨(some 1), (.bsl false 9 1 2 [(.str [])] [(0, (.c (.str [104, 114, 101, 102]))), (1, (.c (.str [115, 114, 99])))]), none⟩, ⟨(some 0), (.mv (.t 1)), none⟩]) .ret))
def rs50 : List RV := [(.t 0)]
theorem ok50 : FnOk Try.prog 50 Try.f50 vc50 rs50 := ⟨by kernel_rfl, by kernel_rfl, by kernel_rfl, by kernel_rfl⟩
end Go.Proofs.VL

/- Contracts of functions of the program, for what calls them, and the law that its name tells. -/
import Derived.Test.YtdhfnmbbdcpnbaaV3
import Derived.KernelRfl
import Derived.Test.YtdhfnmbbdcpnbaaProg
namespace Go.Proofs.VL
open Go Go.RowKit
set_option maxRecDepth 100000
def vc108 : VC := (.seq (.reg [⟨(some 4), (.mv (.c (.int .i64 (0)))), none⟩]) (.seq (.reg [⟨(some 5), (.mv (.t 0)), none⟩, ⟨(some 6), (.mv (.t 1)), none⟩, ⟨(some 7), (.call (.c (.fn 154 [] [])) [(.t 5), (.t 6)]), none⟩, ⟨(some 4), (.mv (.t 7)), none⟩]) .ret))
def rs108 : List RV := [(.t 4)]
theorem ok108 : FnOk Try.prog 108 Try.f108 vc108 rs108 := ⟨by kernel_rfl, by kernel_rfl, by kernel_rfl, by kernel_rfl⟩
def vc116 : VC := (.seq (.reg [⟨(some 4), (.mv (.c (.bool false))), none⟩]) (.seq (.reg [⟨(some 5), (.mv (.t 0)), none⟩, ⟨(some 6), (.mv (.t 1)), none⟩, ⟨(some 7), (.call (.c (.fn 158 [] [])) [(.t 5), (.t 6)]), none⟩, ⟨(some 4), (.mv (.t 7)), none⟩]) .ret))
def rs116 : List RV := [(.t 4)]
theorem ok116 : FnOk Try.prog 116 Try.f116 vc116 rs116 := ⟨by kernel_rfl, by kernel_rfl, by kernel_rfl, by kernel_rfl⟩
def vc186 : VC := (.seq (.reg [⟨(some 4), (.mv (.c (.str []))), none⟩, ⟨(some 5), (.mv (.c (.bool false))), none⟩]) (.seq (.reg [⟨(some 6), (.mv (.t 0)), none⟩, ⟨(some 7), (.mv (.t 1)), none⟩, ⟨(some 8), (.call (.c (.fn 198 [] [])) [(.t 6), (.t 7)]), none⟩, ⟨(some 9), (.ext (.t 8) 0), none⟩, ⟨(some 10), (.ext (.t 8) 1), none⟩, ⟨(some 4), (.mv (.t 9)), none⟩, ⟨(some 5), (.mv (.t 10)), none⟩]) .ret))
def rs186 : List RV := [(.t 4), (.t 5)]
theorem ok186 : FnOk Try.prog 186 Try.f186 vc186 rs186 := ⟨by kernel_rfl, by kernel_rfl, by kernel_rfl, by kernel_rfl⟩
def vc191 : VC := (.seq (.reg [⟨(some 4), (.mv (.c (.int .i64 (0)))), none⟩]) (.seq (.reg [⟨(some 5), (.mv (.t 0)), none⟩, ⟨(some 6), (.mv (.t 1)), none⟩, ⟨(some 7), (.call (.c (.fn 203 [] [])) [(.t 5), (.t 6)]), none⟩, ⟨(some 4), (.mv (.t 7)), none⟩]) .ret))
def rs191 : List RV := [(.t 4)]
theorem ok191 : FnOk Try.prog 191 Try.f191 vc191 rs191 := ⟨by kernel_rfl, by kernel_rfl, by kernel_rfl, by kernel_rfl⟩
end Go.Proofs.VL

/- Contracts of functions of the program, for what calls them, and the law that its name tells. -/
import Derived.Test.YtdhfnmbbdcpnbaaV3
import Derived.KernelRfl
import Derived.Test.YtdhfnmbbdcpnbaaProg
namespace Go.Proofs.VL
open Go Go.RowKit
set_option maxRecDepth 100000
def vc159 : VC := (.seq (.reg [⟨(some 3), (.box (.t 0)), none⟩, ⟨(some 6), (.mv (.c (.int .i64 (0)))), none⟩]) (.seq (.reg [⟨(some 8), (.mv (.t 2)), none⟩, ⟨(some 9), (.mm true [(.t 8), (.c (.int .i64 (0)))]), none⟩, ⟨(some 10), (.fadr 0 (.t 3)), none⟩, ⟨(some 11), (.load false 1 (.t 10)), none⟩, ⟨(some 12), (.ln true (.t 11)), none⟩, ⟨(some 13), (.mm false [(.t 9), (.t 12)]), none⟩, ⟨(some 2), (.mv (.t 13)), none⟩]) (.seq (.reg [⟨(some 14), (.fadr 0 (.t 3)), none⟩, ⟨(some 15), (.load false 1 (.t 14)), none⟩, ⟨(some 16), (.mv (.t 2)), none⟩, ⟨(some 17), (.slcs (.t 15) (some (.t 16)) none), none⟩, ⟨(some 18), (.mv (.t 1)), none⟩, ⟨(some 19), (.call (.c (.fn 191 [] [])) [(.t 17), (.t 18)]), none⟩, ⟨(some 7), (.mv (.t 19)), none⟩]) (.seq (.seq (.reg [⟨(some 20), (.mv (.t 7)), none⟩, ⟨(some 21), (.bin .lss (.t 20) (.c (.int .i64 (0)))), none⟩]) (.cond (.t 21) (.seq (.reg [⟨(some 6), (.mv (.c (.int .i64 (-1)))), none⟩]) .ret) .skip)) (.seq (.reg [⟨(some 22), (.mv (.t 2)), none⟩, ⟨(some 23), (.mv (.t 7)), none⟩, ⟨(some 24), (.bin .add (.t 22) (.t 23)), none⟩, ⟨(some 6), (.mv (.t 24)), none⟩]) .ret)))))
def rs159 : List RV := [(.t 6)]
theorem ok159 : FnOk Try.prog 159 Try.f159 vc159 rs159 := ⟨by kernel_rfl, by kernel_rfl, by kernel_rfl, by kernel_rfl⟩
def vc202 : VC := (.seq (.reg [⟨(some 2), (.box (.t 0)), none⟩, ⟨(some 4), (.mv (.c (.bool false))), none⟩]) (.seq (.reg [⟨(some 5), (.fadr 0 (.t 2)), none⟩, ⟨(some 6), (.load false 1 (.t 5)), none⟩, ⟨(some 7), (.call (.c (.fn 208 [] [])) [(.t 6)]), none⟩, ⟨(some 8), (.mv (.t 1)), none⟩, ⟨(some 9), (.call (.c (.fn 208 [] [])) [(.t 8)]), none⟩, ⟨(some 10), (.call (.c (.fn 116 [] [])) [(.t 7), (.t 9)]), none⟩, ⟨(some 4), (.mv (.t 10)), none⟩]) .ret))
def rs202 : List RV := [(.t 4)]
theorem ok202 : FnOk Try.prog 202 Try.f202 vc202 rs202 := ⟨by kernel_rfl, by kernel_rfl, by kernel_rfl, by kernel_rfl⟩
def vc208 : VC := (.seq (.reg [⟨(some 2), (.mv (.c (.str []))), none⟩]) (.seq (.reg [⟨(some 3), (.mv (.t 0)), none⟩, ⟨(some 4), (.build [(.str []), .nils] [(0, (1, (.t 3)))]), none⟩, ⟨(some 5), (.call (.c (.fn 66 [] [])) [(.t 4)]), none⟩, ⟨(some 6), (.fld 0 1 false (.t 5)), none⟩, ⟨(some 2), (.mv (.t 6)), none⟩]) .ret))
def rs208 : List RV := [(.t 2)]
theorem ok208 : FnOk Try.prog 208 Try.f208 vc208 rs208 := ⟨by kernel_rfl, by kernel_rfl, by kernel_rfl, by kernel_rfl⟩
end Go.Proofs.VL

/- Contracts of functions of the program, for what calls them, and the law that its name tells. -/
import Derived.Test.YthlmgkfipbphmaaGreatV3
import Derived.KernelRfl
import Derived.Test.YthlmgkfipbphmaaGreatProg
namespace Go.Proofs.VL
open Go Go.RowKit
set_option maxRecDepth 100000
def vc165 : VC := (.seq (.reg [⟨(some 2), (.mv (.c (.bool false))), none⟩]) (.seq (.reg [⟨(some 3), (.call (.c (.fn 202 [] [])) []), none⟩, ⟨(some 4), (.mv (.t 0)), none⟩, ⟨(some 5), (.call (.c (.fn 193 [] [])) [(.t 3), (.t 4)]), none⟩, ⟨(some 2), (.mv (.t 5)), none⟩]) .ret))
def rs165 : List RV := [(.t 2)]
theorem ok165 : FnOk Tryz.prog 165 Tryz.f165 vc165 rs165 := ⟨by kernel_rfl, by kernel_rfl, by kernel_rfl, by kernel_rfl⟩
def vc169 : VC := (.seq (.reg [⟨(some 2), (.mv (.c (.bool false))), none⟩]) (.seq (.reg [⟨(some 3), (.bsl false 9 1 3 [(.str [])] [(0, (.c (.str [98, 114]))), (1, (.c (.str [104, 114]))), (2, (.c (.str [105, 109, 103])))]), none⟩, ⟨(some 4), (.mv (.t 0)), none⟩, ⟨(some 5), (.call (.c (.fn 193 [] [])) [(.t 3), (.t 4)]), none⟩, ⟨(some 2), (.mv (.t 5)), none⟩]) .ret))
def rs169 : List RV := [(.t 2)]
theorem ok169 : FnOk Tryz.prog 169 Tryz.f169 vc169 rs169 := ⟨by kernel_rfl, by kernel_rfl, by kernel_rfl, by kernel_rfl⟩
def vc170 : VC := (.seq (.reg [⟨(some 2), (.mv (.c (.bool false))), none⟩]) (.seq (.reg [⟨(some 3), (.mv (.t 0)), none⟩, ⟨(some 4), (.bin .eql (.t 3) (.c (.str [115, 99, 114, 105, 112, 116]))), none⟩, ⟨(some 5), (.mv (.t 4)), none⟩, ⟨(some 6), (.mv (.t 0)), (some (5, false))⟩, ⟨(some 7), (.bin .eql (.t 6) (.c (.str [115, 116, 121, 108, 101]))), (some (5, false))⟩, ⟨(some 8), (.pick (.t 5) (.c (.bool true)) (.t 7)), none⟩, ⟨(some 2), (.mv (.t 8)), none⟩]) .ret))
def rs170 : List RV := [(.t 2)]
theorem ok170 : FnOk Tryz.prog 170 Tryz.f170 vc170 rs170 := ⟨by kernel_rfl, by kernel_rfl, by kernel_rfl, by kernel_rfl⟩
def vc240 : VC := (.seq (.reg [⟨(some 2), (.mv (.c (.bool false))), none⟩]) (.seq (.reg [⟨(some 3), (.call (.c (.fn 267 [] [])) []), none⟩, ⟨(some 4), (.mv (.t 0)), none⟩, ⟨(some 5), (.call (.c (.fn 193 [] [])) [(.t 3), (.t 4)]), none⟩, ⟨(some 2), (.mv (.t 5)), none⟩]) .ret))
def rs240 : List RV := [(.t 2)]
theorem ok240 : FnOk Tryz.prog 240 Tryz.f240 vc240 rs240 := ⟨by kernel_rfl, by kernel_rfl, by kernel_rfl, by kernel_rfl⟩
def vc241 : VC := (.seq (.reg [⟨(some 2), (.mv (.c (.bool false))), none⟩]) (.seq (.reg [⟨(some 3), (.call (.c (.fn 268 [] [])) []), none⟩, ⟨(some 4), (.mv (.t 0)), none⟩, ⟨(some 5), (.call (.c (.fn 193 [] [])) [(.t 3), (.t 4)]), none⟩, ⟨(some 2), (.mv (.t 5)), none⟩]) .ret))
def rs241 : List RV := [(.t 2)]
theorem ok241 : FnOk Tryz.prog 241 Tryz.f241 vc241 rs241 := ⟨by kernel_rfl, by kernel_rfl, by kernel_rfl, by kernel_rfl⟩
def vc243 : VC := (.seq (.reg [⟨(some 2), (.mv (.c (.bool false))), none⟩]) (.seq (.reg [⟨(some 3), (.bsl false 9 1 3 [(.str [])] [(0, (.c (.str [111, 110, 99, 108, 105, 99, 107]))), (1, (.c (.str [111, 110, 105, 110, 112, 117, 116]))), (2, (.c (.str [111, 110, 107, 101, 121])))]), none⟩, ⟨(some 4), (.mv (.t 0)), none⟩, ⟨(some 5), (.call (.c (.fn 193 [] [])) [(.t 3), (.t 4)]), none⟩, ⟨(some 2), (.mv (.t 5)), none⟩]) .ret))
def rs243 : List RV := [(.t 2)]
theorem ok243 : FnOk Tryz.prog 243 Tryz.f243 vc243 rs243 := ⟨by kernel_rfl, by kernel_rfl, by kernel_rfl, by kernel_rfl⟩
def vc264 : VC := (.seq (.reg [⟨(some 0), (.mv (.c .nils)), none⟩, ⟨(some 1), (.mv (.c .nils)), none⟩]) (.seq (.reg [⟨(some 2), (.call (.c (.fn 202 [] [])) []), none⟩, ⟨(some 3), (.call (.c (.fn 275 [] [])) [(.t 2), (.c (.fn 170 [] []))]), none⟩, ⟨(some 4), (.call (.c (.fn 267 [] [])) []), none⟩, ⟨(some 5), (.call (.c (.fn 268 [] [])) []), none⟩, ⟨(some 6), (.app 9 1 16 (.t 4) (.t 5)), none⟩, ⟨(some 0), (.mv (.t 3)), none⟩, ⟨(some 1), (.mv (.t 6)), none⟩]) .ret))
def rs264 : List RV := [(.t 0), (.t 1)]
theorem ok264 : FnOk Tryz.prog 264 Tryz.f264 vc264 rs264 := ⟨by kernel_rfl, by kernel_rfl, by kernel_rfl, by kernel_rfl⟩
def vc267 : VC := (.seq (.reg [⟨(some 0), (.mv (.c .nils)), none⟩]) (.seq (.reg [⟨(some 1), (.bsl false 9 1 5 [(.str [])] [(0, (.c (.str [99, 108, 97, 115, 115]))), (1, (.c (.str [105, 100]))), (2, (.c (.str [116, 105, 116, 108, 101]))), (3, (.c (.str [97, 108, 116]))), (4, (.c (.str [110, 97, 109, 101])))]), none⟩, ⟨(some 0), (.mv (.t 1)), none⟩]) .ret))
def rs267 : List RV := [(.t 0)]
theorem ok267 : FnOk Tryz.prog 267 Tryz.f267 vc267 rs267 := ⟨by kernel_rfl, by kernel_rfl, by kernel_rfl, by kernel_rfl⟩
def vc268 : VC := (.seq (.reg [⟨(some 0), (.mv (.c .nils)), none⟩]) (.seq (.reg [⟨(some 1), (.bsl false 9 1 2 [(.str [])] [(0, (.c (.str [104, 114, 101, 102]))), (1, (.c (.str [115, 114, 99])))]), none⟩, ⟨(some 0), (.mv (.t 1)), none⟩]) .ret))
def rs268 : List RV := [(.t 0)]
theorem ok268 : FnOk Tryz.prog 268 Tryz.f268 vc268 rs268 := ⟨by kernel_rfl, by kernel_rfl, by kernel_rfl, by kernel_rfl⟩
end Go.Proofs.VL

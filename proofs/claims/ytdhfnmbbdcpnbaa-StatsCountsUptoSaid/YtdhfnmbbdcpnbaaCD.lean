/- Contracts of functions of the program, for what calls them, and the law that its name tells. -/
import Derived.Test.YtdhfnmbbdcpnbaaV3
import Derived.KernelRfl
import Derived.Test.YtdhfnmbbdcpnbaaProg
namespace Go.Proofs.VL
open Go Go.RowKit
set_option maxRecDepth 100000
def d16a : VC := (.reg [⟨(some 14), (.mv (.t 0)), none⟩, ⟨(some 15), (.fadr 1 (.t 3)), none⟩, ⟨(some 16), (.load false 1 (.t 15)), none⟩, ⟨(some 17), (.call (.c (.fn 54 [] [])) [(.t 14), (.c (.int .i64 (2))), (.t 16)]), none⟩])
def d16b : VC := (.reg [⟨(some 18), (.mv (.t 0)), none⟩, ⟨(some 19), (.fadr 2 (.t 3)), none⟩, ⟨(some 20), (.load false 1 (.t 19)), none⟩, ⟨(some 21), (.ln false (.t 20)), none⟩, ⟨(some 22), (.call (.c (.fn 54 [] [])) [(.t 18), (.c (.int .i64 (3))), (.t 21)]), none⟩])
def d16c : VC := (.reg [⟨(some 23), (.mv (.t 0)), none⟩, ⟨(some 24), (.fadr 3 (.t 3)), none⟩, ⟨(some 25), (.load false 1 (.t 24)), none⟩, ⟨(some 26), (.ln false (.t 25)), none⟩, ⟨(some 27), (.call (.c (.fn 54 [] [])) [(.t 23), (.c (.int .i64 (4))), (.t 26)]), none⟩])
def d16d : VC := (.reg [⟨(some 28), (.mv (.t 0)), none⟩, ⟨(some 29), (.nilck (.t 28)), none⟩, ⟨(some 30), (.fadr 5 (.t 29)), none⟩, ⟨(some 31), (.call (.c (.fn 55 [] [])) [(.t 30)]), none⟩])
def d16e : DC := (.dfr [⟨(some 32), (.mv (.t 0)), none⟩, ⟨(some 33), (.nilck (.t 32)), none⟩, ⟨(some 34), (.fadr 5 (.t 33)), none⟩] none (.c (.fn 56 [] [])) [(.t 34)] [])
def d16f : VC := (.dreg [⟨(some 35), (.mv (.t 0)), none⟩, ⟨(some 36), (.nilck (.t 35)), none⟩, ⟨(some 37), (.fadr 7 (.t 36)), none⟩, ⟨(some 38), (.load false 1 (.t 37)), none⟩, ⟨(some 39), (.fadr 0 (.t 3)), none⟩, ⟨(some 40), (.load false 1 (.t 39)), none⟩, ⟨none, (.upd (.i .i64) (.t 38) (.t 40) (.c (.bool true))), none⟩] [false, false, false, false, false, false, true])
def d16t : DC := .seq (.vc d16a) (.seq (.vc d16b) (.seq (.vc d16c) (.seq (.vc d16d) (.seq d16e (.vc d16f)))))
def d16p : VC := (.reg [⟨(some 3), (.boxI (.t 1)), none⟩])
def d16q : VC := (.seq (.reg [⟨(some 4), (.mv (.t 0)), none⟩, ⟨(some 5), (.call (.c (.fn 51 [] [])) [(.t 4)]), none⟩, ⟨(some 6), (.un .not (.t 5)), none⟩]) (.cond (.t 6) .ret .skip))
def d16r : VC := (.reg [⟨(some 7), (.mv (.t 0)), none⟩, ⟨(some 8), (.call (.c (.fn 54 [] [])) [(.t 7), (.c (.int .i64 (0))), (.c (.int .i64 (1)))]), none⟩])
def d16s : VC := (.seq (.reg [⟨(some 9), (.fadr 0 (.t 3)), none⟩, ⟨(some 10), (.load false 1 (.t 9)), none⟩, ⟨(some 11), (.bin .eql (.t 10) (.c (.int .i64 (0)))), none⟩]) (.cond (.t 11) (.reg [⟨(some 12), (.mv (.t 0)), none⟩, ⟨(some 13), (.call (.c (.fn 54 [] [])) [(.t 12), (.c (.int .i64 (1))), (.c (.int .i64 (1)))]), none⟩]) .skip))
def dc16 : DC := (.seq (.vc d16p) (.seq (.vc d16q) (.seq (.vc d16r) (.seq (.vc d16s) d16t))))
def rs16 : List RV := []
theorem ok16 : FnOkD [3] Try.prog 16 Try.f16 dc16 rs16 := ⟨by kernel_rfl, by kernel_rfl, by kernel_rfl, by kernel_rfl⟩
def d19a : VC := (.reg [⟨(some 2), (.mv (.c .nils)), none⟩])
def d19b : VC := (.seq (.reg [⟨(some 5), (.mv (.t 0)), none⟩, ⟨(some 6), (.call (.c (.fn 51 [] [])) [(.t 5)]), none⟩, ⟨(some 7), (.un .not (.t 6)), none⟩]) (.cond (.t 7) (.seq (.reg [⟨(some 2), (.mv (.c .nils)), none⟩]) .ret) .skip))
def d19c : VC := (.reg [⟨(some 8), (.mv (.t 0)), none⟩, ⟨(some 9), (.nilck (.t 8)), none⟩, ⟨(some 10), (.fadr 5 (.t 9)), none⟩, ⟨(some 11), (.call (.c (.fn 55 [] [])) [(.t 10)]), none⟩])
def d19d : DC := (.dfr [⟨(some 12), (.mv (.t 0)), none⟩, ⟨(some 13), (.nilck (.t 12)), none⟩, ⟨(some 14), (.fadr 5 (.t 13)), none⟩] none (.c (.fn 56 [] [])) [(.t 14)] [])
def d19e : VC := (.seq (.reg [⟨(some 3), (.mv (.c .nils)), none⟩]) (.seq (.seq (.reg [⟨(some 15), (.mv (.t 0)), none⟩, ⟨(some 16), (.nilck (.t 15)), none⟩, ⟨(some 17), (.fadr 7 (.t 16)), none⟩, ⟨(some 18), (.load false 1 (.t 17)), none⟩, ⟨(some 19), (.rng (.t 18)), none⟩]) (.block 0 (.loop (.seq (.reg [⟨(some 20), (.nxt (.t 19)), none⟩, ⟨(some 21), (.ext (.t 20) 0), none⟩]) (.seq (.cond (.t 21) .skip (.exit 0)) (.block 1 (.seq (.reg [⟨(some 22), (.ent (.t 19)), none⟩, ⟨(some 23), (.ext (.t 22) 0), none⟩, ⟨(some 4), (.mv (.t 23)), none⟩]) (.reg [⟨(some 24), (.mv (.t 3)), none⟩, ⟨(some 25), (.mv (.t 4)), none⟩, ⟨(some 26), (.bsl false 3 1 1 [(.int .i64 (0))] [(0, (.t 25))]), none⟩, ⟨(some 27), (.app 3 1 8 (.t 24) (.t 26)), none⟩, ⟨(some 3), (.mv (.t 27)), none⟩])))))))) (.seq (.reg [⟨(some 28), (.mv (.t 3)), none⟩, ⟨(some 29), (.call (.c (.fn 58 [] [])) [(.t 28)]), none⟩]) (.seq (.reg [⟨(some 30), (.mv (.t 3)), none⟩, ⟨(some 2), (.mv (.t 30)), none⟩]) .ret))))
def dc19 : DC := (.seq (.vc d19a) (.seq (.vc d19b) (.seq (.vc d19c) (.seq d19d (.vc d19e)))))
def rs19 : List RV := [(.t 2)]
theorem ok19 : FnOkD [] Try.prog 19 Try.f19 dc19 rs19 := ⟨by kernel_rfl, by kernel_rfl, by kernel_rfl, by kernel_rfl⟩
def dc99 : DC := (.seq (.vc (.reg [⟨(some 4), (.mv (.t 0)), none⟩, ⟨(some 5), (.nilck (.t 4)), none⟩, ⟨(some 6), (.fadr 1 (.t 5)), none⟩, ⟨(some 7), (.call (.c (.fn 55 [] [])) [(.t 6)]), none⟩])) (.seq (.dfr [⟨(some 8), (.mv (.t 0)), none⟩, ⟨(some 9), (.nilck (.t 8)), none⟩, ⟨(some 10), (.fadr 1 (.t 9)), none⟩] none (.c (.fn 56 [] [])) [(.t 10)] []) (.seq (.vc (.reg [⟨(some 11), (.mv (.t 0)), none⟩, ⟨(some 12), (.nilck (.t 11)), none⟩, ⟨(some 13), (.fadr 0 (.t 12)), none⟩, ⟨(some 14), (.call (.c (.fn 98 [] [])) [(.t 13)]), none⟩, ⟨(some 15), (.un .not (.t 14)), none⟩])) (.cond (.t 15) (.seq (.dfr [⟨(some 16), (.mv (.t 0)), none⟩, ⟨(some 17), (.nilck (.t 16)), none⟩, ⟨(some 18), (.fadr 0 (.t 17)), none⟩] none (.c (.fn 133 [] [])) [(.t 18), (.c (.bool true))] []) (.vc (.reg [⟨(some 19), (.mv (.t 1)), none⟩, ⟨(some 20), (.call (.t 19) []), none⟩]))) (.vc .skip)))))
def rs99 : List RV := []
theorem ok99 : FnOkD [] Try.prog 99 Try.f99 dc99 rs99 := ⟨by kernel_rfl, by kernel_rfl, by kernel_rfl, by kernel_rfl⟩
end Go.Proofs.VL

/- Contracts of functions of the program, for what calls them, and the law that its name tells. -/
import Derived.Test.YtdhfnmbbdcpnbaaV4
import Derived.Test.YtdhfnmbbdcpnbaaDY
import Derived.Test.YtdhfnmbbdcpnbaaCallow
import Derived.Test.YtdhfnmbbdcpnbaaCslices
namespace Go.Proofs.VL
open Go Go.RowKit
set_option maxRecDepth 100000
noncomputable section
noncomputable def tabC : List (Nat × FE) := [(47, .spec tagsF), (14, .code Try.f14.ntmps vc14 rs14), (48, .code Try.f48.ntmps vc48 rs48), (49, .code Try.f49.ntmps vc49 rs49), (50, .code Try.f50.ntmps vc50 rs50), (46, .code Try.f46.ntmps vc46 rs46), (58, .code Try.f58.ntmps vc58 rs58), (97, .code Try.f97.ntmps vc97 rs97), (104, .code Try.f104.ntmps vc104 rs104), (143, .code Try.f143.ntmps vc143 rs143), (144, .code Try.f144.ntmps vc144 rs144), (145, .code Try.f145.ntmps vc145 rs145), (146, .code Try.f146.ntmps vc146 rs146), (147, .code Try.f147.ntmps vc147 rs147), (148, .code Try.f148.ntmps vc148 rs148), (150, .code Try.f150.ntmps vc150 rs150), (151, .code Try.f151.ntmps vc151 rs151), (168, .code Try.f168.ntmps vc168 rs168), (179, .code Try.f179.ntmps vc179 rs179), (180, .code Try.f180.ntmps vc180 rs180), (181, .code Try.f181.ntmps vc181 rs181), (182, .code Try.f182.ntmps vc182 rs182), (183, .code Try.f183.ntmps vc183 rs183), (195, .code Try.f195.ntmps vc195 rs195), (197, .code Try.f197.ntmps vc197 rs197), (206, .code Try.f206.ntmps vc206 rs206)]
theorem tabC_ok : TOk Try.prog tabC := .spec tagsF_ok (.code ok14 (.code ok48 (.code ok49 (.code ok50 (.code ok46 (.code ok58 (.code ok97 (.code ok104 (.code ok143 (.code ok144 (.code ok145 (.code ok146 (.code ok147 (.code ok148 (.code ok150 (.code ok151 (.code ok168 (.code ok179 (.code ok180 (.code ok181 (.code ok182 (.code ok183 (.code ok195 (.code ok197 (.code ok206 .nil)))))))))))))))))))))))))
end
end Go.Proofs.VL

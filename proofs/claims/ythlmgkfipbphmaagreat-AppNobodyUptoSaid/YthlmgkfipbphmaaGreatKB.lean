/- Contracts of functions of the program, for what calls them, and the law that its name tells. -/
import Derived.Test.YthlmgkfipbphmaaGreatHB
import Derived.Test.YthlmgkfipbphmaaGreatFA
namespace Go.Proofs.VL
open Go Go.RowKit
set_option maxRecDepth 100000
set_option maxHeartbeats 4000000
set_option linter.unusedSimpArgs false
set_option linter.unusedVariables false
attribute [local irreducible] vwp vk

theorem appNobody (l : List Vw) (o e : Int) (hl : cntV l ≤ 1000000000000) : VFn Tryz.prog 11 [.sl 10 (vRows l), .int .i64 o, .int .i64 e] (.bool true) := by
  refine VFn.intro ok11 (Nat.le_of_ble_eq_true rfl) (vk_start ?_)
  have hs := lim_size l hl
  simp (maxSteps := 4000000) (disch := omega) only [EW, Nat.reduceBEq, reduceIte, Nat.reduceAdd, Nat.reduceLeDiff, Nat.reduceLT, Nat.reduceSub, Nat.reduceMul, reduceCtorEq, Int.reduceNeg, Int.reduceSub, Int.reduceAdd, Int.reduceLE, Int.reduceLT, Int.reduceMul, Int.reduceToNat, Int.reduceEq, Int.reduceBEq, Int.reduceBNe, Nat.reduceEqDiff, vc11, rs11]
  (refine vk_callR rfl ⟨_, .inl rfl, hs⟩ ?_; simp (maxSteps := 4000000) (disch := omega) only [EW, Nat.reduceBEq, reduceIte, Nat.reduceAdd, Nat.reduceLeDiff, Nat.reduceLT, Nat.reduceSub, Nat.reduceMul, reduceCtorEq, Int.reduceNeg, Int.reduceSub, Int.reduceAdd, Int.reduceLE, Int.reduceLT, Int.reduceMul, Int.reduceToNat, Int.reduceEq, Int.reduceBEq, Int.reduceBNe, Nat.reduceEqDiff])
  by_cases h : 200 < sizeV l
  · simp (maxSteps := 4000000) (disch := omega) only [EW, Nat.reduceBEq, reduceIte, Nat.reduceAdd, Nat.reduceLeDiff, Nat.reduceLT, Nat.reduceSub, Nat.reduceMul, reduceCtorEq, Int.reduceNeg, Int.reduceSub, Int.reduceAdd, Int.reduceLE, Int.reduceLT, Int.reduceMul, Int.reduceToNat, Int.reduceEq, Int.reduceBEq, Int.reduceBNe, Nat.reduceEqDiff]
    (refine vk_callR rfl ⟨_, .inl rfl, alive31⟩ ?_; simp (maxSteps := 4000000) (disch := omega) only [EW, Nat.reduceBEq, reduceIte, Nat.reduceAdd, Nat.reduceLeDiff, Nat.reduceLT, Nat.reduceSub, Nat.reduceMul, reduceCtorEq, Int.reduceNeg, Int.reduceSub, Int.reduceAdd, Int.reduceLE, Int.reduceLT, Int.reduceMul, Int.reduceToNat, Int.reduceEq, Int.reduceBEq, Int.reduceBNe, Nat.reduceEqDiff])
    exact fin rfl
  · simp (maxSteps := 4000000) (disch := omega) only [EW, Nat.reduceBEq, reduceIte, Nat.reduceAdd, Nat.reduceLeDiff, Nat.reduceLT, Nat.reduceSub, Nat.reduceMul, reduceCtorEq, Int.reduceNeg, Int.reduceSub, Int.reduceAdd, Int.reduceLE, Int.reduceLT, Int.reduceMul, Int.reduceToNat, Int.reduceEq, Int.reduceBEq, Int.reduceBNe, Nat.reduceEqDiff]
    exact vk_evF tabZ_ok 1000 60 (by kernel_rfl)
end Go.Proofs.VL

/- Contracts of functions of the program, for what calls them, and the law that its name tells. -/
import Derived.Test.YtdhfnmbbdcpnbaaDW
import Derived.Test.YtdhfnmbbdcpnbaaFA
import Derived.Test.YtdhfnmbbdcpnbaaCglazierlaw35
import Derived.Test.YtdhfnmbbdcpnbaaCglazierplain
namespace Go.Proofs.VL
open Go Go.RowKit
set_option maxRecDepth 100000
set_option maxHeartbeats 4000000
set_option linter.unusedSimpArgs false
set_option linter.unusedVariables false
attribute [local irreducible] vwp vk

theorem st_common1 (n0 n1 n2 n3 n4 dn l q c : Int) (es : List (Nat × V × V)) (clock : Nat) :
    VCall Try.prog 53 [.ptr 2 0] [some (.box [.int .i64 n0, .int .i64 n1, .int .i64 n2, .int .i64 n3, .int .i64 n4, .int .i32 l, .int .u32 0, .mapr 1, .int .u32 dn, .int .i32 q, .int .u32 0, .int .i64 c]), some (.map es clock), some (.box [.ptr 0 0])] (.tup []) [some (.box [.int .i64 n0, .int .i64 n1, .int .i64 n2, .int .i64 n3, .int .i64 n4, .int .i32 l, .int .u32 0, .mapr 1, .int .u32 dn, .int .i32 q, .int .u32 0, .int .i64 22]), some (.map es clock), some (.box [.ptr 0 0])] := by
  refine VCall.introE ok53 (Nat.le_of_ble_eq_true rfl) (vk_start ?_)
  simp (maxSteps := 4000000) (disch := omega) only [EW, Nat.reduceBEq, reduceIte, Nat.reduceAdd, Nat.reduceLeDiff, Nat.reduceLT, Nat.reduceSub, Nat.reduceMul, reduceCtorEq, Int.reduceNeg, Int.reduceSub, Int.reduceAdd, Int.reduceLE, Int.reduceLT, Int.reduceMul, Int.reduceToNat, Int.reduceEq, Int.reduceBEq, Int.reduceBNe, Nat.reduceEqDiff, vc53, rs53]
  refine vk_callR rfl ⟨[], .inl rfl, allow_common⟩ ?_
  have hA : (sRow tagA).length = 15 := rfl
  have hB : (sRow attB).length = 7 := rfl
  simp (maxSteps := 4000000) (disch := omega) only [EW, Nat.reduceBEq, reduceIte, Nat.reduceAdd, Nat.reduceLeDiff, Nat.reduceLT, Nat.reduceSub, Nat.reduceMul, reduceCtorEq, Int.reduceNeg, Int.reduceSub, Int.reduceAdd, Int.reduceLE, Int.reduceLT, Int.reduceMul, Int.reduceToNat, Int.reduceEq, Int.reduceBEq, Int.reduceBNe, Nat.reduceEqDiff, hA, hB]
  exact ⟨rfl, rfl⟩

theorem st_slow (n0 n1 n2 n3 n4 c : Int) (es : List (Nat × V × V)) (clock : Nat) :
    VCall Try.prog 99 [.ptr 0 8, .fn 53 [] [.ptr 2 0]] [some (.box (stC n0 n1 n2 n3 n4 (.mapr 1) 0 0 c)), some (.map es clock), some (.box [.ptr 0 0])] (.tup []) [some (.box (stC n0 n1 n2 n3 n4 (.mapr 1) 1 0 22)), some (.map es clock), some (.box [.ptr 0 0])] := by
  refine VCall.introD ok99 (Nat.le_of_ble_eq_true rfl) ?_
  have hef : ((0 : Int) != 0) = false := rfl
  unfold dc99
  refine d_seq (d_vc ?_)
  simp (maxSteps := 4000000) (disch := omega) only [EW, Nat.reduceBEq, reduceIte, Nat.reduceAdd, Nat.reduceLeDiff, Nat.reduceLT, Nat.reduceSub, Nat.reduceMul, reduceCtorEq, Int.reduceNeg, Int.reduceSub, Int.reduceAdd, Int.reduceLE, Int.reduceLT, Int.reduceMul, Int.reduceToNat, Int.reduceEq, Int.reduceBEq, Int.reduceBNe, Nat.reduceEqDiff, St.up, St.init, stC]
  refine vk_call rfl (lockC rfl rfl) ?_
  simp (maxSteps := 4000000) (disch := omega) only [EW, Nat.reduceBEq, reduceIte, Nat.reduceAdd, Nat.reduceLeDiff, Nat.reduceLT, Nat.reduceSub, Nat.reduceMul, reduceCtorEq, Int.reduceNeg, Int.reduceSub, Int.reduceAdd, Int.reduceLE, Int.reduceLT, Int.reduceMul, Int.reduceToNat, Int.reduceEq, Int.reduceBEq, Int.reduceBNe, Nat.reduceEqDiff]
  refine d_seq (d_dfr ?_)
  simp (maxSteps := 4000000) (disch := omega) only [EW, Nat.reduceBEq, reduceIte, Nat.reduceAdd, Nat.reduceLeDiff, Nat.reduceLT, Nat.reduceSub, Nat.reduceMul, reduceCtorEq, Int.reduceNeg, Int.reduceSub, Int.reduceAdd, Int.reduceLE, Int.reduceLT, Int.reduceMul, Int.reduceToNat, Int.reduceEq, Int.reduceBEq, Int.reduceBNe, Nat.reduceEqDiff, St.up]
  refine ⟨_, rfl, d_seq (d_vc ?_)⟩
  simp (maxSteps := 4000000) (disch := omega) only [EW, Nat.reduceBEq, reduceIte, Nat.reduceAdd, Nat.reduceLeDiff, Nat.reduceLT, Nat.reduceSub, Nat.reduceMul, reduceCtorEq, Int.reduceNeg, Int.reduceSub, Int.reduceAdd, Int.reduceLE, Int.reduceLT, Int.reduceMul, Int.reduceToNat, Int.reduceEq, Int.reduceBEq, Int.reduceBNe, Nat.reduceEqDiff, St.up]
  refine vk_call rfl (loadBC rfl rfl) ?_
  simp (maxSteps := 4000000) (disch := omega) only [EW, Nat.reduceBEq, reduceIte, Nat.reduceAdd, Nat.reduceLeDiff, Nat.reduceLT, Nat.reduceSub, Nat.reduceMul, reduceCtorEq, Int.reduceNeg, Int.reduceSub, Int.reduceAdd, Int.reduceLE, Int.reduceLT, Int.reduceMul, Int.reduceToNat, Int.reduceEq, Int.reduceBEq, Int.reduceBNe, Nat.reduceEqDiff, hef]
  refine d_cond rfl ?_
  rw [if_pos rfl]
  refine d_seq (d_dfr ?_)
  simp (maxSteps := 4000000) (disch := omega) only [EW, Nat.reduceBEq, reduceIte, Nat.reduceAdd, Nat.reduceLeDiff, Nat.reduceLT, Nat.reduceSub, Nat.reduceMul, reduceCtorEq, Int.reduceNeg, Int.reduceSub, Int.reduceAdd, Int.reduceLE, Int.reduceLT, Int.reduceMul, Int.reduceToNat, Int.reduceEq, Int.reduceBEq, Int.reduceBNe, Nat.reduceEqDiff, St.up]
  refine ⟨_, rfl, d_vc ?_⟩
  simp (maxSteps := 4000000) (disch := omega) only [EW, Nat.reduceBEq, reduceIte, Nat.reduceAdd, Nat.reduceLeDiff, Nat.reduceLT, Nat.reduceSub, Nat.reduceMul, reduceCtorEq, Int.reduceNeg, Int.reduceSub, Int.reduceAdd, Int.reduceLE, Int.reduceLT, Int.reduceMul, Int.reduceToNat, Int.reduceEq, Int.reduceBEq, Int.reduceBNe, Nat.reduceEqDiff, St.up]
  refine vk_call rfl (st_common1 n0 n1 n2 n3 n4 0 0 1 c es clock) ?_
  simp (maxSteps := 4000000) (disch := omega) only [EW, Nat.reduceBEq, reduceIte, Nat.reduceAdd, Nat.reduceLeDiff, Nat.reduceLT, Nat.reduceSub, Nat.reduceMul, reduceCtorEq, Int.reduceNeg, Int.reduceSub, Int.reduceAdd, Int.reduceLE, Int.reduceLT, Int.reduceMul, Int.reduceToNat, Int.reduceEq, Int.reduceBEq, Int.reduceBNe, Nat.reduceEqDiff]
  refine retD_n (dend_cons (storeD rfl rfl) (dend_cons (unlockD rfl rfl) (dend_nil ⟨_, rfl, ?_⟩)))
  exact ⟨[some 0, some 1, some 2], rfl, rfl, rfl, rfl, ⟨.same _ rfl, trivial⟩, ⟨⟨_, rfl, .box (.cons (.same _ rfl) (.cons (.same _ rfl) (.cons (.same _ rfl) (.cons (.same _ rfl) (.cons (.same _ rfl) (.cons (.same _ rfl) (.cons (.same _ rfl) (.cons (.mapr rfl) (.cons (.same _ rfl) (.cons (.same _ rfl) (.cons (.same _ rfl) (.cons (.same _ rfl) .nil))))))))))))⟩, ⟨⟨_, rfl, .map (SubE.refl _)⟩, ⟨⟨_, rfl, .box (.cons (.ptr rfl) .nil)⟩, trivial⟩⟩⟩⟩

theorem st_do (n0 n1 n2 n3 n4 c : Int) (es : List (Nat × V × V)) (clock : Nat) :
    VCall Try.prog 52 [.ptr 0 8, .fn 53 [] [.ptr 2 0]] [some (.box (stC n0 n1 n2 n3 n4 (.mapr 1) 0 0 c)), some (.map es clock), some (.box [.ptr 0 0])] (.tup []) [some (.box (stC n0 n1 n2 n3 n4 (.mapr 1) 1 0 22)), some (.map es clock), some (.box [.ptr 0 0])] := by
  refine VCall.introE ok52 (Nat.le_of_ble_eq_true rfl) (vk_start ?_)
  have hef : ((0 : Int) != 0) = false := rfl
  simp (maxSteps := 4000000) (disch := omega) only [EW, Nat.reduceBEq, reduceIte, Nat.reduceAdd, Nat.reduceLeDiff, Nat.reduceLT, Nat.reduceSub, Nat.reduceMul, reduceCtorEq, Int.reduceNeg, Int.reduceSub, Int.reduceAdd, Int.reduceLE, Int.reduceLT, Int.reduceMul, Int.reduceToNat, Int.reduceEq, Int.reduceBEq, Int.reduceBNe, Nat.reduceEqDiff, vc52, rs52]
  refine vk_call rfl (loadBC rfl rfl) ?_
  simp (maxSteps := 4000000) (disch := omega) only [EW, Nat.reduceBEq, reduceIte, Nat.reduceAdd, Nat.reduceLeDiff, Nat.reduceLT, Nat.reduceSub, Nat.reduceMul, reduceCtorEq, Int.reduceNeg, Int.reduceSub, Int.reduceAdd, Int.reduceLE, Int.reduceLT, Int.reduceMul, Int.reduceToNat, Int.reduceEq, Int.reduceBEq, Int.reduceBNe, Nat.reduceEqDiff, hef]
  refine vk_call rfl (st_slow n0 n1 n2 n3 n4 c es clock) ?_
  simp (maxSteps := 4000000) (disch := omega) only [EW, Nat.reduceBEq, reduceIte, Nat.reduceAdd, Nat.reduceLeDiff, Nat.reduceLT, Nat.reduceSub, Nat.reduceMul, reduceCtorEq, Int.reduceNeg, Int.reduceSub, Int.reduceAdd, Int.reduceLE, Int.reduceLT, Int.reduceMul, Int.reduceToNat, Int.reduceEq, Int.reduceBEq, Int.reduceBNe, Nat.reduceEqDiff]
  exact ⟨rfl, rfl⟩
theorem st_done (n0 n1 n2 n3 n4 c : Int) (es : List (Nat × V × V)) (clock : Nat) :
    VCall Try.prog 52 [.ptr 0 8, .fn 53 [] [.ptr 2 0]] [some (.box (stC n0 n1 n2 n3 n4 (.mapr 1) 1 0 c)), some (.map es clock), some (.box [.ptr 0 0])] (.tup []) [some (.box (stC n0 n1 n2 n3 n4 (.mapr 1) 1 0 c)), some (.map es clock), some (.box [.ptr 0 0])] := by
  refine VCall.introE ok52 (Nat.le_of_ble_eq_true rfl) (vk_start ?_)
  have hef : ((1 : Int) != 0) = true := rfl
  simp (maxSteps := 4000000) (disch := omega) only [EW, Nat.reduceBEq, reduceIte, Nat.reduceAdd, Nat.reduceLeDiff, Nat.reduceLT, Nat.reduceSub, Nat.reduceMul, reduceCtorEq, Int.reduceNeg, Int.reduceSub, Int.reduceAdd, Int.reduceLE, Int.reduceLT, Int.reduceMul, Int.reduceToNat, Int.reduceEq, Int.reduceBEq, Int.reduceBNe, Nat.reduceEqDiff, vc52, rs52]
  refine vk_call rfl (loadBC rfl rfl) ?_
  simp (maxSteps := 4000000) (disch := omega) only [EW, Nat.reduceBEq, reduceIte, Nat.reduceAdd, Nat.reduceLeDiff, Nat.reduceLT, Nat.reduceSub, Nat.reduceMul, reduceCtorEq, Int.reduceNeg, Int.reduceSub, Int.reduceAdd, Int.reduceLE, Int.reduceLT, Int.reduceMul, Int.reduceToNat, Int.reduceEq, Int.reduceBEq, Int.reduceBNe, Nat.reduceEqDiff, hef]
  exact ⟨rfl, rfl⟩

theorem st_common (n0 n1 n2 n3 n4 dn c : Int) (h : dn = 0 ∨ (dn = 1 ∧ c = 22)) (es : List (Nat × V × V)) (clock : Nat) :
    VCall Try.prog 15 [.ptr 0 0] [some (.box (stC n0 n1 n2 n3 n4 (.mapr 1) dn 0 c)), some (.map es clock)] (.int .i64 22) [some (.box (stC n0 n1 n2 n3 n4 (.mapr 1) 1 0 22)), some (.map es clock)] := by
  refine VCall.intro ok15 (Nat.le_of_ble_eq_true rfl) (vk_start ?_)
  simp (maxSteps := 4000000) (disch := omega) only [EW, Nat.reduceBEq, reduceIte, Nat.reduceAdd, Nat.reduceLeDiff, Nat.reduceLT, Nat.reduceSub, Nat.reduceMul, reduceCtorEq, Int.reduceNeg, Int.reduceSub, Int.reduceAdd, Int.reduceLE, Int.reduceLT, Int.reduceMul, Int.reduceToNat, Int.reduceEq, Int.reduceBEq, Int.reduceBNe, Nat.reduceEqDiff, vc15, rs15]
  refine vk_call rfl (st_is rfl) ?_
  rcases h with rfl | ⟨rfl, rfl⟩
  · simp (maxSteps := 4000000) (disch := omega) only [EW, Nat.reduceBEq, reduceIte, Nat.reduceAdd, Nat.reduceLeDiff, Nat.reduceLT, Nat.reduceSub, Nat.reduceMul, reduceCtorEq, Int.reduceNeg, Int.reduceSub, Int.reduceAdd, Int.reduceLE, Int.reduceLT, Int.reduceMul, Int.reduceToNat, Int.reduceEq, Int.reduceBEq, Int.reduceBNe, Nat.reduceEqDiff, stC]
    refine vk_call rfl (st_do n0 n1 n2 n3 n4 c es clock) ?_
    simp (maxSteps := 4000000) (disch := omega) only [EW, Nat.reduceBEq, reduceIte, Nat.reduceAdd, Nat.reduceLeDiff, Nat.reduceLT, Nat.reduceSub, Nat.reduceMul, reduceCtorEq, Int.reduceNeg, Int.reduceSub, Int.reduceAdd, Int.reduceLE, Int.reduceLT, Int.reduceMul, Int.reduceToNat, Int.reduceEq, Int.reduceBEq, Int.reduceBNe, Nat.reduceEqDiff, stC]
    exact ⟨_, rfl, ⟨[some 0, some 1], rfl, rfl, rfl, rfl, ⟨.same _ rfl, trivial⟩, ⟨⟨_, rfl, .box (.cons (.same _ rfl) (.cons (.same _ rfl) (.cons (.same _ rfl) (.cons (.same _ rfl) (.cons (.same _ rfl) (.cons (.same _ rfl) (.cons (.same _ rfl) (.cons (.mapr rfl) (.cons (.same _ rfl) (.cons (.same _ rfl) (.cons (.same _ rfl) (.cons (.same _ rfl) .nil))))))))))))⟩, ⟨⟨_, rfl, .map (SubE.refl _)⟩, trivial⟩⟩⟩⟩
  · simp (maxSteps := 4000000) (disch := omega) only [EW, Nat.reduceBEq, reduceIte, Nat.reduceAdd, Nat.reduceLeDiff, Nat.reduceLT, Nat.reduceSub, Nat.reduceMul, reduceCtorEq, Int.reduceNeg, Int.reduceSub, Int.reduceAdd, Int.reduceLE, Int.reduceLT, Int.reduceMul, Int.reduceToNat, Int.reduceEq, Int.reduceBEq, Int.reduceBNe, Nat.reduceEqDiff, stC]
    refine vk_call rfl (st_done n0 n1 n2 n3 n4 22 es clock) ?_
    simp (maxSteps := 4000000) (disch := omega) only [EW, Nat.reduceBEq, reduceIte, Nat.reduceAdd, Nat.reduceLeDiff, Nat.reduceLT, Nat.reduceSub, Nat.reduceMul, reduceCtorEq, Int.reduceNeg, Int.reduceSub, Int.reduceAdd, Int.reduceLE, Int.reduceLT, Int.reduceMul, Int.reduceToNat, Int.reduceEq, Int.reduceBEq, Int.reduceBNe, Nat.reduceEqDiff, stC]
    exact ⟨_, rfl, ⟨[some 0, some 1], rfl, rfl, rfl, rfl, ⟨.same _ rfl, trivial⟩, ⟨⟨_, rfl, .box (.cons (.same _ rfl) (.cons (.same _ rfl) (.cons (.same _ rfl) (.cons (.same _ rfl) (.cons (.same _ rfl) (.cons (.same _ rfl) (.cons (.same _ rfl) (.cons (.mapr rfl) (.cons (.same _ rfl) (.cons (.same _ rfl) (.cons (.same _ rfl) (.cons (.same _ rfl) .nil))))))))))))⟩, ⟨⟨_, rfl, .map (SubE.refl _)⟩, trivial⟩⟩⟩⟩

theorem alive35 : VFn Try.prog 12 [] (.bool true) := by
  refine VFn.intro ok12 (Nat.le_of_ble_eq_true rfl) (vk_start ?_)
  simp (maxSteps := 4000000) (disch := omega) only [EW, Nat.reduceBEq, reduceIte, Nat.reduceAdd, Nat.reduceLeDiff, Nat.reduceLT, Nat.reduceSub, Nat.reduceMul, reduceCtorEq, Int.reduceNeg, Int.reduceSub, Int.reduceAdd, Int.reduceLE, Int.reduceLT, Int.reduceMul, Int.reduceToNat, Int.reduceEq, Int.reduceBEq, Int.reduceBNe, Nat.reduceEqDiff, vc12, rs12]
  refine vk_call rfl st_new ?_
  simp (maxSteps := 4000000) (disch := omega) only [EW, Nat.reduceBEq, reduceIte, Nat.reduceAdd, Nat.reduceLeDiff, Nat.reduceLT, Nat.reduceSub, Nat.reduceMul, reduceCtorEq, Int.reduceNeg, Int.reduceSub, Int.reduceAdd, Int.reduceLE, Int.reduceLT, Int.reduceMul, Int.reduceToNat, Int.reduceEq, Int.reduceBEq, Int.reduceBNe, Nat.reduceEqDiff]
  have hadd := st_add 0 0 0 0 0 [] 0 0 0 0 0 3 4 4 [] []
  have hadd2 : VCall Try.prog 16 [.ptr 0 0, .agg [.int .i64 0, .int .i64 3, .nils, .nils]] [some (.box (stC 0 0 0 0 0 (.mapr 1) 0 0 0)), some (.map [] 0)] (.tup []) [some (.box (stC 1 1 3 0 0 (.mapr 1) 0 0 0)), some (.map (cV [(0, 0)]) 1)] :=
    VCall.sub hadd (.cons (.refl _) (.cons (.agg (.cons (.refl _) (.cons (.refl _) (.cons (.nil _) (.cons (.nil _) .nil))))) .nil)) (.refl _)
  refine vk_call rfl hadd2 ?_
  simp (maxSteps := 4000000) (disch := omega) only [EW, Nat.reduceBEq, reduceIte, Nat.reduceAdd, Nat.reduceLeDiff, Nat.reduceLT, Nat.reduceSub, Nat.reduceMul, reduceCtorEq, Int.reduceNeg, Int.reduceSub, Int.reduceAdd, Int.reduceLE, Int.reduceLT, Int.reduceMul, Int.reduceToNat, Int.reduceEq, Int.reduceBEq, Int.reduceBNe, Nat.reduceEqDiff]
  refine vk_call rfl (st_total rfl 1 (r := 1) rfl) ?_
  simp (maxSteps := 4000000) (disch := omega) only [EW, Nat.reduceBEq, reduceIte, Nat.reduceAdd, Nat.reduceLeDiff, Nat.reduceLT, Nat.reduceSub, Nat.reduceMul, reduceCtorEq, Int.reduceNeg, Int.reduceSub, Int.reduceAdd, Int.reduceLE, Int.reduceLT, Int.reduceMul, Int.reduceToNat, Int.reduceEq, Int.reduceBEq, Int.reduceBNe, Nat.reduceEqDiff]
  refine vk_call rfl (st_total rfl 2 (r := 1) rfl) ?_
  simp (maxSteps := 4000000) (disch := omega) only [EW, Nat.reduceBEq, reduceIte, Nat.reduceAdd, Nat.reduceLeDiff, Nat.reduceLT, Nat.reduceSub, Nat.reduceMul, reduceCtorEq, Int.reduceNeg, Int.reduceSub, Int.reduceAdd, Int.reduceLE, Int.reduceLT, Int.reduceMul, Int.reduceToNat, Int.reduceEq, Int.reduceBEq, Int.reduceBNe, Nat.reduceEqDiff]
  refine vk_call rfl (st_total rfl 3 (r := 3) rfl) ?_
  simp (maxSteps := 4000000) (disch := omega) only [EW, Nat.reduceBEq, reduceIte, Nat.reduceAdd, Nat.reduceLeDiff, Nat.reduceLT, Nat.reduceSub, Nat.reduceMul, reduceCtorEq, Int.reduceNeg, Int.reduceSub, Int.reduceAdd, Int.reduceLE, Int.reduceLT, Int.reduceMul, Int.reduceToNat, Int.reduceEq, Int.reduceBEq, Int.reduceBNe, Nat.reduceEqDiff]
  refine vk_call rfl (st_common 1 1 3 0 0 0 0 (.inl rfl) _ _) ?_
  simp (maxSteps := 4000000) (disch := omega) only [EW, Nat.reduceBEq, reduceIte, Nat.reduceAdd, Nat.reduceLeDiff, Nat.reduceLT, Nat.reduceSub, Nat.reduceMul, reduceCtorEq, Int.reduceNeg, Int.reduceSub, Int.reduceAdd, Int.reduceLE, Int.reduceLT, Int.reduceMul, Int.reduceToNat, Int.reduceEq, Int.reduceBEq, Int.reduceBNe, Nat.reduceEqDiff]
  exact fin rfl
end Go.Proofs.VL

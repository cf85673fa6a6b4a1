/- Contracts of functions of the program, for what calls them, and the law that its name tells. -/
import Derived.Test.YthlmgkfipbphmaaAA
import Derived.Test.YthlmgkfipbphmaaSF
namespace Go.Proofs.VL
open Go Go.RowKit
set_option maxRecDepth 100000
set_option maxHeartbeats 2000000
set_option linter.unusedSimpArgs false
set_option linter.unusedVariables false
attribute [local irreducible] vwp vk

theorem eq_mapr (k : Nat) : isNil .m (.mapr k) = some false := rfl
theorem a_is (A : Ar) : VCall Try.prog 37 [.ptr 0 0] (aOb A) (.bool true) (aOb A) := by
  refine VCall.intro ok37 (Nat.le_of_ble_eq_true rfl) (vk_start ?_)
  simp (maxSteps := 4000000) (disch := omega) only [EW, Nat.reduceBEq, reduceIte, Nat.reduceAdd, Nat.reduceLeDiff, Nat.reduceLT, Nat.reduceSub, Nat.reduceMul, reduceCtorEq, Int.reduceNeg, Int.reduceSub, Int.reduceAdd, Int.reduceLE, Int.reduceLT, Int.reduceMul, Int.reduceToNat, Int.reduceEq, Int.reduceBEq, Int.reduceBNe, Nat.reduceEqDiff, vc37, rs37, aOb, aCells]
  exact ⟨_, rfl, ⟨[some 0, some 1], rfl, rfl, rfl, rfl, ⟨.same _ rfl, trivial⟩, ⟨⟨_, rfl, .box (.cons (.mapr rfl) (.cons (.same _ rfl) (.cons (.same _ rfl) (.cons (.same _ rfl) (.cons (.same _ rfl) (.cons (.same _ rfl) (.cons (.same _ rfl) (.cons (.same _ rfl) (.cons (.same _ rfl) .nil)))))))))⟩, ⟨⟨_, rfl, .map (SubE.refl _)⟩, trivial⟩⟩⟩⟩
theorem a_is_nil : VFn Try.prog 37 [.nilp] (.bool false) := by
  refine VFn.intro ok37 (Nat.le_of_ble_eq_true rfl) (vk_start ?_)
  simp (maxSteps := 4000000) (disch := omega) only [EW, Nat.reduceBEq, reduceIte, Nat.reduceAdd, Nat.reduceLeDiff, Nat.reduceLT, Nat.reduceSub, Nat.reduceMul, reduceCtorEq, Int.reduceNeg, Int.reduceSub, Int.reduceAdd, Int.reduceLE, Int.reduceLT, Int.reduceMul, Int.reduceToNat, Int.reduceEq, Int.reduceBEq, Int.reduceBNe, Nat.reduceEqDiff, vc37, rs37]
  exact fin rfl
theorem a_known (o : Int) : VFn Try.prog 38 [.int .i64 o] (.bool (decide (0 ≤ o ∧ o < 4))) := by
  refine VFn.intro ok38 (Nat.le_of_ble_eq_true rfl) (vk_start ?_)
  rcases (by omega : o < 0 ∨ (0 ≤ o ∧ o < 4) ∨ 4 ≤ o) with h | h | h
  · rw [decide_eq_false (by omega)]
    simp (maxSteps := 4000000) (disch := omega) only [EW, Nat.reduceBEq, reduceIte, Nat.reduceAdd, Nat.reduceLeDiff, Nat.reduceLT, Nat.reduceSub, Nat.reduceMul, reduceCtorEq, Int.reduceNeg, Int.reduceSub, Int.reduceAdd, Int.reduceLE, Int.reduceLT, Int.reduceMul, Int.reduceToNat, Int.reduceEq, Int.reduceBEq, Int.reduceBNe, Nat.reduceEqDiff, vc38, rs38]
    exact fin rfl
  · rw [decide_eq_true h]
    simp (maxSteps := 4000000) (disch := omega) only [EW, Nat.reduceBEq, reduceIte, Nat.reduceAdd, Nat.reduceLeDiff, Nat.reduceLT, Nat.reduceSub, Nat.reduceMul, reduceCtorEq, Int.reduceNeg, Int.reduceSub, Int.reduceAdd, Int.reduceLE, Int.reduceLT, Int.reduceMul, Int.reduceToNat, Int.reduceEq, Int.reduceBEq, Int.reduceBNe, Nat.reduceEqDiff, vc38, rs38]
    exact fin rfl
  · rw [decide_eq_false (by omega)]
    simp (maxSteps := 4000000) (disch := omega) only [EW, Nat.reduceBEq, reduceIte, Nat.reduceAdd, Nat.reduceLeDiff, Nat.reduceLT, Nat.reduceSub, Nat.reduceMul, reduceCtorEq, Int.reduceNeg, Int.reduceSub, Int.reduceAdd, Int.reduceLE, Int.reduceLT, Int.reduceMul, Int.reduceToNat, Int.reduceEq, Int.reduceBEq, Int.reduceBNe, Nat.reduceEqDiff, vc38, rs38]
    exact fin rfl
theorem a_most (o : Nat) : VFn Try.prog 64 [.int .i64 o] (.int .i64 (mostI o)) := by
  refine VFn.intro ok64 (Nat.le_of_ble_eq_true rfl) (vk_start ?_)
  unfold mostI
  by_cases h : o = 0
  · subst h
    simp (maxSteps := 4000000) (disch := omega) only [EW, Nat.reduceBEq, reduceIte, Nat.reduceAdd, Nat.reduceLeDiff, Nat.reduceLT, Nat.reduceSub, Nat.reduceMul, reduceCtorEq, Int.reduceNeg, Int.reduceSub, Int.reduceAdd, Int.reduceLE, Int.reduceLT, Int.reduceMul, Int.reduceToNat, Int.reduceEq, Int.reduceBEq, Int.reduceBNe, Nat.reduceEqDiff, vc64, rs64]
    exact fin rfl
  · rw [if_neg h]
    simp (maxSteps := 4000000) (disch := omega) only [EW, Nat.reduceBEq, reduceIte, Nat.reduceAdd, Nat.reduceLeDiff, Nat.reduceLT, Nat.reduceSub, Nat.reduceMul, reduceCtorEq, Int.reduceNeg, Int.reduceSub, Int.reduceAdd, Int.reduceLE, Int.reduceLT, Int.reduceMul, Int.reduceToNat, Int.reduceEq, Int.reduceBEq, Int.reduceBNe, Nat.reduceEqDiff, vc64, rs64]
    exact fin rfl
theorem a_full (A : Ar) (o : Nat) (ho : o < 4) : VCall Try.prog 39 [.ptr 0 0, .int .i64 o] (aOb A) (.bool (fullB A o)) (aOb A) := by
  refine VCall.intro ok39 (Nat.le_of_ble_eq_true rfl) (vk_start ?_)
  have hm := a_most o
  obtain ⟨l, hl⟩ : ∃ l, A.l.get o = l := ⟨_, rfl⟩
  obtain ⟨u, hu⟩ : ∃ u, A.u.get o = u := ⟨_, rfl⟩
  unfold fullB
  rw [hl, hu]
  generalize mostI o = m at *
  obtain rfl | rfl | rfl | rfl : o = 0 ∨ o = 1 ∨ o = 2 ∨ o = 3 := by omega
  all_goals
    simp only [Q4r.get] at hl hu
    rcases Int.lt_or_le l m with h1 | h1
    · rw [decide_eq_false (p := m ≤ l) (by omega), Bool.false_or]
      rcases Int.lt_or_le u 1048575 with h2 | h2
      · rw [decide_eq_false (p := 1048575 ≤ u) (by omega)]
        simp (maxSteps := 4000000) (disch := omega) only [EW, Nat.reduceBEq, reduceIte, Nat.reduceAdd, Nat.reduceLeDiff, Nat.reduceLT, Nat.reduceSub, Nat.reduceMul, reduceCtorEq, Int.reduceNeg, Int.reduceSub, Int.reduceAdd, Int.reduceLE, Int.reduceLT, Int.reduceMul, Int.reduceToNat, Int.reduceEq, Int.reduceBEq, Int.reduceBNe, Nat.reduceEqDiff, vc39, rs39, aOb, aCells, hl, hu]
        (refine vk_callR rfl ⟨_, .inl rfl, hm⟩ ?_; simp (maxSteps := 4000000) (disch := omega) only [EW, Nat.reduceBEq, reduceIte, Nat.reduceAdd, Nat.reduceLeDiff, Nat.reduceLT, Nat.reduceSub, Nat.reduceMul, reduceCtorEq, Int.reduceNeg, Int.reduceSub, Int.reduceAdd, Int.reduceLE, Int.reduceLT, Int.reduceMul, Int.reduceToNat, Int.reduceEq, Int.reduceBEq, Int.reduceBNe, Nat.reduceEqDiff])
        exact ⟨_, rfl, ⟨[some 0, some 1], rfl, rfl, rfl, rfl, ⟨.same _ rfl, trivial⟩, ⟨⟨_, rfl, .box (.cons (.mapr rfl) (.cons (.same _ rfl) (.cons (.same _ rfl) (.cons (.same _ rfl) (.cons (.same _ rfl) (.cons (.same _ rfl) (.cons (.same _ rfl) (.cons (.same _ rfl) (.cons (.same _ rfl) .nil)))))))))⟩, ⟨⟨_, rfl, .map (SubE.refl _)⟩, trivial⟩⟩⟩⟩
      · rw [decide_eq_true (p := 1048575 ≤ u) (by omega)]
        simp (maxSteps := 4000000) (disch := omega) only [EW, Nat.reduceBEq, reduceIte, Nat.reduceAdd, Nat.reduceLeDiff, Nat.reduceLT, Nat.reduceSub, Nat.reduceMul, reduceCtorEq, Int.reduceNeg, Int.reduceSub, Int.reduceAdd, Int.reduceLE, Int.reduceLT, Int.reduceMul, Int.reduceToNat, Int.reduceEq, Int.reduceBEq, Int.reduceBNe, Nat.reduceEqDiff, vc39, rs39, aOb, aCells, hl, hu]
        (refine vk_callR rfl ⟨_, .inl rfl, hm⟩ ?_; simp (maxSteps := 4000000) (disch := omega) only [EW, Nat.reduceBEq, reduceIte, Nat.reduceAdd, Nat.reduceLeDiff, Nat.reduceLT, Nat.reduceSub, Nat.reduceMul, reduceCtorEq, Int.reduceNeg, Int.reduceSub, Int.reduceAdd, Int.reduceLE, Int.reduceLT, Int.reduceMul, Int.reduceToNat, Int.reduceEq, Int.reduceBEq, Int.reduceBNe, Nat.reduceEqDiff])
        exact ⟨_, rfl, ⟨[some 0, some 1], rfl, rfl, rfl, rfl, ⟨.same _ rfl, trivial⟩, ⟨⟨_, rfl, .box (.cons (.mapr rfl) (.cons (.same _ rfl) (.cons (.same _ rfl) (.cons (.same _ rfl) (.cons (.same _ rfl) (.cons (.same _ rfl) (.cons (.same _ rfl) (.cons (.same _ rfl) (.cons (.same _ rfl) .nil)))))))))⟩, ⟨⟨_, rfl, .map (SubE.refl _)⟩, trivial⟩⟩⟩⟩
    · rw [decide_eq_true (p := m ≤ l) h1, Bool.true_or]
      simp (maxSteps := 4000000) (disch := omega) only [EW, Nat.reduceBEq, reduceIte, Nat.reduceAdd, Nat.reduceLeDiff, Nat.reduceLT, Nat.reduceSub, Nat.reduceMul, reduceCtorEq, Int.reduceNeg, Int.reduceSub, Int.reduceAdd, Int.reduceLE, Int.reduceLT, Int.reduceMul, Int.reduceToNat, Int.reduceEq, Int.reduceBEq, Int.reduceBNe, Nat.reduceEqDiff, vc39, rs39, aOb, aCells, hl, hu]
      (refine vk_callR rfl ⟨_, .inl rfl, hm⟩ ?_; simp (maxSteps := 4000000) (disch := omega) only [EW, Nat.reduceBEq, reduceIte, Nat.reduceAdd, Nat.reduceLeDiff, Nat.reduceLT, Nat.reduceSub, Nat.reduceMul, reduceCtorEq, Int.reduceNeg, Int.reduceSub, Int.reduceAdd, Int.reduceLE, Int.reduceLT, Int.reduceMul, Int.reduceToNat, Int.reduceEq, Int.reduceBEq, Int.reduceBNe, Nat.reduceEqDiff])
      exact ⟨_, rfl, ⟨[some 0, some 1], rfl, rfl, rfl, rfl, ⟨.same _ rfl, trivial⟩, ⟨⟨_, rfl, .box (.cons (.mapr rfl) (.cons (.same _ rfl) (.cons (.same _ rfl) (.cons (.same _ rfl) (.cons (.same _ rfl) (.cons (.same _ rfl) (.cons (.same _ rfl) (.cons (.same _ rfl) (.cons (.same _ rfl) .nil)))))))))⟩, ⟨⟨_, rfl, .map (SubE.refl _)⟩, trivial⟩⟩⟩⟩
end Go.Proofs.VL

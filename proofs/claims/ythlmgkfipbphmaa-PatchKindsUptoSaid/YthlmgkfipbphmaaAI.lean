/- Contracts of functions of the program, for what calls them, and the law that its name tells. -/
import Derived.Test.YthlmgkfipbphmaaAH
import Derived.Test.YthlmgkfipbphmaaCglazierlaw19
namespace Go.Proofs.VL
open Go Go.RowKit
set_option maxRecDepth 100000
set_option maxHeartbeats 4000000
set_option linter.unusedSimpArgs false
set_option linter.unusedVariables false
attribute [local irreducible] vwp vk

/-- An arena that nobody made. -/
def nobV (p : V) : Prop := p = .nilp ∨ p = .iptr [.nilm, .int .i64 0, .int .i64 0, .int .i64 0, .int .i64 0, .int .i64 0, .int .i64 0, .int .i64 0, .int .i64 0]
theorem nob_is {p : V} (h : nobV p) : VFn Try.prog 37 [p] (.bool false) := by
  rcases h with rfl | rfl
  · exact a_is_nil
  · refine VFn.intro ok37 (Nat.le_of_ble_eq_true rfl) (vk_start ?_)
    simp (maxSteps := 4000000) (disch := omega) only [EW, Nat.reduceBEq, reduceIte, Nat.reduceAdd, Nat.reduceLeDiff, Nat.reduceLT, Nat.reduceSub, Nat.reduceMul, reduceCtorEq, Int.reduceNeg, Int.reduceSub, Int.reduceAdd, Int.reduceLE, Int.reduceLT, Int.reduceMul, Int.reduceToNat, Int.reduceEq, Int.reduceBEq, Int.reduceBNe, Nat.reduceEqDiff, vc37, rs37]
    exact fin rfl
theorem nob_lend {p : V} (h : nobV p) (ob : List (Option VObj)) : lendV ob p = some p := by
  rcases h with rfl | rfl <;> rfl
theorem nob_has {p : V} (h : nobV p) (id : Int) : VFn Try.prog 19 [p, .int .i64 id] (.bool false) := by
  refine VFn.intro ok19 (Nat.le_of_ble_eq_true rfl) (vk_start ?_)
  have h1 := nob_is h
  have hl : lendL [] [p] = some [p] := by simp only [lendL, nob_lend h]
  simp (maxSteps := 4000000) (disch := omega) only [EW, Nat.reduceBEq, reduceIte, Nat.reduceAdd, Nat.reduceLeDiff, Nat.reduceLT, Nat.reduceSub, Nat.reduceMul, reduceCtorEq, Int.reduceNeg, Int.reduceSub, Int.reduceAdd, Int.reduceLE, Int.reduceLT, Int.reduceMul, Int.reduceToNat, Int.reduceEq, Int.reduceBEq, Int.reduceBNe, Nat.reduceEqDiff, vc19, rs19]
  refine vk_callR rfl ⟨_, .inl hl, h1⟩ ?_
  simp (maxSteps := 4000000) (disch := omega) only [EW, Nat.reduceBEq, reduceIte, Nat.reduceAdd, Nat.reduceLeDiff, Nat.reduceLT, Nat.reduceSub, Nat.reduceMul, reduceCtorEq, Int.reduceNeg, Int.reduceSub, Int.reduceAdd, Int.reduceLE, Int.reduceLT, Int.reduceMul, Int.reduceToNat, Int.reduceEq, Int.reduceBEq, Int.reduceBNe, Nat.reduceEqDiff]
  exact fin rfl
theorem nob_live {p : V} (h : nobV p) (o : Int) : VFn Try.prog 20 [p, .int .i64 o] (.int .i64 0) := by
  refine VFn.intro ok20 (Nat.le_of_ble_eq_true rfl) (vk_start ?_)
  have h1 := nob_is h
  have hl : lendL [] [p] = some [p] := by simp only [lendL, nob_lend h]
  simp (maxSteps := 4000000) (disch := omega) only [EW, Nat.reduceBEq, reduceIte, Nat.reduceAdd, Nat.reduceLeDiff, Nat.reduceLT, Nat.reduceSub, Nat.reduceMul, reduceCtorEq, Int.reduceNeg, Int.reduceSub, Int.reduceAdd, Int.reduceLE, Int.reduceLT, Int.reduceMul, Int.reduceToNat, Int.reduceEq, Int.reduceBEq, Int.reduceBNe, Nat.reduceEqDiff, vc20, rs20]
  refine vk_callR rfl ⟨_, .inl hl, h1⟩ ?_
  simp (maxSteps := 4000000) (disch := omega) only [EW, Nat.reduceBEq, reduceIte, Nat.reduceAdd, Nat.reduceLeDiff, Nat.reduceLT, Nat.reduceSub, Nat.reduceMul, reduceCtorEq, Int.reduceNeg, Int.reduceSub, Int.reduceAdd, Int.reduceLE, Int.reduceLT, Int.reduceMul, Int.reduceToNat, Int.reduceEq, Int.reduceBEq, Int.reduceBNe, Nat.reduceEqDiff]
  exact fin rfl
theorem nob_used {p : V} (h : nobV p) (o : Int) : VFn Try.prog 21 [p, .int .i64 o] (.int .i64 0) := by
  refine VFn.intro ok21 (Nat.le_of_ble_eq_true rfl) (vk_start ?_)
  have h1 := nob_is h
  have hl : lendL [] [p] = some [p] := by simp only [lendL, nob_lend h]
  simp (maxSteps := 4000000) (disch := omega) only [EW, Nat.reduceBEq, reduceIte, Nat.reduceAdd, Nat.reduceLeDiff, Nat.reduceLT, Nat.reduceSub, Nat.reduceMul, reduceCtorEq, Int.reduceNeg, Int.reduceSub, Int.reduceAdd, Int.reduceLE, Int.reduceLT, Int.reduceMul, Int.reduceToNat, Int.reduceEq, Int.reduceBEq, Int.reduceBNe, Nat.reduceEqDiff, vc21, rs21]
  refine vk_callR rfl ⟨_, .inl hl, h1⟩ ?_
  simp (maxSteps := 4000000) (disch := omega) only [EW, Nat.reduceBEq, reduceIte, Nat.reduceAdd, Nat.reduceLeDiff, Nat.reduceLT, Nat.reduceSub, Nat.reduceMul, reduceCtorEq, Int.reduceNeg, Int.reduceSub, Int.reduceAdd, Int.reduceLE, Int.reduceLT, Int.reduceMul, Int.reduceToNat, Int.reduceEq, Int.reduceBEq, Int.reduceBNe, Nat.reduceEqDiff]
  exact fin rfl
theorem nob_next {p : V} (h : nobV p) (o : Int) : VFn Try.prog 12 [p, .int .i64 o] (.int .i64 0) := by
  refine VFn.intro ok12 (Nat.le_of_ble_eq_true rfl) (vk_start ?_)
  have h1 := nob_is h
  have hl : lendL [] [p] = some [p] := by simp only [lendL, nob_lend h]
  simp (maxSteps := 4000000) (disch := omega) only [EW, Nat.reduceBEq, reduceIte, Nat.reduceAdd, Nat.reduceLeDiff, Nat.reduceLT, Nat.reduceSub, Nat.reduceMul, reduceCtorEq, Int.reduceNeg, Int.reduceSub, Int.reduceAdd, Int.reduceLE, Int.reduceLT, Int.reduceMul, Int.reduceToNat, Int.reduceEq, Int.reduceBEq, Int.reduceBNe, Nat.reduceEqDiff, vc12, rs12]
  refine vk_callR rfl ⟨_, .inl hl, h1⟩ ?_
  simp (maxSteps := 4000000) (disch := omega) only [EW, Nat.reduceBEq, reduceIte, Nat.reduceAdd, Nat.reduceLeDiff, Nat.reduceLT, Nat.reduceSub, Nat.reduceMul, reduceCtorEq, Int.reduceNeg, Int.reduceSub, Int.reduceAdd, Int.reduceLE, Int.reduceLT, Int.reduceMul, Int.reduceToNat, Int.reduceEq, Int.reduceBEq, Int.reduceBNe, Nat.reduceEqDiff]
  exact fin rfl
theorem nob_free {p : V} (h : nobV p) (id : Int) : VFn Try.prog 18 [p, .int .i64 id] (.int .i64 0) := by
  refine VFn.intro ok18 (Nat.le_of_ble_eq_true rfl) (vk_start ?_)
  have h1 := nob_has h id
  have hl : lendL [] [p, .int .i64 id] = some [p, .int .i64 id] := by simp only [lendL, nob_lend h, lendV]
  simp (maxSteps := 4000000) (disch := omega) only [EW, Nat.reduceBEq, reduceIte, Nat.reduceAdd, Nat.reduceLeDiff, Nat.reduceLT, Nat.reduceSub, Nat.reduceMul, reduceCtorEq, Int.reduceNeg, Int.reduceSub, Int.reduceAdd, Int.reduceLE, Int.reduceLT, Int.reduceMul, Int.reduceToNat, Int.reduceEq, Int.reduceBEq, Int.reduceBNe, Nat.reduceEqDiff, vc18, rs18]
  refine vk_callR rfl ⟨_, .inl hl, h1⟩ ?_
  simp (maxSteps := 4000000) (disch := omega) only [EW, Nat.reduceBEq, reduceIte, Nat.reduceAdd, Nat.reduceLeDiff, Nat.reduceLT, Nat.reduceSub, Nat.reduceMul, reduceCtorEq, Int.reduceNeg, Int.reduceSub, Int.reduceAdd, Int.reduceLE, Int.reduceLT, Int.reduceMul, Int.reduceToNat, Int.reduceEq, Int.reduceBEq, Int.reduceBNe, Nat.reduceEqDiff]
  exact fin rfl
theorem nob_clone {p : V} (h : nobV p) : VFn Try.prog 15 [p] .nilp := by
  refine VFn.intro ok15 (Nat.le_of_ble_eq_true rfl) (vk_start ?_)
  have h1 := nob_is h
  have hl : lendL [] [p] = some [p] := by simp only [lendL, nob_lend h]
  simp (maxSteps := 4000000) (disch := omega) only [EW, Nat.reduceBEq, reduceIte, Nat.reduceAdd, Nat.reduceLeDiff, Nat.reduceLT, Nat.reduceSub, Nat.reduceMul, reduceCtorEq, Int.reduceNeg, Int.reduceSub, Int.reduceAdd, Int.reduceLE, Int.reduceLT, Int.reduceMul, Int.reduceToNat, Int.reduceEq, Int.reduceBEq, Int.reduceBNe, Nat.reduceEqDiff, vc15, rs15]
  refine vk_callR rfl ⟨_, .inl hl, h1⟩ ?_
  simp (maxSteps := 4000000) (disch := omega) only [EW, Nat.reduceBEq, reduceIte, Nat.reduceAdd, Nat.reduceLeDiff, Nat.reduceLT, Nat.reduceSub, Nat.reduceMul, reduceCtorEq, Int.reduceNeg, Int.reduceSub, Int.reduceAdd, Int.reduceLE, Int.reduceLT, Int.reduceMul, Int.reduceToNat, Int.reduceEq, Int.reduceBEq, Int.reduceBNe, Nat.reduceEqDiff]
  exact fin rfl
theorem nob_get {p : V} (h : nobV p) (id : Int) : VFn Try.prog 16 [p, .int .i64 id] (.tup [.agg (nCells zNd), .bool false]) := by
  refine VFn.intro ok16 (Nat.le_of_ble_eq_true rfl) (vk_start ?_)
  have h1 := nob_has h id
  have hl : lendL [] [p, .int .i64 id] = some [p, .int .i64 id] := by simp only [lendL, nob_lend h, lendV]
  simp (maxSteps := 4000000) (disch := omega) only [EW, Nat.reduceBEq, reduceIte, Nat.reduceAdd, Nat.reduceLeDiff, Nat.reduceLT, Nat.reduceSub, Nat.reduceMul, reduceCtorEq, Int.reduceNeg, Int.reduceSub, Int.reduceAdd, Int.reduceLE, Int.reduceLT, Int.reduceMul, Int.reduceToNat, Int.reduceEq, Int.reduceBEq, Int.reduceBNe, Nat.reduceEqDiff, vc16, rs16]
  refine vk_callR rfl ⟨_, .inl hl, h1⟩ ?_
  simp (maxSteps := 4000000) (disch := omega) only [EW, Nat.reduceBEq, reduceIte, Nat.reduceAdd, Nat.reduceLeDiff, Nat.reduceLT, Nat.reduceSub, Nat.reduceMul, reduceCtorEq, Int.reduceNeg, Int.reduceSub, Int.reduceAdd, Int.reduceLE, Int.reduceLT, Int.reduceMul, Int.reduceToNat, Int.reduceEq, Int.reduceBEq, Int.reduceBNe, Nat.reduceEqDiff]
  exact ⟨_, _, rfl, rfl, .tup (.cons (.agg (.cons (.refl _) (.cons (.refl _) (.cons (.refl _) (.cons (.refl _) (.cons (.refl _) (.cons (.nil _) (.cons (.refl _) (.cons (.refl _) (.cons (.nil _) (.cons (.nil _) (.cons (.nil _) (.cons (.refl _) (.cons (.nil _) .nil)))))))))))))) (.cons (.refl _) .nil))⟩
theorem nob_set {p : V} (h : nobV p) (cs : List V) (hlen : cs.length = 13) (hc : cs.all VO.evW.isCell = true) : VFn Try.prog 17 [p, .agg cs] (.int .i64 9) := by
  refine VFn.intro ok17 (Nat.le_of_ble_eq_true rfl) (vk_start ?_)
  have h1 := nob_is h
  have hl : ∀ ob, lendL ob [p] = some [p] := fun ob => by simp only [lendL, nob_lend h]
  simp (maxSteps := 4000000) (disch := omega) only [EW, Nat.reduceBEq, reduceIte, Nat.reduceAdd, Nat.reduceLeDiff, Nat.reduceLT, Nat.reduceSub, Nat.reduceMul, reduceCtorEq, Int.reduceNeg, Int.reduceSub, Int.reduceAdd, Int.reduceLE, Int.reduceLT, Int.reduceMul, Int.reduceToNat, Int.reduceEq, Int.reduceBEq, Int.reduceBNe, Nat.reduceEqDiff, vc17, rs17]
  refine vk_callR rfl ⟨_, .inl (hl _), h1⟩ ?_
  simp (maxSteps := 4000000) (disch := omega) only [EW, Nat.reduceBEq, reduceIte, Nat.reduceAdd, Nat.reduceLeDiff, Nat.reduceLT, Nat.reduceSub, Nat.reduceMul, reduceCtorEq, Int.reduceNeg, Int.reduceSub, Int.reduceAdd, Int.reduceLE, Int.reduceLT, Int.reduceMul, Int.reduceToNat, Int.reduceEq, Int.reduceBEq, Int.reduceBNe, Nat.reduceEqDiff]
  exact fin rfl
theorem nob_make {p : V} (h : nobV p) (o k : Int) (tag : V) (key : List UInt8) (slot : Int) (t0 t1 : V) (ht : tag = .agg [t0, t1]) (hc : VO.evW.isCell t0 = true ∧ VO.evW.isCell t1 = true) : VFn Try.prog 13 [p, .int .i64 o, .int .i64 k, tag, .str key, .int .i64 slot] (.tup [.int .i64 0, .int .i64 9]) := by
  subst ht
  refine VFn.intro ok13 (Nat.le_of_ble_eq_true rfl) (vk_start ?_)
  have h1 := nob_is h
  have hl : ∀ ob, lendL ob [p] = some [p] := fun ob => by simp only [lendL, nob_lend h]
  simp (maxSteps := 4000000) (disch := omega) only [EW, Nat.reduceBEq, reduceIte, Nat.reduceAdd, Nat.reduceLeDiff, Nat.reduceLT, Nat.reduceSub, Nat.reduceMul, reduceCtorEq, Int.reduceNeg, Int.reduceSub, Int.reduceAdd, Int.reduceLE, Int.reduceLT, Int.reduceMul, Int.reduceToNat, Int.reduceEq, Int.reduceBEq, Int.reduceBNe, Nat.reduceEqDiff, vc13, rs13]
  refine vk_callR rfl ⟨_, .inl (hl _), h1⟩ ?_
  simp (maxSteps := 4000000) (disch := omega) only [EW, Nat.reduceBEq, reduceIte, Nat.reduceAdd, Nat.reduceLeDiff, Nat.reduceLT, Nat.reduceSub, Nat.reduceMul, reduceCtorEq, Int.reduceNeg, Int.reduceSub, Int.reduceAdd, Int.reduceLE, Int.reduceLT, Int.reduceMul, Int.reduceToNat, Int.reduceEq, Int.reduceBEq, Int.reduceBNe, Nat.reduceEqDiff]
  exact fin rfl
end Go.Proofs.VL

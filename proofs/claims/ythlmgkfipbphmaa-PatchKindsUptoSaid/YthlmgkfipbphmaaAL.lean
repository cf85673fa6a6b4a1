/- Contracts of functions of the program, for what calls them, and the law that its name tells. -/
import Derived.Test.YthlmgkfipbphmaaAK
namespace Go.Proofs.VL
open Go Go.RowKit
set_option maxRecDepth 100000
set_option maxHeartbeats 8000000
set_option linter.unusedSimpArgs false
set_option linter.unusedVariables false
attribute [local irreducible] vwp vk

theorem a_ownKS (b e : Nat) (n : Nd) (hb : b ≤ 1000000000) (h : n.ok b) : VCall Try.prog 44 [.agg (nCellsK n (.ref 0 n.kids.length))] [some (.arr e 1 (iRows n.kids))] (.agg (nCells (ownN n))) [some (.arr e 1 (iRows n.kids))] := by
  refine VCall.less (a_ownK b e n hb h) ?_
  have e1 : n.kids.length = (iRows n.kids).length := (iRows_length _).symm
  exact ⟨[some 0], rfl, rfl, rfl, rfl, ⟨.agg (.cons (.same _ rfl) (.cons (.same _ rfl) (.cons (.same _ rfl) (.cons (.same _ rfl) (.cons (.same _ rfl) (.cons (.same _ rfl) (.cons (.same _ rfl) (.cons (.same _ rfl) (.cons (.same _ rfl) (.cons (.same _ rfl) (.cons ((.lentA rfl e1)) (.cons (.same _ rfl) (.cons (.same _ rfl) .nil))))))))))))), trivial⟩, ⟨⟨_, rfl, .arr (.refl _)⟩, trivial⟩⟩
theorem own_at (b e : Nat) (n : Nd) (hb : b ≤ 1000000000) (h : n.ok b) (B : List (Option VObj)) (k : Nat) (h0 : B[k]? = some (some (.arr e 1 (iRows n.kids)))) : VCall Try.prog 44 [.agg (nCellsK n (.ref k n.kids.length))] B (.agg (nCells (ownN n))) B := by
  have hw : wfL 0 (nCells (ownN n)) = true := by simp only [nCells, wfL, wfV, Bool.and_self]
  have hf := VCall.frame (a_ownKS b e n hb h) [k] B ⟨rfl, by simp, fun i j hj => by
    match i, hj with
    | 0, hj => simp at hj; subst hj; exact ⟨getElem?_lt h0, fun o' ho => by simp at ho; subst ho; exact h0⟩
    | i + 1, hj => simp at hj⟩ (by simp only [nCellsK, wfL, wfV, List.length_singleton, Bool.and_self, Bool.and_true, Bool.true_and, decide_true, Nat.lt_one_iff]) rfl (by simp only [nCells, wfL, wfV, Bool.and_self]) rfl (Nat.le_refl 1)
  have e2 : putObs (nameOf [k] B.length) B [k] [some (.arr e 1 (iRows n.kids))] = B := by
    simp [putObs, renO, nameOf, set_same h0]
  rw [e2] at hf
  simpa [renL, renV, nameOf, nCellsK, nCells] using hf
/-- Set, the kids being in memory of the caller's own. -/
theorem a_setK (A : Ar) (n : Nd) (b e : Nat) (hb : b ≤ 1000000000) (hn : n.ok b) : VCall Try.prog 17 [.ptr 0 0, .agg (nCellsK n (.ref 2 n.kids.length))] (aOb A ++ [some (.arr e 1 (iRows n.kids))]) (.int .i64 (setA A n).2) (aOb (setA A n).1 ++ [some (.arr e 1 (iRows n.kids))]) := by
  refine VCall.intro ok17 (Nat.le_of_ble_eq_true rfl) (vk_start ?_)
  have h1 := a_rd (B := [some (.box (aCells 1 A)), some (.map (mV A.es) A.clock), some (.arr e 1 (iRows n.kids)), some (.box (nCellsK n (.ref 2 n.kids.length)))]) (k0 := 0) (k1 := 1) (a_is A) rfl rfl rfl rfl (by decide)
  have hm := mfind_mV n.id A.es
  have ho := own_at b e n hb hn
  unfold setA
  cases hg : getN A.es n.id with
  | none =>
    rw [hg] at hm
    simp only [Option.map_none] at hm
    simp (maxSteps := 4000000) (disch := omega) only [EW, Nat.reduceBEq, reduceIte, Nat.reduceAdd, Nat.reduceLeDiff, Nat.reduceLT, Nat.reduceSub, Nat.reduceMul, reduceCtorEq, Int.reduceNeg, Int.reduceSub, Int.reduceAdd, Int.reduceLE, Int.reduceLT, Int.reduceMul, Int.reduceToNat, Int.reduceEq, Int.reduceBEq, Int.reduceBNe, Nat.reduceEqDiff, vc17, rs17, aOb]
    refine vk_call rfl h1 ?_
    simp (maxSteps := 4000000) (disch := omega) only [EW, Nat.reduceBEq, reduceIte, Nat.reduceAdd, Nat.reduceLeDiff, Nat.reduceLT, Nat.reduceSub, Nat.reduceMul, reduceCtorEq, Int.reduceNeg, Int.reduceSub, Int.reduceAdd, Int.reduceLE, Int.reduceLT, Int.reduceMul, Int.reduceToNat, Int.reduceEq, Int.reduceBEq, Int.reduceBNe, Nat.reduceEqDiff, aCells, nCellsK, hm]
    exact ⟨_, rfl, ⟨[some 0, some 1, some 2], rfl, rfl, rfl, rfl, ⟨.same _ rfl, trivial⟩, ⟨⟨_, rfl, .box (.cons (.mapr rfl) (.cons (.same _ rfl) (.cons (.same _ rfl) (.cons (.same _ rfl) (.cons (.same _ rfl) (.cons (.same _ rfl) (.cons (.same _ rfl) (.cons (.same _ rfl) (.cons (.same _ rfl) .nil)))))))))⟩, ⟨⟨_, rfl, .map (SubE.refl _)⟩, ⟨⟨_, rfl, .arr (.refl _)⟩, trivial⟩⟩⟩⟩⟩
  | some x =>
    rw [hg] at hm
    simp only [Option.map_some] at hm
    have hxi := getN_id hg
    have hms := mset_mV { x with attrs := n.attrs.map fixA, hooks := n.hooks, kids := n.kids, text := fixR n.text, parent := n.parent } A.es
    simp only [nCells] at hms hm
    simp only [hxi] at hms
    have hkl : (iRows n.kids).take n.kids.length = iRows n.kids := List.take_of_length_le (by rw [iRows_length]; exact Nat.le_refl _)
    have hkn := iRows_length n.kids
    simp only [nCellsK, nCells] at ho
    simp (maxSteps := 4000000) (disch := omega) only [EW, Nat.reduceBEq, reduceIte, Nat.reduceAdd, Nat.reduceLeDiff, Nat.reduceLT, Nat.reduceSub, Nat.reduceMul, reduceCtorEq, Int.reduceNeg, Int.reduceSub, Int.reduceAdd, Int.reduceLE, Int.reduceLT, Int.reduceMul, Int.reduceToNat, Int.reduceEq, Int.reduceBEq, Int.reduceBNe, Nat.reduceEqDiff, vc17, rs17, aOb]
    refine vk_call rfl h1 ?_
    simp (maxSteps := 4000000) (disch := omega) only [EW, Nat.reduceBEq, reduceIte, Nat.reduceAdd, Nat.reduceLeDiff, Nat.reduceLT, Nat.reduceSub, Nat.reduceMul, reduceCtorEq, Int.reduceNeg, Int.reduceSub, Int.reduceAdd, Int.reduceLE, Int.reduceLT, Int.reduceMul, Int.reduceToNat, Int.reduceEq, Int.reduceBEq, Int.reduceBNe, Nat.reduceEqDiff, aCells, nCellsK, hm]
    refine vk_call rfl (ho _ 2 rfl) ?_
    simp (maxSteps := 4000000) (disch := omega) only [EW, Nat.reduceBEq, reduceIte, Nat.reduceAdd, Nat.reduceLeDiff, Nat.reduceLT, Nat.reduceSub, Nat.reduceMul, reduceCtorEq, Int.reduceNeg, Int.reduceSub, Int.reduceAdd, Int.reduceLE, Int.reduceLT, Int.reduceMul, Int.reduceToNat, Int.reduceEq, Int.reduceBEq, Int.reduceBNe, Nat.reduceEqDiff, ownN, hm, hxi, hms, hkl, hkn]
    exact ⟨_, rfl, ⟨[some 0, some 1, some 2], rfl, rfl, rfl, rfl, ⟨.same _ rfl, trivial⟩, ⟨⟨_, rfl, .box (.cons (.mapr rfl) (.cons (.same _ rfl) (.cons (.same _ rfl) (.cons (.same _ rfl) (.cons (.same _ rfl) (.cons (.same _ rfl) (.cons (.same _ rfl) (.cons (.same _ rfl) (.cons (.same _ rfl) .nil)))))))))⟩, ⟨⟨_, rfl, .map (SubE.refl _)⟩, ⟨⟨_, rfl, .arr (.refl _)⟩, trivial⟩⟩⟩⟩⟩
end Go.Proofs.VL

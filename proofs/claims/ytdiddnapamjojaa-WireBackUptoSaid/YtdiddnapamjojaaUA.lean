/- Contracts of functions of the program, for what calls them, and the law that its name tells. -/
import Derived.Test.YtdiddnapamjojaaTV
import Derived.Test.YtdiddnapamjojaaTZ
import Derived.Test.YtdiddnapamjojaaTS
namespace Go.Proofs.VL
open Go Go.RowKit
set_option maxRecDepth 100000
set_option maxHeartbeats 2000000
set_option linter.unusedSimpArgs false
set_option linter.unusedVariables false
attribute [local irreducible] vwp vk

def p48 : Pat := { op := 2, node := 5, parent := 0, at_ := 0, kind := 0, tag := ([], []), key := [], slot := 0, name := ([], []), value := ([], []), hooks := [], text := ([], []) }
def b48 : List UInt8 := [2, 0, 0, 0, 5] ++ List.replicate 56 0
theorem put48 : putB [p48] = (b48, 0) := by decide +kernel
theorem read48 : (readB b48).2 = 0 ∧ ((readB b48).1.map fun p => p.node) = [5] := by decide +kernel

theorem alive48 : VFn Try.prog 48 [] (.bool true) := by
  refine VFn.intro ok48 (Nat.le_of_ble_eq_true rfl) (vk_start ?_)
  have hp := wire_put [p48] (by decide) (fun p hp => by simp at hp; subst hp; exact ⟨by decide, by decide, by decide⟩) (by decide +kernel)
  rw [put48] at hp
  have hp' : VFn Try.prog 49 [.sl 16 [[.int .i64 2, .int .i64 5, .int .i64 0, .int .i64 0, .int .i64 0, .str [], .nils, .str [], .int .i64 0, .str [], .nils, .str [], .nils, .nils, .str [], .nils]]] (.tup [.sl 1 (bRows b48), .int .i64 0]) := by
    refine hp.sub ?_ (.refl _)
    show SubL _ [.sl 16 [pCells p48]]
    simp only [p48, pCells, rws, hRows]
    (repeat' first | exact Sub.refl _ | exact Sub.nil _ | exact SubL.nil | exact SubR.nil | apply SubL.cons | apply SubR.cons | apply Sub.sl | apply Sub.agg)
  have hr := wire_read b48 (by decide)
  obtain ⟨h1, h2⟩ := read48
  obtain ⟨q, hq, hqn⟩ : ∃ q, (readB b48).1 = [q] ∧ q.node = 5 := by
    generalize (readB b48).1 = l at h2
    rcases l with - | ⟨q, - | ⟨q2, r⟩⟩
    · simp at h2
    · exact ⟨q, rfl, by simpa using h2⟩
    · simp at h2
  rw [h1, hq] at hr
  have hl : b48.length = 61 := by decide
  have hbl := bRows_length b48
  generalize b48 = bb at *
  have hr' : VFn Try.prog 50 [.sl 1 (bRows bb)] (.tup [.sl 16 [pCells q], .int .i64 0]) := hr
  simp (maxSteps := 4000000) (disch := omega) only [EW, Nat.reduceBEq, reduceIte, Nat.reduceAdd, Nat.reduceLeDiff, Nat.reduceLT, Nat.reduceSub, Nat.reduceMul, reduceCtorEq, Int.reduceNeg, Int.reduceSub, Int.reduceAdd, Int.reduceLE, Int.reduceLT, Int.reduceMul, Int.reduceToNat, Int.reduceEq, Int.reduceBEq, Int.reduceBNe, Nat.reduceEqDiff, vc48, rs48]
  (refine vk_callR rfl ⟨_, .inl rfl, hp'⟩ ?_; simp (maxSteps := 4000000) (disch := omega) only [EW, Nat.reduceBEq, reduceIte, Nat.reduceAdd, Nat.reduceLeDiff, Nat.reduceLT, Nat.reduceSub, Nat.reduceMul, reduceCtorEq, Int.reduceNeg, Int.reduceSub, Int.reduceAdd, Int.reduceLE, Int.reduceLT, Int.reduceMul, Int.reduceToNat, Int.reduceEq, Int.reduceBEq, Int.reduceBNe, Nat.reduceEqDiff])
  (refine vk_callR rfl ⟨_, .inl rfl, hr'⟩ ?_; simp (maxSteps := 4000000) (disch := omega) only [EW, Nat.reduceBEq, reduceIte, Nat.reduceAdd, Nat.reduceLeDiff, Nat.reduceLT, Nat.reduceSub, Nat.reduceMul, reduceCtorEq, Int.reduceNeg, Int.reduceSub, Int.reduceAdd, Int.reduceLE, Int.reduceLT, Int.reduceMul, Int.reduceToNat, Int.reduceEq, Int.reduceBEq, Int.reduceBNe, Nat.reduceEqDiff, hbl, hl, PCp, hqn])
  exact fin rfl
end Go.Proofs.VL

/- Contracts of functions of the program, for what calls them, and the law that its name tells. -/
import Derived.Test.YtdiddnapamjojaaSW
namespace Go.Proofs.VL
open Go Go.RowKit
set_option maxRecDepth 100000
set_option maxHeartbeats 2000000
set_option linter.unusedSimpArgs false
set_option linter.unusedVariables false
attribute [local irreducible] vwp vk

def hasP (t p : List UInt8) : Bool := t.take p.length == p

theorem has_prefix (t p : List UInt8) : VFn Try.prog 160 [.str t, .str p] (.bool (hasP t p)) := by
  refine VFn.intro ok160 (Nat.le_of_ble_eq_true rfl) (vk_start ?_)
  by_cases h : p.length ≤ t.length
  · have c1 : ((p.length : Int) ≤ (t.length : Int)) = True := eq_true (by omega)
    have c0 : (0 ≤ (p.length : Int)) = True := by simp
    simp only [vc160, rs160, wrap64, EV0, e_condB, Nat.reduceBEq, reduceIte, Nat.reduceAdd, Nat.reduceLeDiff, Nat.reduceLT, Nat.reduceSub, Nat.reduceMul, reduceCtorEq, Int.reduceNeg, Int.reduceSub, Int.reduceAdd, Int.reduceLE, Int.reduceLT, Int.reduceMul, Int.reduceToNat, Int.reduceEq, Int.reduceBEq, Int.reduceBNe, Nat.reduceEqDiff, c0, c1]
    exact ⟨_, _, rfl, rfl, .refl _⟩
  · have c1 : ((p.length : Int) ≤ (t.length : Int)) = False := eq_false (by omega)
    have e : hasP t p = false := by
      unfold hasP
      simp only [beq_eq_false_iff_ne]
      intro e
      have := congrArg List.length e
      rw [List.length_take] at this
      omega
    rw [e]
    simp only [vc160, rs160, wrap64, EV0, e_condB, Nat.reduceBEq, reduceIte, Nat.reduceAdd, Nat.reduceLeDiff, Nat.reduceLT, Nat.reduceSub, Nat.reduceMul, reduceCtorEq, Int.reduceNeg, Int.reduceSub, Int.reduceAdd, Int.reduceLE, Int.reduceLT, Int.reduceMul, Int.reduceToNat, Int.reduceEq, Int.reduceBEq, Int.reduceBNe, Nat.reduceEqDiff, c1]
    exact ⟨_, _, rfl, rfl, .refl _⟩

theorem lite_cut (t p : List UInt8) : VFn Try.prog 142 [.str t, .str p] (if hasP t p = true then .tup [.str (t.drop p.length), .bool true] else .tup [.str t, .bool false]) := by
  refine VFn.intro ok142 (Nat.le_of_ble_eq_true rfl) (vk_start ?_)
  simp only [vc142, rs142, wrap64, EV0, e_condB, Nat.reduceBEq, reduceIte, Nat.reduceAdd, Nat.reduceLeDiff, Nat.reduceLT, Nat.reduceSub, Nat.reduceMul, reduceCtorEq, Int.reduceNeg, Int.reduceSub, Int.reduceAdd, Int.reduceLE, Int.reduceLT, Int.reduceMul, Int.reduceToNat, Int.reduceEq, Int.reduceBEq, Int.reduceBNe, Nat.reduceEqDiff]
  refine vk_call rfl (CallR.call ⟨_, .inl rfl, has_prefix t p⟩) ?_
  cases h : hasP t p with
  | true =>
    have hl : p.length ≤ t.length := by
      unfold hasP at h
      have := congrArg List.length (eq_of_beq h)
      rw [List.length_take] at this
      omega
    have c1 : ((p.length : Int) ≤ (t.length : Int)) = True := eq_true (by omega)
    have c0 : (0 ≤ (p.length : Int)) = True := by simp
    simp only [wrap64, EV0, e_condB, Nat.reduceBEq, reduceIte, Nat.reduceAdd, Nat.reduceLeDiff, Nat.reduceLT, Nat.reduceSub, Nat.reduceMul, reduceCtorEq, Int.reduceNeg, Int.reduceSub, Int.reduceAdd, Int.reduceLE, Int.reduceLT, Int.reduceMul, Int.reduceToNat, Int.reduceEq, Int.reduceBEq, Int.reduceBNe, Nat.reduceEqDiff, c0, c1, List.take_length]
    exact ⟨_, _, rfl, rfl, .refl _⟩
  | false =>
    simp only [wrap64, EV0, e_condB, Nat.reduceBEq, reduceIte, Nat.reduceAdd, Nat.reduceLeDiff, Nat.reduceLT, Nat.reduceSub, Nat.reduceMul, reduceCtorEq, Int.reduceNeg, Int.reduceSub, Int.reduceAdd, Int.reduceLE, Int.reduceLT, Int.reduceMul, Int.reduceToNat, Int.reduceEq, Int.reduceBEq, Int.reduceBNe, Nat.reduceEqDiff]
    exact ⟨_, _, rfl, rfl, .refl _⟩

theorem cut_prefix (t p : List UInt8) : VFn Try.prog 132 [.str t, .str p] (if hasP t p = true then .tup [.str (t.drop p.length), .bool true] else .tup [.str t, .bool false]) := by
  refine VFn.intro ok132 (Nat.le_of_ble_eq_true rfl) (vk_start ?_)
  have hl := lite_cut t p
  simp only [vc132, rs132, wrap64, EV0, e_condB, Nat.reduceBEq, reduceIte, Nat.reduceAdd, Nat.reduceLeDiff, Nat.reduceLT, Nat.reduceSub, Nat.reduceMul, reduceCtorEq, Int.reduceNeg, Int.reduceSub, Int.reduceAdd, Int.reduceLE, Int.reduceLT, Int.reduceMul, Int.reduceToNat, Int.reduceEq, Int.reduceBEq, Int.reduceBNe, Nat.reduceEqDiff]
  refine vk_call rfl (CallR.call ⟨_, .inl rfl, hl⟩) ?_
  cases h : hasP t p with
  | true =>
    simp only [wrap64, EV0, e_condB, Nat.reduceBEq, reduceIte, Nat.reduceAdd, Nat.reduceLeDiff, Nat.reduceLT, Nat.reduceSub, Nat.reduceMul, reduceCtorEq, Int.reduceNeg, Int.reduceSub, Int.reduceAdd, Int.reduceLE, Int.reduceLT, Int.reduceMul, Int.reduceToNat, Int.reduceEq, Int.reduceBEq, Int.reduceBNe, Nat.reduceEqDiff]
    exact ⟨_, _, rfl, rfl, .refl _⟩
  | false =>
    simp only [wrap64, EV0, e_condB, Nat.reduceBEq, reduceIte, Nat.reduceAdd, Nat.reduceLeDiff, Nat.reduceLT, Nat.reduceSub, Nat.reduceMul, reduceCtorEq, Int.reduceNeg, Int.reduceSub, Int.reduceAdd, Int.reduceLE, Int.reduceLT, Int.reduceMul, Int.reduceToNat, Int.reduceEq, Int.reduceBEq, Int.reduceBNe, Nat.reduceEqDiff]
    exact ⟨_, _, rfl, rfl, .refl _⟩
end Go.Proofs.VL

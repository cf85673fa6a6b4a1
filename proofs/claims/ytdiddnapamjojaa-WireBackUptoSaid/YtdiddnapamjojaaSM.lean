/- Contracts of functions of the program, for what calls them, and the law that its name tells. -/
import Derived.Test.YtdiddnapamjojaaSL
import Derived.Test.YtdiddnapamjojaaV2
namespace Go.Proofs.VL
open Go Go.RowKit
set_option maxRecDepth 100000
set_option maxHeartbeats 2000000
set_option linter.unusedSimpArgs false
set_option linter.unusedVariables false

theorem u_lead {c : Nat} (hc : c < 256) : VFn Try.prog 121 [.int .u8 c] (.int .i64 (leadN c)) := by
  refine VFn.intro ok121 (Nat.le_of_ble_eq_true rfl) (vk_start ?_)
  have hr : (0 ≤ c ∧ c ≤ 127) ∨ (128 ≤ c ∧ c ≤ 193) ∨ (194 ≤ c ∧ c ≤ 223) ∨ (224 ≤ c ∧ c ≤ 239) ∨ (240 ≤ c ∧ c ≤ 244) ∨ (245 ≤ c ∧ c ≤ 255) := by omega
  rcases hr with hr | hr | hr | hr | hr | hr
  · have a0 : ((c : Int) < 128) = True := eq_true (by omega)
    have a1 : ((194 : Int) ≤ (c : Int)) = False := eq_false (by omega)
    have a2 : ((c : Int) < 224) = True := eq_true (by omega)
    have a3 : ((224 : Int) ≤ (c : Int)) = False := eq_false (by omega)
    have a4 : ((c : Int) < 240) = True := eq_true (by omega)
    have a5 : ((240 : Int) ≤ (c : Int)) = False := eq_false (by omega)
    have a6 : ((c : Int) < 245) = True := eq_true (by omega)
    have e0 : leadN c = 0 := by unfold leadN; (repeat' split) <;> omega
    rw [e0]
    simp only [vc121, rs121, wrap64, EV0, e_condB, Nat.reduceBEq, reduceIte, Nat.reduceAdd, Nat.reduceLeDiff, Nat.reduceLT, Nat.reduceSub, Nat.reduceMul, reduceCtorEq, Int.reduceNeg, Int.reduceSub, Int.reduceAdd, Int.reduceLE, Int.reduceLT, Int.reduceMul, Int.reduceToNat, Int.reduceEq, Int.reduceBEq, Int.reduceBNe, Nat.reduceEqDiff, a0, a1, a2, a3, a4, a5, a6]
    exact ⟨_, _, rfl, rfl, .refl _⟩
  · have a0 : ((c : Int) < 128) = False := eq_false (by omega)
    have a1 : ((194 : Int) ≤ (c : Int)) = False := eq_false (by omega)
    have a2 : ((c : Int) < 224) = True := eq_true (by omega)
    have a3 : ((224 : Int) ≤ (c : Int)) = False := eq_false (by omega)
    have a4 : ((c : Int) < 240) = True := eq_true (by omega)
    have a5 : ((240 : Int) ≤ (c : Int)) = False := eq_false (by omega)
    have a6 : ((c : Int) < 245) = True := eq_true (by omega)
    have e0 : leadN c = -1 := by unfold leadN; (repeat' split) <;> omega
    rw [e0]
    simp only [vc121, rs121, wrap64, EV0, e_condB, Nat.reduceBEq, reduceIte, Nat.reduceAdd, Nat.reduceLeDiff, Nat.reduceLT, Nat.reduceSub, Nat.reduceMul, reduceCtorEq, Int.reduceNeg, Int.reduceSub, Int.reduceAdd, Int.reduceLE, Int.reduceLT, Int.reduceMul, Int.reduceToNat, Int.reduceEq, Int.reduceBEq, Int.reduceBNe, Nat.reduceEqDiff, a0, a1, a2, a3, a4, a5, a6]
    exact ⟨_, _, rfl, rfl, .refl _⟩
  · have a0 : ((c : Int) < 128) = False := eq_false (by omega)
    have a1 : ((194 : Int) ≤ (c : Int)) = True := eq_true (by omega)
    have a2 : ((c : Int) < 224) = True := eq_true (by omega)
    have a3 : ((224 : Int) ≤ (c : Int)) = False := eq_false (by omega)
    have a4 : ((c : Int) < 240) = True := eq_true (by omega)
    have a5 : ((240 : Int) ≤ (c : Int)) = False := eq_false (by omega)
    have a6 : ((c : Int) < 245) = True := eq_true (by omega)
    have e0 : leadN c = 1 := by unfold leadN; (repeat' split) <;> omega
    rw [e0]
    simp only [vc121, rs121, wrap64, EV0, e_condB, Nat.reduceBEq, reduceIte, Nat.reduceAdd, Nat.reduceLeDiff, Nat.reduceLT, Nat.reduceSub, Nat.reduceMul, reduceCtorEq, Int.reduceNeg, Int.reduceSub, Int.reduceAdd, Int.reduceLE, Int.reduceLT, Int.reduceMul, Int.reduceToNat, Int.reduceEq, Int.reduceBEq, Int.reduceBNe, Nat.reduceEqDiff, a0, a1, a2, a3, a4, a5, a6]
    exact ⟨_, _, rfl, rfl, .refl _⟩
  · have a0 : ((c : Int) < 128) = False := eq_false (by omega)
    have a1 : ((194 : Int) ≤ (c : Int)) = True := eq_true (by omega)
    have a2 : ((c : Int) < 224) = False := eq_false (by omega)
    have a3 : ((224 : Int) ≤ (c : Int)) = True := eq_true (by omega)
    have a4 : ((c : Int) < 240) = True := eq_true (by omega)
    have a5 : ((240 : Int) ≤ (c : Int)) = False := eq_false (by omega)
    have a6 : ((c : Int) < 245) = True := eq_true (by omega)
    have e0 : leadN c = 2 := by unfold leadN; (repeat' split) <;> omega
    rw [e0]
    simp only [vc121, rs121, wrap64, EV0, e_condB, Nat.reduceBEq, reduceIte, Nat.reduceAdd, Nat.reduceLeDiff, Nat.reduceLT, Nat.reduceSub, Nat.reduceMul, reduceCtorEq, Int.reduceNeg, Int.reduceSub, Int.reduceAdd, Int.reduceLE, Int.reduceLT, Int.reduceMul, Int.reduceToNat, Int.reduceEq, Int.reduceBEq, Int.reduceBNe, Nat.reduceEqDiff, a0, a1, a2, a3, a4, a5, a6]
    exact ⟨_, _, rfl, rfl, .refl _⟩
  · have a0 : ((c : Int) < 128) = False := eq_false (by omega)
    have a1 : ((194 : Int) ≤ (c : Int)) = True := eq_true (by omega)
    have a2 : ((c : Int) < 224) = False := eq_false (by omega)
    have a3 : ((224 : Int) ≤ (c : Int)) = True := eq_true (by omega)
    have a4 : ((c : Int) < 240) = False := eq_false (by omega)
    have a5 : ((240 : Int) ≤ (c : Int)) = True := eq_true (by omega)
    have a6 : ((c : Int) < 245) = True := eq_true (by omega)
    have e0 : leadN c = 3 := by unfold leadN; (repeat' split) <;> omega
    rw [e0]
    simp only [vc121, rs121, wrap64, EV0, e_condB, Nat.reduceBEq, reduceIte, Nat.reduceAdd, Nat.reduceLeDiff, Nat.reduceLT, Nat.reduceSub, Nat.reduceMul, reduceCtorEq, Int.reduceNeg, Int.reduceSub, Int.reduceAdd, Int.reduceLE, Int.reduceLT, Int.reduceMul, Int.reduceToNat, Int.reduceEq, Int.reduceBEq, Int.reduceBNe, Nat.reduceEqDiff, a0, a1, a2, a3, a4, a5, a6]
    exact ⟨_, _, rfl, rfl, .refl _⟩
  · have a0 : ((c : Int) < 128) = False := eq_false (by omega)
    have a1 : ((194 : Int) ≤ (c : Int)) = True := eq_true (by omega)
    have a2 : ((c : Int) < 224) = False := eq_false (by omega)
    have a3 : ((224 : Int) ≤ (c : Int)) = True := eq_true (by omega)
    have a4 : ((c : Int) < 240) = False := eq_false (by omega)
    have a5 : ((240 : Int) ≤ (c : Int)) = True := eq_true (by omega)
    have a6 : ((c : Int) < 245) = False := eq_false (by omega)
    have e0 : leadN c = -1 := by unfold leadN; (repeat' split) <;> omega
    rw [e0]
    simp only [vc121, rs121, wrap64, EV0, e_condB, Nat.reduceBEq, reduceIte, Nat.reduceAdd, Nat.reduceLeDiff, Nat.reduceLT, Nat.reduceSub, Nat.reduceMul, reduceCtorEq, Int.reduceNeg, Int.reduceSub, Int.reduceAdd, Int.reduceLE, Int.reduceLT, Int.reduceMul, Int.reduceToNat, Int.reduceEq, Int.reduceBEq, Int.reduceBNe, Nat.reduceEqDiff, a0, a1, a2, a3, a4, a5, a6]
    exact ⟨_, _, rfl, rfl, .refl _⟩

theorem u_second {c : Nat} (hc : c < 256) : VFn Try.prog 122 [.int .u8 c] (.tup [.int .u8 (secA c), .int .u8 (secB c)]) := by
  refine VFn.intro ok122 (Nat.le_of_ble_eq_true rfl) (vk_start ?_)
  have hr : (0 ≤ c ∧ c ≤ 223) ∨ (224 ≤ c ∧ c ≤ 224) ∨ (225 ≤ c ∧ c ≤ 236) ∨ (237 ≤ c ∧ c ≤ 237) ∨ (238 ≤ c ∧ c ≤ 239) ∨ (240 ≤ c ∧ c ≤ 240) ∨ (241 ≤ c ∧ c ≤ 243) ∨ (244 ≤ c ∧ c ≤ 244) ∨ (245 ≤ c ∧ c ≤ 255) := by omega
  rcases hr with hr | hr | hr | hr | hr | hr | hr | hr | hr
  · have a0 : ((c : Int) == 224) = false := by simp; omega
    have a1 : ((c : Int) == 237) = false := by simp; omega
    have a2 : ((c : Int) == 240) = false := by simp; omega
    have a3 : ((c : Int) == 244) = false := by simp; omega
    have e0 : secA c = 128 := by unfold secA; (repeat' split) <;> omega
    have e1 : secB c = 191 := by unfold secB; (repeat' split) <;> omega
    rw [e0, e1]
    simp only [vc122, rs122, wrap64, EV0, e_condB, Nat.reduceBEq, reduceIte, Nat.reduceAdd, Nat.reduceLeDiff, Nat.reduceLT, Nat.reduceSub, Nat.reduceMul, reduceCtorEq, Int.reduceNeg, Int.reduceSub, Int.reduceAdd, Int.reduceLE, Int.reduceLT, Int.reduceMul, Int.reduceToNat, Int.reduceEq, Int.reduceBEq, Int.reduceBNe, Nat.reduceEqDiff, a0, a1, a2, a3]
    exact ⟨_, _, rfl, rfl, .refl _⟩
  · have a0 : ((c : Int) == 224) = true := by simp; omega
    have a1 : ((c : Int) == 237) = false := by simp; omega
    have a2 : ((c : Int) == 240) = false := by simp; omega
    have a3 : ((c : Int) == 244) = false := by simp; omega
    have e0 : secA c = 160 := by unfold secA; (repeat' split) <;> omega
    have e1 : secB c = 191 := by unfold secB; (repeat' split) <;> omega
    rw [e0, e1]
    simp only [vc122, rs122, wrap64, EV0, e_condB, Nat.reduceBEq, reduceIte, Nat.reduceAdd, Nat.reduceLeDiff, Nat.reduceLT, Nat.reduceSub, Nat.reduceMul, reduceCtorEq, Int.reduceNeg, Int.reduceSub, Int.reduceAdd, Int.reduceLE, Int.reduceLT, Int.reduceMul, Int.reduceToNat, Int.reduceEq, Int.reduceBEq, Int.reduceBNe, Nat.reduceEqDiff, a0, a1, a2, a3]
    exact ⟨_, _, rfl, rfl, .refl _⟩
  · have a0 : ((c : Int) == 224) = false := by simp; omega
    have a1 : ((c : Int) == 237) = false := by simp; omega
    have a2 : ((c : Int) == 240) = false := by simp; omega
    have a3 : ((c : Int) == 244) = false := by simp; omega
    have e0 : secA c = 128 := by unfold secA; (repeat' split) <;> omega
    have e1 : secB c = 191 := by unfold secB; (repeat' split) <;> omega
    rw [e0, e1]
    simp only [vc122, rs122, wrap64, EV0, e_condB, Nat.reduceBEq, reduceIte, Nat.reduceAdd, Nat.reduceLeDiff, Nat.reduceLT, Nat.reduceSub, Nat.reduceMul, reduceCtorEq, Int.reduceNeg, Int.reduceSub, Int.reduceAdd, Int.reduceLE, Int.reduceLT, Int.reduceMul, Int.reduceToNat, Int.reduceEq, Int.reduceBEq, Int.reduceBNe, Nat.reduceEqDiff, a0, a1, a2, a3]
    exact ⟨_, _, rfl, rfl, .refl _⟩
  · have a0 : ((c : Int) == 224) = false := by simp; omega
    have a1 : ((c : Int) == 237) = true := by simp; omega
    have a2 : ((c : Int) == 240) = false := by simp; omega
    have a3 : ((c : Int) == 244) = false := by simp; omega
    have e0 : secA c = 128 := by unfold secA; (repeat' split) <;> omega
    have e1 : secB c = 159 := by unfold secB; (repeat' split) <;> omega
    rw [e0, e1]
    simp only [vc122, rs122, wrap64, EV0, e_condB, Nat.reduceBEq, reduceIte, Nat.reduceAdd, Nat.reduceLeDiff, Nat.reduceLT, Nat.reduceSub, Nat.reduceMul, reduceCtorEq, Int.reduceNeg, Int.reduceSub, Int.reduceAdd, Int.reduceLE, Int.reduceLT, Int.reduceMul, Int.reduceToNat, Int.reduceEq, Int.reduceBEq, Int.reduceBNe, Nat.reduceEqDiff, a0, a1, a2, a3]
    exact ⟨_, _, rfl, rfl, .refl _⟩
  · have a0 : ((c : Int) == 224) = false := by simp; omega
    have a1 : ((c : Int) == 237) = false := by simp; omega
    have a2 : ((c : Int) == 240) = false := by simp; omega
    have a3 : ((c : Int) == 244) = false := by simp; omega
    have e0 : secA c = 128 := by unfold secA; (repeat' split) <;> omega
    have e1 : secB c = 191 := by unfold secB; (repeat' split) <;> omega
    rw [e0, e1]
    simp only [vc122, rs122, wrap64, EV0, e_condB, Nat.reduceBEq, reduceIte, Nat.reduceAdd, Nat.reduceLeDiff, Nat.reduceLT, Nat.reduceSub, Nat.reduceMul, reduceCtorEq, Int.reduceNeg, Int.reduceSub, Int.reduceAdd, Int.reduceLE, Int.reduceLT, Int.reduceMul, Int.reduceToNat, Int.reduceEq, Int.reduceBEq, Int.reduceBNe, Nat.reduceEqDiff, a0, a1, a2, a3]
    exact ⟨_, _, rfl, rfl, .refl _⟩
  · have a0 : ((c : Int) == 224) = false := by simp; omega
    have a1 : ((c : Int) == 237) = false := by simp; omega
    have a2 : ((c : Int) == 240) = true := by simp; omega
    have a3 : ((c : Int) == 244) = false := by simp; omega
    have e0 : secA c = 144 := by unfold secA; (repeat' split) <;> omega
    have e1 : secB c = 191 := by unfold secB; (repeat' split) <;> omega
    rw [e0, e1]
    simp only [vc122, rs122, wrap64, EV0, e_condB, Nat.reduceBEq, reduceIte, Nat.reduceAdd, Nat.reduceLeDiff, Nat.reduceLT, Nat.reduceSub, Nat.reduceMul, reduceCtorEq, Int.reduceNeg, Int.reduceSub, Int.reduceAdd, Int.reduceLE, Int.reduceLT, Int.reduceMul, Int.reduceToNat, Int.reduceEq, Int.reduceBEq, Int.reduceBNe, Nat.reduceEqDiff, a0, a1, a2, a3]
    exact ⟨_, _, rfl, rfl, .refl _⟩
  · have a0 : ((c : Int) == 224) = false := by simp; omega
    have a1 : ((c : Int) == 237) = false := by simp; omega
    have a2 : ((c : Int) == 240) = false := by simp; omega
    have a3 : ((c : Int) == 244) = false := by simp; omega
    have e0 : secA c = 128 := by unfold secA; (repeat' split) <;> omega
    have e1 : secB c = 191 := by unfold secB; (repeat' split) <;> omega
    rw [e0, e1]
    simp only [vc122, rs122, wrap64, EV0, e_condB, Nat.reduceBEq, reduceIte, Nat.reduceAdd, Nat.reduceLeDiff, Nat.reduceLT, Nat.reduceSub, Nat.reduceMul, reduceCtorEq, Int.reduceNeg, Int.reduceSub, Int.reduceAdd, Int.reduceLE, Int.reduceLT, Int.reduceMul, Int.reduceToNat, Int.reduceEq, Int.reduceBEq, Int.reduceBNe, Nat.reduceEqDiff, a0, a1, a2, a3]
    exact ⟨_, _, rfl, rfl, .refl _⟩
  · have a0 : ((c : Int) == 224) = false := by simp; omega
    have a1 : ((c : Int) == 237) = false := by simp; omega
    have a2 : ((c : Int) == 240) = false := by simp; omega
    have a3 : ((c : Int) == 244) = true := by simp; omega
    have e0 : secA c = 128 := by unfold secA; (repeat' split) <;> omega
    have e1 : secB c = 143 := by unfold secB; (repeat' split) <;> omega
    rw [e0, e1]
    simp only [vc122, rs122, wrap64, EV0, e_condB, Nat.reduceBEq, reduceIte, Nat.reduceAdd, Nat.reduceLeDiff, Nat.reduceLT, Nat.reduceSub, Nat.reduceMul, reduceCtorEq, Int.reduceNeg, Int.reduceSub, Int.reduceAdd, Int.reduceLE, Int.reduceLT, Int.reduceMul, Int.reduceToNat, Int.reduceEq, Int.reduceBEq, Int.reduceBNe, Nat.reduceEqDiff, a0, a1, a2, a3]
    exact ⟨_, _, rfl, rfl, .refl _⟩
  · have a0 : ((c : Int) == 224) = false := by simp; omega
    have a1 : ((c : Int) == 237) = false := by simp; omega
    have a2 : ((c : Int) == 240) = false := by simp; omega
    have a3 : ((c : Int) == 244) = false := by simp; omega
    have e0 : secA c = 128 := by unfold secA; (repeat' split) <;> omega
    have e1 : secB c = 191 := by unfold secB; (repeat' split) <;> omega
    rw [e0, e1]
    simp only [vc122, rs122, wrap64, EV0, e_condB, Nat.reduceBEq, reduceIte, Nat.reduceAdd, Nat.reduceLeDiff, Nat.reduceLT, Nat.reduceSub, Nat.reduceMul, reduceCtorEq, Int.reduceNeg, Int.reduceSub, Int.reduceAdd, Int.reduceLE, Int.reduceLT, Int.reduceMul, Int.reduceToNat, Int.reduceEq, Int.reduceBEq, Int.reduceBNe, Nat.reduceEqDiff, a0, a1, a2, a3]
    exact ⟨_, _, rfl, rfl, .refl _⟩

theorem u_lead3 {c : Nat} (hc : c < 256) : VFn Try.prog 168 [.int .u8 c] (.tup [.int .i64 (leadN c), .int .u8 (secA c), .int .u8 (secB c)]) := by
  refine VFn.intro ok168 (Nat.le_of_ble_eq_true rfl) (vk_start ?_)
  have hr : (0 ≤ c ∧ c ≤ 127) ∨ (128 ≤ c ∧ c ≤ 193) ∨ (194 ≤ c ∧ c ≤ 223) ∨ (224 ≤ c ∧ c ≤ 224) ∨ (225 ≤ c ∧ c ≤ 236) ∨ (237 ≤ c ∧ c ≤ 237) ∨ (238 ≤ c ∧ c ≤ 239) ∨ (240 ≤ c ∧ c ≤ 240) ∨ (241 ≤ c ∧ c ≤ 243) ∨ (244 ≤ c ∧ c ≤ 244) ∨ (245 ≤ c ∧ c ≤ 255) := by omega
  rcases hr with hr | hr | hr | hr | hr | hr | hr | hr | hr | hr | hr
  · have a0 : ((c : Int) < 128) = True := eq_true (by omega)
    have a1 : ((194 : Int) ≤ (c : Int)) = False := eq_false (by omega)
    have a2 : ((c : Int) ≤ 223) = True := eq_true (by omega)
    have a3 : ((c : Int) == 224) = false := by simp; omega
    have a4 : ((c : Int) == 237) = false := by simp; omega
    have a5 : ((225 : Int) ≤ (c : Int)) = False := eq_false (by omega)
    have a6 : ((c : Int) ≤ 239) = True := eq_true (by omega)
    have a7 : ((c : Int) == 240) = false := by simp; omega
    have a8 : ((241 : Int) ≤ (c : Int)) = False := eq_false (by omega)
    have a9 : ((c : Int) ≤ 243) = True := eq_true (by omega)
    have a10 : ((c : Int) == 244) = false := by simp; omega
    have e0 : leadN c = 0 := by unfold leadN; (repeat' split) <;> omega
    have e1 : secA c = 128 := by unfold secA; (repeat' split) <;> omega
    have e2 : secB c = 191 := by unfold secB; (repeat' split) <;> omega
    rw [e0, e1, e2]
    simp only [vc168, rs168, wrap64, EV0, e_condB, Nat.reduceBEq, reduceIte, Nat.reduceAdd, Nat.reduceLeDiff, Nat.reduceLT, Nat.reduceSub, Nat.reduceMul, reduceCtorEq, Int.reduceNeg, Int.reduceSub, Int.reduceAdd, Int.reduceLE, Int.reduceLT, Int.reduceMul, Int.reduceToNat, Int.reduceEq, Int.reduceBEq, Int.reduceBNe, Nat.reduceEqDiff, a0, a1, a2, a3, a4, a5, a6, a7, a8, a9, a10]
    exact ⟨_, _, rfl, rfl, .refl _⟩
  · have a0 : ((c : Int) < 128) = False := eq_false (by omega)
    have a1 : ((194 : Int) ≤ (c : Int)) = False := eq_false (by omega)
    have a2 : ((c : Int) ≤ 223) = True := eq_true (by omega)
    have a3 : ((c : Int) == 224) = false := by simp; omega
    have a4 : ((c : Int) == 237) = false := by simp; omega
    have a5 : ((225 : Int) ≤ (c : Int)) = False := eq_false (by omega)
    have a6 : ((c : Int) ≤ 239) = True := eq_true (by omega)
    have a7 : ((c : Int) == 240) = false := by simp; omega
    have a8 : ((241 : Int) ≤ (c : Int)) = False := eq_false (by omega)
    have a9 : ((c : Int) ≤ 243) = True := eq_true (by omega)
    have a10 : ((c : Int) == 244) = false := by simp; omega
    have e0 : leadN c = -1 := by unfold leadN; (repeat' split) <;> omega
    have e1 : secA c = 128 := by unfold secA; (repeat' split) <;> omega
    have e2 : secB c = 191 := by unfold secB; (repeat' split) <;> omega
    rw [e0, e1, e2]
    simp only [vc168, rs168, wrap64, EV0, e_condB, Nat.reduceBEq, reduceIte, Nat.reduceAdd, Nat.reduceLeDiff, Nat.reduceLT, Nat.reduceSub, Nat.reduceMul, reduceCtorEq, Int.reduceNeg, Int.reduceSub, Int.reduceAdd, Int.reduceLE, Int.reduceLT, Int.reduceMul, Int.reduceToNat, Int.reduceEq, Int.reduceBEq, Int.reduceBNe, Nat.reduceEqDiff, a0, a1, a2, a3, a4, a5, a6, a7, a8, a9, a10]
    exact ⟨_, _, rfl, rfl, .refl _⟩
  · have a0 : ((c : Int) < 128) = False := eq_false (by omega)
    have a1 : ((194 : Int) ≤ (c : Int)) = True := eq_true (by omega)
    have a2 : ((c : Int) ≤ 223) = True := eq_true (by omega)
    have a3 : ((c : Int) == 224) = false := by simp; omega
    have a4 : ((c : Int) == 237) = false := by simp; omega
    have a5 : ((225 : Int) ≤ (c : Int)) = False := eq_false (by omega)
    have a6 : ((c : Int) ≤ 239) = True := eq_true (by omega)
    have a7 : ((c : Int) == 240) = false := by simp; omega
    have a8 : ((241 : Int) ≤ (c : Int)) = False := eq_false (by omega)
    have a9 : ((c : Int) ≤ 243) = True := eq_true (by omega)
    have a10 : ((c : Int) == 244) = false := by simp; omega
    have e0 : leadN c = 1 := by unfold leadN; (repeat' split) <;> omega
    have e1 : secA c = 128 := by unfold secA; (repeat' split) <;> omega
    have e2 : secB c = 191 := by unfold secB; (repeat' split) <;> omega
    rw [e0, e1, e2]
    simp only [vc168, rs168, wrap64, EV0, e_condB, Nat.reduceBEq, reduceIte, Nat.reduceAdd, Nat.reduceLeDiff, Nat.reduceLT, Nat.reduceSub, Nat.reduceMul, reduceCtorEq, Int.reduceNeg, Int.reduceSub, Int.reduceAdd, Int.reduceLE, Int.reduceLT, Int.reduceMul, Int.reduceToNat, Int.reduceEq, Int.reduceBEq, Int.reduceBNe, Nat.reduceEqDiff, a0, a1, a2, a3, a4, a5, a6, a7, a8, a9, a10]
    exact ⟨_, _, rfl, rfl, .refl _⟩
  · have a0 : ((c : Int) < 128) = False := eq_false (by omega)
    have a1 : ((194 : Int) ≤ (c : Int)) = True := eq_true (by omega)
    have a2 : ((c : Int) ≤ 223) = False := eq_false (by omega)
    have a3 : ((c : Int) == 224) = true := by simp; omega
    have a4 : ((c : Int) == 237) = false := by simp; omega
    have a5 : ((225 : Int) ≤ (c : Int)) = False := eq_false (by omega)
    have a6 : ((c : Int) ≤ 239) = True := eq_true (by omega)
    have a7 : ((c : Int) == 240) = false := by simp; omega
    have a8 : ((241 : Int) ≤ (c : Int)) = False := eq_false (by omega)
    have a9 : ((c : Int) ≤ 243) = True := eq_true (by omega)
    have a10 : ((c : Int) == 244) = false := by simp; omega
    have e0 : leadN c = 2 := by unfold leadN; (repeat' split) <;> omega
    have e1 : secA c = 160 := by unfold secA; (repeat' split) <;> omega
    have e2 : secB c = 191 := by unfold secB; (repeat' split) <;> omega
    rw [e0, e1, e2]
    simp only [vc168, rs168, wrap64, EV0, e_condB, Nat.reduceBEq, reduceIte, Nat.reduceAdd, Nat.reduceLeDiff, Nat.reduceLT, Nat.reduceSub, Nat.reduceMul, reduceCtorEq, Int.reduceNeg, Int.reduceSub, Int.reduceAdd, Int.reduceLE, Int.reduceLT, Int.reduceMul, Int.reduceToNat, Int.reduceEq, Int.reduceBEq, Int.reduceBNe, Nat.reduceEqDiff, a0, a1, a2, a3, a4, a5, a6, a7, a8, a9, a10]
    exact ⟨_, _, rfl, rfl, .refl _⟩
  · have a0 : ((c : Int) < 128) = False := eq_false (by omega)
    have a1 : ((194 : Int) ≤ (c : Int)) = True := eq_true (by omega)
    have a2 : ((c : Int) ≤ 223) = False := eq_false (by omega)
    have a3 : ((c : Int) == 224) = false := by simp; omega
    have a4 : ((c : Int) == 237) = false := by simp; omega
    have a5 : ((225 : Int) ≤ (c : Int)) = True := eq_true (by omega)
    have a6 : ((c : Int) ≤ 239) = True := eq_true (by omega)
    have a7 : ((c : Int) == 240) = false := by simp; omega
    have a8 : ((241 : Int) ≤ (c : Int)) = False := eq_false (by omega)
    have a9 : ((c : Int) ≤ 243) = True := eq_true (by omega)
    have a10 : ((c : Int) == 244) = false := by simp; omega
    have e0 : leadN c = 2 := by unfold leadN; (repeat' split) <;> omega
    have e1 : secA c = 128 := by unfold secA; (repeat' split) <;> omega
    have e2 : secB c = 191 := by unfold secB; (repeat' split) <;> omega
    rw [e0, e1, e2]
    simp only [vc168, rs168, wrap64, EV0, e_condB, Nat.reduceBEq, reduceIte, Nat.reduceAdd, Nat.reduceLeDiff, Nat.reduceLT, Nat.reduceSub, Nat.reduceMul, reduceCtorEq, Int.reduceNeg, Int.reduceSub, Int.reduceAdd, Int.reduceLE, Int.reduceLT, Int.reduceMul, Int.reduceToNat, Int.reduceEq, Int.reduceBEq, Int.reduceBNe, Nat.reduceEqDiff, a0, a1, a2, a3, a4, a5, a6, a7, a8, a9, a10]
    exact ⟨_, _, rfl, rfl, .refl _⟩
  · have a0 : ((c : Int) < 128) = False := eq_false (by omega)
    have a1 : ((194 : Int) ≤ (c : Int)) = True := eq_true (by omega)
    have a2 : ((c : Int) ≤ 223) = False := eq_false (by omega)
    have a3 : ((c : Int) == 224) = false := by simp; omega
    have a4 : ((c : Int) == 237) = true := by simp; omega
    have a5 : ((225 : Int) ≤ (c : Int)) = True := eq_true (by omega)
    have a6 : ((c : Int) ≤ 239) = True := eq_true (by omega)
    have a7 : ((c : Int) == 240) = false := by simp; omega
    have a8 : ((241 : Int) ≤ (c : Int)) = False := eq_false (by omega)
    have a9 : ((c : Int) ≤ 243) = True := eq_true (by omega)
    have a10 : ((c : Int) == 244) = false := by simp; omega
    have e0 : leadN c = 2 := by unfold leadN; (repeat' split) <;> omega
    have e1 : secA c = 128 := by unfold secA; (repeat' split) <;> omega
    have e2 : secB c = 159 := by unfold secB; (repeat' split) <;> omega
    rw [e0, e1, e2]
    simp only [vc168, rs168, wrap64, EV0, e_condB, Nat.reduceBEq, reduceIte, Nat.reduceAdd, Nat.reduceLeDiff, Nat.reduceLT, Nat.reduceSub, Nat.reduceMul, reduceCtorEq, Int.reduceNeg, Int.reduceSub, Int.reduceAdd, Int.reduceLE, Int.reduceLT, Int.reduceMul, Int.reduceToNat, Int.reduceEq, Int.reduceBEq, Int.reduceBNe, Nat.reduceEqDiff, a0, a1, a2, a3, a4, a5, a6, a7, a8, a9, a10]
    exact ⟨_, _, rfl, rfl, .refl _⟩
  · have a0 : ((c : Int) < 128) = False := eq_false (by omega)
    have a1 : ((194 : Int) ≤ (c : Int)) = True := eq_true (by omega)
    have a2 : ((c : Int) ≤ 223) = False := eq_false (by omega)
    have a3 : ((c : Int) == 224) = false := by simp; omega
    have a4 : ((c : Int) == 237) = false := by simp; omega
    have a5 : ((225 : Int) ≤ (c : Int)) = True := eq_true (by omega)
    have a6 : ((c : Int) ≤ 239) = True := eq_true (by omega)
    have a7 : ((c : Int) == 240) = false := by simp; omega
    have a8 : ((241 : Int) ≤ (c : Int)) = False := eq_false (by omega)
    have a9 : ((c : Int) ≤ 243) = True := eq_true (by omega)
    have a10 : ((c : Int) == 244) = false := by simp; omega
    have e0 : leadN c = 2 := by unfold leadN; (repeat' split) <;> omega
    have e1 : secA c = 128 := by unfold secA; (repeat' split) <;> omega
    have e2 : secB c = 191 := by unfold secB; (repeat' split) <;> omega
    rw [e0, e1, e2]
    simp only [vc168, rs168, wrap64, EV0, e_condB, Nat.reduceBEq, reduceIte, Nat.reduceAdd, Nat.reduceLeDiff, Nat.reduceLT, Nat.reduceSub, Nat.reduceMul, reduceCtorEq, Int.reduceNeg, Int.reduceSub, Int.reduceAdd, Int.reduceLE, Int.reduceLT, Int.reduceMul, Int.reduceToNat, Int.reduceEq, Int.reduceBEq, Int.reduceBNe, Nat.reduceEqDiff, a0, a1, a2, a3, a4, a5, a6, a7, a8, a9, a10]
    exact ⟨_, _, rfl, rfl, .refl _⟩
  · have a0 : ((c : Int) < 128) = False := eq_false (by omega)
    have a1 : ((194 : Int) ≤ (c : Int)) = True := eq_true (by omega)
    have a2 : ((c : Int) ≤ 223) = False := eq_false (by omega)
    have a3 : ((c : Int) == 224) = false := by simp; omega
    have a4 : ((c : Int) == 237) = false := by simp; omega
    have a5 : ((225 : Int) ≤ (c : Int)) = True := eq_true (by omega)
    have a6 : ((c : Int) ≤ 239) = False := eq_false (by omega)
    have a7 : ((c : Int) == 240) = true := by simp; omega
    have a8 : ((241 : Int) ≤ (c : Int)) = False := eq_false (by omega)
    have a9 : ((c : Int) ≤ 243) = True := eq_true (by omega)
    have a10 : ((c : Int) == 244) = false := by simp; omega
    have e0 : leadN c = 3 := by unfold leadN; (repeat' split) <;> omega
    have e1 : secA c = 144 := by unfold secA; (repeat' split) <;> omega
    have e2 : secB c = 191 := by unfold secB; (repeat' split) <;> omega
    rw [e0, e1, e2]
    simp only [vc168, rs168, wrap64, EV0, e_condB, Nat.reduceBEq, reduceIte, Nat.reduceAdd, Nat.reduceLeDiff, Nat.reduceLT, Nat.reduceSub, Nat.reduceMul, reduceCtorEq, Int.reduceNeg, Int.reduceSub, Int.reduceAdd, Int.reduceLE, Int.reduceLT, Int.reduceMul, Int.reduceToNat, Int.reduceEq, Int.reduceBEq, Int.reduceBNe, Nat.reduceEqDiff, a0, a1, a2, a3, a4, a5, a6, a7, a8, a9, a10]
    exact ⟨_, _, rfl, rfl, .refl _⟩
  · have a0 : ((c : Int) < 128) = False := eq_false (by omega)
    have a1 : ((194 : Int) ≤ (c : Int)) = True := eq_true (by omega)
    have a2 : ((c : Int) ≤ 223) = False := eq_false (by omega)
    have a3 : ((c : Int) == 224) = false := by simp; omega
    have a4 : ((c : Int) == 237) = false := by simp; omega
    have a5 : ((225 : Int) ≤ (c : Int)) = True := eq_true (by omega)
    have a6 : ((c : Int) ≤ 239) = False := eq_false (by omega)
    have a7 : ((c : Int) == 240) = false := by simp; omega
    have a8 : ((241 : Int) ≤ (c : Int)) = True := eq_true (by omega)
    have a9 : ((c : Int) ≤ 243) = True := eq_true (by omega)
    have a10 : ((c : Int) == 244) = false := by simp; omega
    have e0 : leadN c = 3 := by unfold leadN; (repeat' split) <;> omega
    have e1 : secA c = 128 := by unfold secA; (repeat' split) <;> omega
    have e2 : secB c = 191 := by unfold secB; (repeat' split) <;> omega
    rw [e0, e1, e2]
    simp only [vc168, rs168, wrap64, EV0, e_condB, Nat.reduceBEq, reduceIte, Nat.reduceAdd, Nat.reduceLeDiff, Nat.reduceLT, Nat.reduceSub, Nat.reduceMul, reduceCtorEq, Int.reduceNeg, Int.reduceSub, Int.reduceAdd, Int.reduceLE, Int.reduceLT, Int.reduceMul, Int.reduceToNat, Int.reduceEq, Int.reduceBEq, Int.reduceBNe, Nat.reduceEqDiff, a0, a1, a2, a3, a4, a5, a6, a7, a8, a9, a10]
    exact ⟨_, _, rfl, rfl, .refl _⟩
  · have a0 : ((c : Int) < 128) = False := eq_false (by omega)
    have a1 : ((194 : Int) ≤ (c : Int)) = True := eq_true (by omega)
    have a2 : ((c : Int) ≤ 223) = False := eq_false (by omega)
    have a3 : ((c : Int) == 224) = false := by simp; omega
    have a4 : ((c : Int) == 237) = false := by simp; omega
    have a5 : ((225 : Int) ≤ (c : Int)) = True := eq_true (by omega)
    have a6 : ((c : Int) ≤ 239) = False := eq_false (by omega)
    have a7 : ((c : Int) == 240) = false := by simp; omega
    have a8 : ((241 : Int) ≤ (c : Int)) = True := eq_true (by omega)
    have a9 : ((c : Int) ≤ 243) = False := eq_false (by omega)
    have a10 : ((c : Int) == 244) = true := by simp; omega
    have e0 : leadN c = 3 := by unfold leadN; (repeat' split) <;> omega
    have e1 : secA c = 128 := by unfold secA; (repeat' split) <;> omega
    have e2 : secB c = 143 := by unfold secB; (repeat' split) <;> omega
    rw [e0, e1, e2]
    simp only [vc168, rs168, wrap64, EV0, e_condB, Nat.reduceBEq, reduceIte, Nat.reduceAdd, Nat.reduceLeDiff, Nat.reduceLT, Nat.reduceSub, Nat.reduceMul, reduceCtorEq, Int.reduceNeg, Int.reduceSub, Int.reduceAdd, Int.reduceLE, Int.reduceLT, Int.reduceMul, Int.reduceToNat, Int.reduceEq, Int.reduceBEq, Int.reduceBNe, Nat.reduceEqDiff, a0, a1, a2, a3, a4, a5, a6, a7, a8, a9, a10]
    exact ⟨_, _, rfl, rfl, .refl _⟩
  · have a0 : ((c : Int) < 128) = False := eq_false (by omega)
    have a1 : ((194 : Int) ≤ (c : Int)) = True := eq_true (by omega)
    have a2 : ((c : Int) ≤ 223) = False := eq_false (by omega)
    have a3 : ((c : Int) == 224) = false := by simp; omega
    have a4 : ((c : Int) == 237) = false := by simp; omega
    have a5 : ((225 : Int) ≤ (c : Int)) = True := eq_true (by omega)
    have a6 : ((c : Int) ≤ 239) = False := eq_false (by omega)
    have a7 : ((c : Int) == 240) = false := by simp; omega
    have a8 : ((241 : Int) ≤ (c : Int)) = True := eq_true (by omega)
    have a9 : ((c : Int) ≤ 243) = False := eq_false (by omega)
    have a10 : ((c : Int) == 244) = false := by simp; omega
    have e0 : leadN c = -1 := by unfold leadN; (repeat' split) <;> omega
    have e1 : secA c = 128 := by unfold secA; (repeat' split) <;> omega
    have e2 : secB c = 191 := by unfold secB; (repeat' split) <;> omega
    rw [e0, e1, e2]
    simp only [vc168, rs168, wrap64, EV0, e_condB, Nat.reduceBEq, reduceIte, Nat.reduceAdd, Nat.reduceLeDiff, Nat.reduceLT, Nat.reduceSub, Nat.reduceMul, reduceCtorEq, Int.reduceNeg, Int.reduceSub, Int.reduceAdd, Int.reduceLE, Int.reduceLT, Int.reduceMul, Int.reduceToNat, Int.reduceEq, Int.reduceBEq, Int.reduceBNe, Nat.reduceEqDiff, a0, a1, a2, a3, a4, a5, a6, a7, a8, a9, a10]
    exact ⟨_, _, rfl, rfl, .refl _⟩

def txt (l : LT) : List UInt8 := l.map (·.1)
theorem txt_length (l : LT) : (txt l).length = l.length := by simp [txt]

theorem ref_in (l : LT) (i a b : Nat) (hi : i ≤ 1000000000) (hl : l.length ≤ 1000000000) : VFn Try.prog 123 [.sl 2 (cRows l), .int .i64 i, .int .u8 a, .int .u8 b] (.bool (inR (txt l) i a b)) := by
  refine VFn.intro ok123 (Nat.le_of_ble_eq_true rfl) (vk_start ?_)
  have c0 : (0 ≤ (i : Int)) = True := by simp
  rcases Nat.lt_or_ge i l.length with hlt | hge
  · have c1 : ((i : Int) < (l.length : Int)) = True := by simp; omega
    obtain ⟨⟨c, o⟩, hr⟩ : ∃ r, l[i]? = some r := ⟨_, List.getElem?_eq_getElem hlt⟩
    have hrow : (cRows l)[i]? = some [.int .u8 c.toNat, .int .i64 o] := by rw [cRows_get, hr]; rfl
    have e : inR (txt l) i a b = decide (a ≤ c.toNat ∧ c.toNat ≤ b) := by unfold inR txt; rw [List.getElem?_map, hr]; rfl
    rw [e]
    by_cases h1 : a ≤ c.toNat
    · by_cases h2 : c.toNat ≤ b
      · have d1 : ((a : Int) ≤ (c.toNat : Int)) = True := eq_true (by omega)
        have d2 : ((c.toNat : Int) ≤ (b : Int)) = True := eq_true (by omega)
        have e2 : decide (a ≤ c.toNat ∧ c.toNat ≤ b) = true := by simp [h1, h2]
        simp only [vc123, rs123, wrap64, EV0, e_condB, Nat.reduceBEq, reduceIte, Nat.reduceAdd, Nat.reduceLeDiff, Nat.reduceLT, Nat.reduceSub, Nat.reduceMul, reduceCtorEq, Int.reduceNeg, Int.reduceSub, Int.reduceAdd, Int.reduceLE, Int.reduceLT, Int.reduceMul, Int.reduceToNat, Int.reduceEq, Int.reduceBEq, Int.reduceBNe, Nat.reduceEqDiff, c0, c1, hrow, cRows_length, d1, d2, e2]
        exact ⟨_, _, rfl, rfl, .refl _⟩
      · have d1 : ((a : Int) ≤ (c.toNat : Int)) = True := eq_true (by omega)
        have d2 : ((c.toNat : Int) ≤ (b : Int)) = False := eq_false (by omega)
        have e2 : decide (a ≤ c.toNat ∧ c.toNat ≤ b) = false := by simp [h1, h2]
        simp only [vc123, rs123, wrap64, EV0, e_condB, Nat.reduceBEq, reduceIte, Nat.reduceAdd, Nat.reduceLeDiff, Nat.reduceLT, Nat.reduceSub, Nat.reduceMul, reduceCtorEq, Int.reduceNeg, Int.reduceSub, Int.reduceAdd, Int.reduceLE, Int.reduceLT, Int.reduceMul, Int.reduceToNat, Int.reduceEq, Int.reduceBEq, Int.reduceBNe, Nat.reduceEqDiff, c0, c1, hrow, cRows_length, d1, d2, e2]
        exact ⟨_, _, rfl, rfl, .refl _⟩
    · have d1 : ((a : Int) ≤ (c.toNat : Int)) = False := eq_false (by omega)
      have e2 : decide (a ≤ c.toNat ∧ c.toNat ≤ b) = false := by simp [h1]
      simp only [vc123, rs123, wrap64, EV0, e_condB, Nat.reduceBEq, reduceIte, Nat.reduceAdd, Nat.reduceLeDiff, Nat.reduceLT, Nat.reduceSub, Nat.reduceMul, reduceCtorEq, Int.reduceNeg, Int.reduceSub, Int.reduceAdd, Int.reduceLE, Int.reduceLT, Int.reduceMul, Int.reduceToNat, Int.reduceEq, Int.reduceBEq, Int.reduceBNe, Nat.reduceEqDiff, c0, c1, hrow, cRows_length, d1, e2]
      exact ⟨_, _, rfl, rfl, .refl _⟩
  · have c1 : ((i : Int) < (l.length : Int)) = False := by simp; omega
    have e : inR (txt l) i a b = false := by unfold inR txt; rw [List.getElem?_eq_none (by simpa using hge)]
    rw [e]
    simp only [vc123, rs123, wrap64, EV0, e_condB, Nat.reduceBEq, reduceIte, Nat.reduceAdd, Nat.reduceLeDiff, Nat.reduceLT, Nat.reduceSub, Nat.reduceMul, reduceCtorEq, Int.reduceNeg, Int.reduceSub, Int.reduceAdd, Int.reduceLE, Int.reduceLT, Int.reduceMul, Int.reduceToNat, Int.reduceEq, Int.reduceBEq, Int.reduceBNe, Nat.reduceEqDiff, c0, c1, cRows_length]
    exact ⟨_, _, rfl, rfl, .refl _⟩

theorem ref_next (l : LT) (hl : l.length ≤ 1000000000) : VFn Try.prog 96 [.sl 2 (cRows l)] (.tup [.int .i64 (nextF (txt l)).1, .bool (nextF (txt l)).2]) := by
  refine VFn.intro ok96 (Nat.le_of_ble_eq_true rfl) (vk_start ?_)
  cases l with
  | nil =>
    simp only [vc96, rs96, wrap64, EV0, e_condB, Nat.reduceBEq, reduceIte, Nat.reduceAdd, Nat.reduceLeDiff, Nat.reduceLT, Nat.reduceSub, Nat.reduceMul, reduceCtorEq, Int.reduceNeg, Int.reduceSub, Int.reduceAdd, Int.reduceLE, Int.reduceLT, Int.reduceMul, Int.reduceToNat, Int.reduceEq, Int.reduceBEq, Int.reduceBNe, Nat.reduceEqDiff, cRows_length]
    exact ⟨_, _, rfl, rfl, .refl _⟩
  | cons c r =>
    obtain ⟨c, o⟩ := c
    have c1 : ((((c, o) :: r).length : Int) == 0) = false := by
      have h1 : (((c, o) :: r).length : Int) = r.length + 1 := by simp
      rw [h1]; simp; omega
    have c2 : ((0 : Int) < (((c, o) :: r).length : Int)) = True := by simp
    have hrow : (cRows ((c, o) :: r))[0]? = some [.int .u8 c.toNat, .int .i64 o] := rfl
    have hc : c.toNat < 256 := c.toNat_lt
    have e0 : txt ((c, o) :: r) = c :: txt r := rfl
    have el : (c :: txt r).length = ((c, o) :: r).length := by simp [txt]
    generalize hL : ((c, o) :: r) = L at *
    simp only [vc96, rs96, wrap64, EV0, e_condB, Nat.reduceBEq, reduceIte, Nat.reduceAdd, Nat.reduceLeDiff, Nat.reduceLT, Nat.reduceSub, Nat.reduceMul, reduceCtorEq, Int.reduceNeg, Int.reduceSub, Int.reduceAdd, Int.reduceLE, Int.reduceLT, Int.reduceMul, Int.reduceToNat, Int.reduceEq, Int.reduceBEq, Int.reduceBNe, Nat.reduceEqDiff, cRows_length, c1, c2, hrow]
    refine vk_call rfl (CallR.call ⟨[.int .u8 c.toNat], .inl rfl, u_lead hc⟩) ?_
    have hn : leadN c.toNat ≤ 3 := by unfold leadN; (repeat' split) <;> omega
    by_cases hz : leadN c.toNat ≤ 0
    · have d1 : (leadN c.toNat ≤ 0) = True := eq_true hz
      simp only [wrap64, EV0, e_condB, Nat.reduceBEq, reduceIte, Nat.reduceAdd, Nat.reduceLeDiff, Nat.reduceLT, Nat.reduceSub, Nat.reduceMul, reduceCtorEq, Int.reduceNeg, Int.reduceSub, Int.reduceAdd, Int.reduceLE, Int.reduceLT, Int.reduceMul, Int.reduceToNat, Int.reduceEq, Int.reduceBEq, Int.reduceBNe, Nat.reduceEqDiff, d1]
      rw [e0]
      by_cases hz2 : leadN c.toNat = 0
      · have e1 : nextF (c :: txt r) = (1, true) := by rw [nextF_cons, hz2]; rfl
        rw [hz2, e1]
        exact ⟨_, _, rfl, rfl, .refl _⟩
      · have e1 : nextF (c :: txt r) = (1, false) := by rw [nextF_cons, if_pos (by omega)]
        have e2 : (leadN c.toNat == 0) = false := by simpa using hz2
        rw [e1, e2]
        exact ⟨_, _, rfl, rfl, .refl _⟩
    · have d1 : (leadN c.toNat ≤ 0) = False := eq_false hz
      simp only [wrap64, EV0, e_condB, Nat.reduceBEq, reduceIte, Nat.reduceAdd, Nat.reduceLeDiff, Nat.reduceLT, Nat.reduceSub, Nat.reduceMul, reduceCtorEq, Int.reduceNeg, Int.reduceSub, Int.reduceAdd, Int.reduceLE, Int.reduceLT, Int.reduceMul, Int.reduceToNat, Int.reduceEq, Int.reduceBEq, Int.reduceBNe, Nat.reduceEqDiff, d1, c2, hrow, cRows_length]
      refine vk_call rfl (CallR.call ⟨[.int .u8 c.toNat], .inl rfl, u_second hc⟩) ?_
      simp only [wrap64, EV0, e_condB, Nat.reduceBEq, reduceIte, Nat.reduceAdd, Nat.reduceLeDiff, Nat.reduceLT, Nat.reduceSub, Nat.reduceMul, reduceCtorEq, Int.reduceNeg, Int.reduceSub, Int.reduceAdd, Int.reduceLE, Int.reduceLT, Int.reduceMul, Int.reduceToNat, Int.reduceEq, Int.reduceBEq, Int.reduceBNe, Nat.reduceEqDiff]
      have hin1 := ref_in L 1 (secA c.toNat) (secB c.toNat) (by omega) hl
      rw [e0] at hin1
      refine vk_call rfl (CallR.call ⟨[.sl 2 (cRows L), .int .i64 (1 : Nat), .int .u8 (secA c.toNat), .int .u8 (secB c.toNat)], .inl rfl, hin1⟩) ?_
      obtain ⟨n, hnn⟩ : ∃ n : Nat, leadN c.toNat = (n + 1 : Nat) := ⟨(leadN c.toNat - 1).toNat, by omega⟩
      have e1 : nextF (c :: txt r) = tailF (c :: txt r) (n + 1) 1 (secA c.toNat) (secB c.toNat) := by rw [nextF_cons, if_neg (by omega), hnn]; rfl
      rw [e0, e1]
      cases hin : inR (c :: txt r) 1 (secA c.toNat) (secB c.toNat) with
      | false =>
        simp only [wrap64, EV0, e_condB, Nat.reduceBEq, reduceIte, Nat.reduceAdd, Nat.reduceLeDiff, Nat.reduceLT, Nat.reduceSub, Nat.reduceMul, reduceCtorEq, Int.reduceNeg, Int.reduceSub, Int.reduceAdd, Int.reduceLE, Int.reduceLT, Int.reduceMul, Int.reduceToNat, Int.reduceEq, Int.reduceBEq, Int.reduceBNe, Nat.reduceEqDiff]
        have e2 : tailF (c :: txt r) (n + 1) 1 (secA c.toNat) (secB c.toNat) = (1, false) := tailF_no hin
        rw [e2]
        exact ⟨_, _, rfl, rfl, .refl _⟩
      | true =>
        have e2 : tailF (c :: txt r) (n + 1) 1 (secA c.toNat) (secB c.toNat) = tailF (c :: txt r) n 2 128 191 := tailF_yes hin
        rw [e2, hnn]
        simp only [wrap64, EV0, e_condB, Nat.reduceBEq, reduceIte, Nat.reduceAdd, Nat.reduceLeDiff, Nat.reduceLT, Nat.reduceSub, Nat.reduceMul, reduceCtorEq, Int.reduceNeg, Int.reduceSub, Int.reduceAdd, Int.reduceLE, Int.reduceLT, Int.reduceMul, Int.reduceToNat, Int.reduceEq, Int.reduceBEq, Int.reduceBNe, Nat.reduceEqDiff]
        refine vk_loopR (γ := Nat) (fun j => { tm := [(0, .sl 2 (cRows L)), (4, .int .i64 ((n + 1 : Nat) : Int)), (7, .int .i64 ((2 + j : Nat) : Int))], ob := [], base := 0 })
          (fun j => j ≤ n ∧ tailF (c :: txt r) n 2 128 191 = tailF (c :: txt r) (n - j) (2 + j) 128 191) (fun j => n - j) 0 ⟨Nat.zero_le _, rfl⟩ ?_ ?_
        · exact ⟨[], rfl, rfl, rfl, rfl, ⟨.same _ rfl, .same _ rfl, .same _ rfl, trivial⟩, trivial⟩
        · rintro j ⟨hj, hT⟩ R hN hE hR
          have g0 : (0 ≤ ((2 + j : Nat) : Int)) = True := by simp; omega
          rcases Nat.lt_or_ge j n with hlt | hge
          · have g1 : (((2 + j : Nat) : Int) ≤ ((n + 1 : Nat) : Int)) = True := eq_true (by omega)
            have w1 : IntKind.i64.wrap (((2 + j : Nat) : Int) + 1) = ((2 + (j + 1) : Nat) : Int) := by rw [wrap64 (by omega) (by omega)]; omega
            have hin2 := ref_in L (2 + j) 128 191 (by omega) hl
            rw [e0] at hin2
            have hs : n - j = (n - (j + 1)) + 1 := by omega
            simp only [wrap64, EV0, e_condB, Nat.reduceBEq, reduceIte, Nat.reduceAdd, Nat.reduceLeDiff, Nat.reduceLT, Nat.reduceSub, Nat.reduceMul, reduceCtorEq, Int.reduceNeg, Int.reduceSub, Int.reduceAdd, Int.reduceLE, Int.reduceLT, Int.reduceMul, Int.reduceToNat, Int.reduceEq, Int.reduceBEq, Int.reduceBNe, Nat.reduceEqDiff, g0, g1]
            refine vk_call rfl (CallR.call ⟨_, .inl rfl, hin2⟩) ?_
            cases hi2 : inR (c :: txt r) (2 + j) 128 191 with
            | true =>
              rw [hs, tailF_yes hi2] at hT
              simp only [wrap64, EV0, e_condB, Nat.reduceBEq, reduceIte, Nat.reduceAdd, Nat.reduceLeDiff, Nat.reduceLT, Nat.reduceSub, Nat.reduceMul, reduceCtorEq, Int.reduceNeg, Int.reduceSub, Int.reduceAdd, Int.reduceLE, Int.reduceLT, Int.reduceMul, Int.reduceToNat, Int.reduceEq, Int.reduceBEq, Int.reduceBNe, Nat.reduceEqDiff, w1]
              refine hN _ (j + 1) ⟨hlt, hT⟩ (by omega) ?_
              exact ⟨[], rfl, rfl, rfl, rfl, ⟨.same _ rfl, .same _ rfl, .same _ rfl, trivial⟩, trivial⟩
            | false =>
              rw [hs, tailF_no hi2] at hT
              simp only [wrap64, EV0, e_condB, Nat.reduceBEq, reduceIte, Nat.reduceAdd, Nat.reduceLeDiff, Nat.reduceLT, Nat.reduceSub, Nat.reduceMul, reduceCtorEq, Int.reduceNeg, Int.reduceSub, Int.reduceAdd, Int.reduceLE, Int.reduceLT, Int.reduceMul, Int.reduceToNat, Int.reduceEq, Int.reduceBEq, Int.reduceBNe, Nat.reduceEqDiff]
              refine hR _ ?_
              rw [hT]
              simp only [wrap64, EV0, e_condB, Nat.reduceBEq, reduceIte, Nat.reduceAdd, Nat.reduceLeDiff, Nat.reduceLT, Nat.reduceSub, Nat.reduceMul, reduceCtorEq, Int.reduceNeg, Int.reduceSub, Int.reduceAdd, Int.reduceLE, Int.reduceLT, Int.reduceMul, Int.reduceToNat, Int.reduceEq, Int.reduceBEq, Int.reduceBNe, Nat.reduceEqDiff]
              exact ⟨_, _, rfl, rfl, .refl _⟩
          · have g1 : (((2 + j : Nat) : Int) ≤ ((n + 1 : Nat) : Int)) = False := eq_false (by omega)
            have hjn : j = n := by omega
            subst hjn
            have w1 : IntKind.i64.wrap (((j + 1 : Nat) : Int) + 1) = ((2 + j : Nat) : Int) := by rw [wrap64 (by omega) (by omega)]; omega
            simp only [wrap64, EV0, e_condB, Nat.reduceBEq, reduceIte, Nat.reduceAdd, Nat.reduceLeDiff, Nat.reduceLT, Nat.reduceSub, Nat.reduceMul, reduceCtorEq, Int.reduceNeg, Int.reduceSub, Int.reduceAdd, Int.reduceLE, Int.reduceLT, Int.reduceMul, Int.reduceToNat, Int.reduceEq, Int.reduceBEq, Int.reduceBNe, Nat.reduceEqDiff, g0, g1]
            refine hE _ _ ?_
            rw [hT, Nat.sub_self, tailF_zero]
            simp only [wrap64, EV0, e_condB, Nat.reduceBEq, reduceIte, Nat.reduceAdd, Nat.reduceLeDiff, Nat.reduceLT, Nat.reduceSub, Nat.reduceMul, reduceCtorEq, Int.reduceNeg, Int.reduceSub, Int.reduceAdd, Int.reduceLE, Int.reduceLT, Int.reduceMul, Int.reduceToNat, Int.reduceEq, Int.reduceBEq, Int.reduceBNe, Nat.reduceEqDiff, w1]
            exact ⟨_, _, rfl, rfl, .refl _⟩

theorem u_next (t : List UInt8) (ht : t.length ≤ 1000000000) : VFn Try.prog 159 [.str t] (.tup [.int .i64 (nextF t).1, .bool (nextF t).2]) := by
  refine VFn.intro ok159 (Nat.le_of_ble_eq_true rfl) (vk_start ?_)
  cases t with
  | nil =>
    simp only [vc159, rs159, wrap64, EV0, e_condB, Nat.reduceBEq, reduceIte, Nat.reduceAdd, Nat.reduceLeDiff, Nat.reduceLT, Nat.reduceSub, Nat.reduceMul, reduceCtorEq, Int.reduceNeg, Int.reduceSub, Int.reduceAdd, Int.reduceLE, Int.reduceLT, Int.reduceMul, Int.reduceToNat, Int.reduceEq, Int.reduceBEq, Int.reduceBNe, Nat.reduceEqDiff]
    exact ⟨_, _, rfl, rfl, .refl _⟩
  | cons c r =>
    have hc : c.toNat < 256 := c.toNat_lt
    have e0 := nextF_cons c r
    generalize hL : (c :: r) = T at *
    have hne : (T == []) = false := by rw [← hL]; rfl
    have h0 : T[0]? = some c := by rw [← hL]; rfl
    simp only [vc159, rs159, wrap64, EV0, e_condB, Nat.reduceBEq, reduceIte, Nat.reduceAdd, Nat.reduceLeDiff, Nat.reduceLT, Nat.reduceSub, Nat.reduceMul, reduceCtorEq, Int.reduceNeg, Int.reduceSub, Int.reduceAdd, Int.reduceLE, Int.reduceLT, Int.reduceMul, Int.reduceToNat, Int.reduceEq, Int.reduceBEq, Int.reduceBNe, Nat.reduceEqDiff, hne, h0, byteV]
    refine vk_call rfl (CallR.call ⟨[.int .u8 c.toNat], .inl rfl, u_lead3 hc⟩) ?_
    have hn : leadN c.toNat ≤ 3 := by unfold leadN; (repeat' split) <;> omega
    by_cases hz : leadN c.toNat < 0
    · have d1 : (leadN c.toNat < 0) = True := eq_true hz
      rw [if_pos hz] at e0
      simp only [wrap64, EV0, e_condB, Nat.reduceBEq, reduceIte, Nat.reduceAdd, Nat.reduceLeDiff, Nat.reduceLT, Nat.reduceSub, Nat.reduceMul, reduceCtorEq, Int.reduceNeg, Int.reduceSub, Int.reduceAdd, Int.reduceLE, Int.reduceLT, Int.reduceMul, Int.reduceToNat, Int.reduceEq, Int.reduceBEq, Int.reduceBNe, Nat.reduceEqDiff, d1, e0]
      exact ⟨_, _, rfl, rfl, .refl _⟩
    · have d1 : (leadN c.toNat < 0) = False := eq_false hz
      rw [if_neg hz] at e0
      obtain ⟨n, hnn⟩ : ∃ n : Nat, leadN c.toNat = (n : Nat) := ⟨(leadN c.toNat).toNat, by omega⟩
      rw [hnn, Int.toNat_natCast] at e0
      rw [hnn] at d1 hn
      simp only [wrap64, EV0, e_condB, Nat.reduceBEq, reduceIte, Nat.reduceAdd, Nat.reduceLeDiff, Nat.reduceLT, Nat.reduceSub, Nat.reduceMul, reduceCtorEq, Int.reduceNeg, Int.reduceSub, Int.reduceAdd, Int.reduceLE, Int.reduceLT, Int.reduceMul, Int.reduceToNat, Int.reduceEq, Int.reduceBEq, Int.reduceBNe, Nat.reduceEqDiff, hnn, d1]
      refine vk_loopR (γ := Nat × Nat × Nat) (fun g => { tm := [(0, .str T), (4, .int .i64 (n : Int)), (5, .int .u8 g.2.1), (6, .int .u8 g.2.2), (7, .int .i64 ((1 + g.1 : Nat) : Int))], ob := [], base := 0 })
        (fun g => g.1 ≤ n + 1 ∧ nextF T = tailF T (n - g.1) (1 + g.1) g.2.1 g.2.2 ∧ g.1 ≤ n) (fun g => n + 1 - g.1) (0, secA c.toNat, secB c.toNat) ⟨Nat.zero_le _, e0, Nat.zero_le _⟩ ?_ ?_
      · exact ⟨[], rfl, rfl, rfl, rfl, ⟨.same _ rfl, .same _ rfl, .same _ rfl, .same _ rfl, .same _ rfl, trivial⟩, trivial⟩
      · rintro ⟨j, a, b⟩ ⟨hj, hT, hj2⟩ R hN hE hR
        simp only at hj hT hj2
        have g0 : (0 ≤ ((1 + j : Nat) : Int)) = True := by simp; omega
        rcases Nat.lt_or_ge j n with hlt | hge
        · have g1 : (((1 + j : Nat) : Int) ≤ (n : Int)) = True := eq_true (by omega)
          have w1 : IntKind.i64.wrap (((1 + j : Nat) : Int) + 1) = ((1 + (j + 1) : Nat) : Int) := by rw [wrap64 (by omega) (by omega)]; omega
          have hs : n - j = (n - (j + 1)) + 1 := by omega
          rcases Nat.lt_or_ge (1 + j) T.length with hil | hil
          · have g2 : ((T.length : Int) ≤ ((1 + j : Nat) : Int)) = False := eq_false (by omega)
            obtain ⟨x, hx⟩ : ∃ x, T[1 + j]? = some x := ⟨_, List.getElem?_eq_getElem hil⟩
            have hin : inR T (1 + j) a b = decide (a ≤ x.toNat ∧ x.toNat ≤ b) := by unfold inR; rw [hx]
            by_cases h1 : a ≤ x.toNat
            · have k1 : ((x.toNat : Int) < (a : Int)) = False := eq_false (by omega)
              by_cases h2 : x.toNat ≤ b
              · have k2 : ((b : Int) < (x.toNat : Int)) = False := eq_false (by omega)
                have hi2 : inR T (1 + j) a b = true := by rw [hin]; simp [h1, h2]
                rw [hs, tailF_yes hi2] at hT
                simp only [wrap64, EV0, e_condB, Nat.reduceBEq, reduceIte, Nat.reduceAdd, Nat.reduceLeDiff, Nat.reduceLT, Nat.reduceSub, Nat.reduceMul, reduceCtorEq, Int.reduceNeg, Int.reduceSub, Int.reduceAdd, Int.reduceLE, Int.reduceLT, Int.reduceMul, Int.reduceToNat, Int.reduceEq, Int.reduceBEq, Int.reduceBNe, Nat.reduceEqDiff, g0, g1, g2, hx, byteV, k1, k2, w1]
                refine hN _ (j + 1, 128, 191) ⟨by simp only; omega, hT, by simp only; omega⟩ (by simp only; omega) ?_
                exact ⟨[], rfl, rfl, rfl, rfl, ⟨.same _ rfl, .same _ rfl, .same _ rfl, .same _ rfl, .same _ rfl, trivial⟩, trivial⟩
              · have k2 : ((b : Int) < (x.toNat : Int)) = True := eq_true (by omega)
                have hi2 : inR T (1 + j) a b = false := by rw [hin]; simp [h1, h2]
                rw [hs, tailF_no hi2] at hT
                simp only [wrap64, EV0, e_condB, Nat.reduceBEq, reduceIte, Nat.reduceAdd, Nat.reduceLeDiff, Nat.reduceLT, Nat.reduceSub, Nat.reduceMul, reduceCtorEq, Int.reduceNeg, Int.reduceSub, Int.reduceAdd, Int.reduceLE, Int.reduceLT, Int.reduceMul, Int.reduceToNat, Int.reduceEq, Int.reduceBEq, Int.reduceBNe, Nat.reduceEqDiff, g0, g1, g2, hx, byteV, k1, k2]
                refine hR _ ?_
                simp only [wrap64, EV0, e_condB, Nat.reduceBEq, reduceIte, Nat.reduceAdd, Nat.reduceLeDiff, Nat.reduceLT, Nat.reduceSub, Nat.reduceMul, reduceCtorEq, Int.reduceNeg, Int.reduceSub, Int.reduceAdd, Int.reduceLE, Int.reduceLT, Int.reduceMul, Int.reduceToNat, Int.reduceEq, Int.reduceBEq, Int.reduceBNe, Nat.reduceEqDiff, hT]
                exact ⟨_, _, rfl, rfl, .refl _⟩
            · have k1 : ((x.toNat : Int) < (a : Int)) = True := eq_true (by omega)
              have hi2 : inR T (1 + j) a b = false := by rw [hin]; simp [h1]
              rw [hs, tailF_no hi2] at hT
              simp only [wrap64, EV0, e_condB, Nat.reduceBEq, reduceIte, Nat.reduceAdd, Nat.reduceLeDiff, Nat.reduceLT, Nat.reduceSub, Nat.reduceMul, reduceCtorEq, Int.reduceNeg, Int.reduceSub, Int.reduceAdd, Int.reduceLE, Int.reduceLT, Int.reduceMul, Int.reduceToNat, Int.reduceEq, Int.reduceBEq, Int.reduceBNe, Nat.reduceEqDiff, g0, g1, g2, hx, byteV, k1]
              refine hR _ ?_
              simp only [wrap64, EV0, e_condB, Nat.reduceBEq, reduceIte, Nat.reduceAdd, Nat.reduceLeDiff, Nat.reduceLT, Nat.reduceSub, Nat.reduceMul, reduceCtorEq, Int.reduceNeg, Int.reduceSub, Int.reduceAdd, Int.reduceLE, Int.reduceLT, Int.reduceMul, Int.reduceToNat, Int.reduceEq, Int.reduceBEq, Int.reduceBNe, Nat.reduceEqDiff, hT]
              exact ⟨_, _, rfl, rfl, .refl _⟩
          · have g2 : ((T.length : Int) ≤ ((1 + j : Nat) : Int)) = True := eq_true (by omega)
            have hi2 : inR T (1 + j) a b = false := by unfold inR; rw [List.getElem?_eq_none hil]
            rw [hs, tailF_no hi2] at hT
            simp only [wrap64, EV0, e_condB, Nat.reduceBEq, reduceIte, Nat.reduceAdd, Nat.reduceLeDiff, Nat.reduceLT, Nat.reduceSub, Nat.reduceMul, reduceCtorEq, Int.reduceNeg, Int.reduceSub, Int.reduceAdd, Int.reduceLE, Int.reduceLT, Int.reduceMul, Int.reduceToNat, Int.reduceEq, Int.reduceBEq, Int.reduceBNe, Nat.reduceEqDiff, g0, g1, g2]
            refine hR _ ?_
            simp only [wrap64, EV0, e_condB, Nat.reduceBEq, reduceIte, Nat.reduceAdd, Nat.reduceLeDiff, Nat.reduceLT, Nat.reduceSub, Nat.reduceMul, reduceCtorEq, Int.reduceNeg, Int.reduceSub, Int.reduceAdd, Int.reduceLE, Int.reduceLT, Int.reduceMul, Int.reduceToNat, Int.reduceEq, Int.reduceBEq, Int.reduceBNe, Nat.reduceEqDiff, hT]
            exact ⟨_, _, rfl, rfl, .refl _⟩
        · have g1 : (((1 + j : Nat) : Int) ≤ (n : Int)) = False := eq_false (by omega)
          have hjn : j = n := by omega
          subst hjn
          rw [Nat.sub_self, tailF_zero] at hT
          have w1 : IntKind.i64.wrap ((j : Int) + 1) = ((1 + j : Nat) : Int) := by rw [wrap64 (by omega) (by omega)]; omega
          simp only [wrap64, EV0, e_condB, Nat.reduceBEq, reduceIte, Nat.reduceAdd, Nat.reduceLeDiff, Nat.reduceLT, Nat.reduceSub, Nat.reduceMul, reduceCtorEq, Int.reduceNeg, Int.reduceSub, Int.reduceAdd, Int.reduceLE, Int.reduceLT, Int.reduceMul, Int.reduceToNat, Int.reduceEq, Int.reduceBEq, Int.reduceBNe, Nat.reduceEqDiff, g0, g1]
          refine hE _ _ ?_
          simp only [wrap64, EV0, e_condB, Nat.reduceBEq, reduceIte, Nat.reduceAdd, Nat.reduceLeDiff, Nat.reduceLT, Nat.reduceSub, Nat.reduceMul, reduceCtorEq, Int.reduceNeg, Int.reduceSub, Int.reduceAdd, Int.reduceLE, Int.reduceLT, Int.reduceMul, Int.reduceToNat, Int.reduceEq, Int.reduceBEq, Int.reduceBNe, Nat.reduceEqDiff, w1, hT]
          exact ⟨_, _, rfl, rfl, .refl _⟩
end Go.Proofs.VL

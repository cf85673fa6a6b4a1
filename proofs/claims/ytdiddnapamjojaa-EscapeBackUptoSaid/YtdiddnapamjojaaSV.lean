/- Contracts of functions of the program, for what calls them, and the law that its name tells. -/
import Derived.Test.YtdiddnapamjojaaSU
namespace Go.Proofs.VL
open Go Go.RowKit
set_option maxRecDepth 100000
set_option maxHeartbeats 2000000
set_option linter.unusedSimpArgs false
set_option linter.unusedVariables false
attribute [local irreducible] vwp vk

/-- A digit's value; 99: it is none. -/
def digN (c : Nat) : Int := if 48 ≤ c ∧ c ≤ 57 then c - 48 else if 97 ≤ c ∧ c ≤ 102 then c - 87 else if 65 ≤ c ∧ c ≤ 70 then c - 55 else 99

theorem ref_value {c : Nat} (hc : c < 256) : VFn Try.prog 134 [.int .u8 c] (.int .i64 (digN c)) := by
  refine VFn.intro ok134 (Nat.le_of_ble_eq_true rfl) (vk_start ?_)
  have w : IntKind.i64.wrap (c : Int) = c := wrap64 (by omega) (by omega)
  have hr : (0 ≤ c ∧ c ≤ 47) ∨ (48 ≤ c ∧ c ≤ 57) ∨ (58 ≤ c ∧ c ≤ 64) ∨ (65 ≤ c ∧ c ≤ 70) ∨ (71 ≤ c ∧ c ≤ 96) ∨ (97 ≤ c ∧ c ≤ 102) ∨ (103 ≤ c ∧ c ≤ 255) := by omega
  rcases hr with hr | hr | hr | hr | hr | hr | hr
  · have a0 : (48 ≤ (c : Int)) = False := eq_false (by omega)
    have a1 : ((c : Int) ≤ 57) = True := eq_true (by omega)
    have a2 : (97 ≤ (c : Int)) = False := eq_false (by omega)
    have a3 : ((c : Int) ≤ 102) = True := eq_true (by omega)
    have a4 : (65 ≤ (c : Int)) = False := eq_false (by omega)
    have a5 : ((c : Int) ≤ 70) = True := eq_true (by omega)
    have e : digN c = 99 := by unfold digN; (repeat' split) <;> omega
    rw [e]
    simp only [vc134, rs134, wrap64, EV0, e_condB, Nat.reduceBEq, reduceIte, Nat.reduceAdd, Nat.reduceLeDiff, Nat.reduceLT, Nat.reduceSub, Nat.reduceMul, reduceCtorEq, Int.reduceNeg, Int.reduceSub, Int.reduceAdd, Int.reduceLE, Int.reduceLT, Int.reduceMul, Int.reduceToNat, Int.reduceEq, Int.reduceBEq, Int.reduceBNe, Nat.reduceEqDiff, a0, a1, a2, a3, a4, a5]
    exact ⟨_, _, rfl, rfl, .refl _⟩
  · have a0 : (48 ≤ (c : Int)) = True := eq_true (by omega)
    have a1 : ((c : Int) ≤ 57) = True := eq_true (by omega)
    have a2 : (97 ≤ (c : Int)) = False := eq_false (by omega)
    have a3 : ((c : Int) ≤ 102) = True := eq_true (by omega)
    have a4 : (65 ≤ (c : Int)) = False := eq_false (by omega)
    have a5 : ((c : Int) ≤ 70) = True := eq_true (by omega)
    have e : digN c = (c : Int) - 48 := by unfold digN; (repeat' split) <;> omega
    rw [e]
    have w2 : IntKind.i64.wrap ((c : Int) - 48) = (c : Int) - 48 := wrap64 (by omega) (by omega)
    simp only [vc134, rs134, wrap64, EV0, e_condB, Nat.reduceBEq, reduceIte, Nat.reduceAdd, Nat.reduceLeDiff, Nat.reduceLT, Nat.reduceSub, Nat.reduceMul, reduceCtorEq, Int.reduceNeg, Int.reduceSub, Int.reduceAdd, Int.reduceLE, Int.reduceLT, Int.reduceMul, Int.reduceToNat, Int.reduceEq, Int.reduceBEq, Int.reduceBNe, Nat.reduceEqDiff, a0, a1, a2, a3, a4, a5, w, w2]
    exact ⟨_, _, rfl, rfl, .refl _⟩
  · have a0 : (48 ≤ (c : Int)) = True := eq_true (by omega)
    have a1 : ((c : Int) ≤ 57) = False := eq_false (by omega)
    have a2 : (97 ≤ (c : Int)) = False := eq_false (by omega)
    have a3 : ((c : Int) ≤ 102) = True := eq_true (by omega)
    have a4 : (65 ≤ (c : Int)) = False := eq_false (by omega)
    have a5 : ((c : Int) ≤ 70) = True := eq_true (by omega)
    have e : digN c = 99 := by unfold digN; (repeat' split) <;> omega
    rw [e]
    simp only [vc134, rs134, wrap64, EV0, e_condB, Nat.reduceBEq, reduceIte, Nat.reduceAdd, Nat.reduceLeDiff, Nat.reduceLT, Nat.reduceSub, Nat.reduceMul, reduceCtorEq, Int.reduceNeg, Int.reduceSub, Int.reduceAdd, Int.reduceLE, Int.reduceLT, Int.reduceMul, Int.reduceToNat, Int.reduceEq, Int.reduceBEq, Int.reduceBNe, Nat.reduceEqDiff, a0, a1, a2, a3, a4, a5]
    exact ⟨_, _, rfl, rfl, .refl _⟩
  · have a0 : (48 ≤ (c : Int)) = True := eq_true (by omega)
    have a1 : ((c : Int) ≤ 57) = False := eq_false (by omega)
    have a2 : (97 ≤ (c : Int)) = False := eq_false (by omega)
    have a3 : ((c : Int) ≤ 102) = True := eq_true (by omega)
    have a4 : (65 ≤ (c : Int)) = True := eq_true (by omega)
    have a5 : ((c : Int) ≤ 70) = True := eq_true (by omega)
    have e : digN c = (c : Int) - 55 := by unfold digN; (repeat' split) <;> omega
    rw [e]
    have w2 : IntKind.i64.wrap ((c : Int) - 55) = (c : Int) - 55 := wrap64 (by omega) (by omega)
    simp only [vc134, rs134, wrap64, EV0, e_condB, Nat.reduceBEq, reduceIte, Nat.reduceAdd, Nat.reduceLeDiff, Nat.reduceLT, Nat.reduceSub, Nat.reduceMul, reduceCtorEq, Int.reduceNeg, Int.reduceSub, Int.reduceAdd, Int.reduceLE, Int.reduceLT, Int.reduceMul, Int.reduceToNat, Int.reduceEq, Int.reduceBEq, Int.reduceBNe, Nat.reduceEqDiff, a0, a1, a2, a3, a4, a5, w, w2]
    exact ⟨_, _, rfl, rfl, .refl _⟩
  · have a0 : (48 ≤ (c : Int)) = True := eq_true (by omega)
    have a1 : ((c : Int) ≤ 57) = False := eq_false (by omega)
    have a2 : (97 ≤ (c : Int)) = False := eq_false (by omega)
    have a3 : ((c : Int) ≤ 102) = True := eq_true (by omega)
    have a4 : (65 ≤ (c : Int)) = True := eq_true (by omega)
    have a5 : ((c : Int) ≤ 70) = False := eq_false (by omega)
    have e : digN c = 99 := by unfold digN; (repeat' split) <;> omega
    rw [e]
    simp only [vc134, rs134, wrap64, EV0, e_condB, Nat.reduceBEq, reduceIte, Nat.reduceAdd, Nat.reduceLeDiff, Nat.reduceLT, Nat.reduceSub, Nat.reduceMul, reduceCtorEq, Int.reduceNeg, Int.reduceSub, Int.reduceAdd, Int.reduceLE, Int.reduceLT, Int.reduceMul, Int.reduceToNat, Int.reduceEq, Int.reduceBEq, Int.reduceBNe, Nat.reduceEqDiff, a0, a1, a2, a3, a4, a5]
    exact ⟨_, _, rfl, rfl, .refl _⟩
  · have a0 : (48 ≤ (c : Int)) = True := eq_true (by omega)
    have a1 : ((c : Int) ≤ 57) = False := eq_false (by omega)
    have a2 : (97 ≤ (c : Int)) = True := eq_true (by omega)
    have a3 : ((c : Int) ≤ 102) = True := eq_true (by omega)
    have a4 : (65 ≤ (c : Int)) = True := eq_true (by omega)
    have a5 : ((c : Int) ≤ 70) = False := eq_false (by omega)
    have e : digN c = (c : Int) - 87 := by unfold digN; (repeat' split) <;> omega
    rw [e]
    have w2 : IntKind.i64.wrap ((c : Int) - 87) = (c : Int) - 87 := wrap64 (by omega) (by omega)
    simp only [vc134, rs134, wrap64, EV0, e_condB, Nat.reduceBEq, reduceIte, Nat.reduceAdd, Nat.reduceLeDiff, Nat.reduceLT, Nat.reduceSub, Nat.reduceMul, reduceCtorEq, Int.reduceNeg, Int.reduceSub, Int.reduceAdd, Int.reduceLE, Int.reduceLT, Int.reduceMul, Int.reduceToNat, Int.reduceEq, Int.reduceBEq, Int.reduceBNe, Nat.reduceEqDiff, a0, a1, a2, a3, a4, a5, w, w2]
    exact ⟨_, _, rfl, rfl, .refl _⟩
  · have a0 : (48 ≤ (c : Int)) = True := eq_true (by omega)
    have a1 : ((c : Int) ≤ 57) = False := eq_false (by omega)
    have a2 : (97 ≤ (c : Int)) = True := eq_true (by omega)
    have a3 : ((c : Int) ≤ 102) = False := eq_false (by omega)
    have a4 : (65 ≤ (c : Int)) = True := eq_true (by omega)
    have a5 : ((c : Int) ≤ 70) = False := eq_false (by omega)
    have e : digN c = 99 := by unfold digN; (repeat' split) <;> omega
    rw [e]
    simp only [vc134, rs134, wrap64, EV0, e_condB, Nat.reduceBEq, reduceIte, Nat.reduceAdd, Nat.reduceLeDiff, Nat.reduceLT, Nat.reduceSub, Nat.reduceMul, reduceCtorEq, Int.reduceNeg, Int.reduceSub, Int.reduceAdd, Int.reduceLE, Int.reduceLT, Int.reduceMul, Int.reduceToNat, Int.reduceEq, Int.reduceBEq, Int.reduceBNe, Nat.reduceEqDiff, a0, a1, a2, a3, a4, a5]
    exact ⟨_, _, rfl, rfl, .refl _⟩

/-- A digit of a base; -1: it is none. -/
def digB (c : Nat) (b : Int) : Int := if digN c < b then digN c else -1

theorem u_digit {c : Nat} (hc : c < 256) {b : Int} (hb : 10 ≤ b ∧ b ≤ 16) : VFn Try.prog 143 [.int .u8 c, .int .i64 b] (.int .i64 (digB c b)) := by
  refine VFn.intro ok143 (Nat.le_of_ble_eq_true rfl) (vk_start ?_)
  have hr : (0 ≤ c ∧ c ≤ 47) ∨ (48 ≤ c ∧ c ≤ 57) ∨ (58 ≤ c ∧ c ≤ 64) ∨ (65 ≤ c ∧ c ≤ 70) ∨ (71 ≤ c ∧ c ≤ 96) ∨ (97 ≤ c ∧ c ≤ 102) ∨ (103 ≤ c ∧ c ≤ 255) := by omega
  rcases hr with hr | hr | hr | hr | hr | hr | hr
  · have a0 : (48 ≤ (c : Int)) = False := eq_false (by omega)
    have a1 : ((c : Int) ≤ 57) = True := eq_true (by omega)
    have a2 : (97 ≤ (c : Int)) = False := eq_false (by omega)
    have a3 : ((c : Int) ≤ 102) = True := eq_true (by omega)
    have a4 : (65 ≤ (c : Int)) = False := eq_false (by omega)
    have a5 : ((c : Int) ≤ 70) = True := eq_true (by omega)
    have e : digN c = 99 := by unfold digN; (repeat' split) <;> omega
    have e2 : digB c b = -1 := by unfold digB; rw [e, if_neg (by omega)]
    have k : (b ≤ (-1 : Int)) = False := eq_false (by omega)
    rw [e2]
    simp only [vc143, rs143, wrap64, EV0, e_condB, Nat.reduceBEq, reduceIte, Nat.reduceAdd, Nat.reduceLeDiff, Nat.reduceLT, Nat.reduceSub, Nat.reduceMul, reduceCtorEq, Int.reduceNeg, Int.reduceSub, Int.reduceAdd, Int.reduceLE, Int.reduceLT, Int.reduceMul, Int.reduceToNat, Int.reduceEq, Int.reduceBEq, Int.reduceBNe, Nat.reduceEqDiff, a0, a1, a2, a3, a4, a5, k]
    exact ⟨_, _, rfl, rfl, .refl _⟩
  · have a0 : (48 ≤ (c : Int)) = True := eq_true (by omega)
    have a1 : ((c : Int) ≤ 57) = True := eq_true (by omega)
    have a2 : (97 ≤ (c : Int)) = False := eq_false (by omega)
    have a3 : ((c : Int) ≤ 102) = True := eq_true (by omega)
    have a4 : (65 ≤ (c : Int)) = False := eq_false (by omega)
    have a5 : ((c : Int) ≤ 70) = True := eq_true (by omega)
    have e : digN c = (c : Int) - 48 := by unfold digN; (repeat' split) <;> omega
    have u : IntKind.u8.wrap ((c : Int) - 48) = (c : Int) - 48 := wrap_u8 (by omega) (by omega)
    have w : IntKind.i64.wrap ((c : Int) - 48) = (c : Int) - 48 := wrap64 (by omega) (by omega)
    by_cases hd : b ≤ (c : Int) - 48
    · have k : (b ≤ (c : Int) - 48) = True := eq_true hd
      have e2 : digB c b = -1 := by unfold digB; rw [e, if_neg (by omega)]
      rw [e2]
      simp only [vc143, rs143, wrap64, EV0, e_condB, Nat.reduceBEq, reduceIte, Nat.reduceAdd, Nat.reduceLeDiff, Nat.reduceLT, Nat.reduceSub, Nat.reduceMul, reduceCtorEq, Int.reduceNeg, Int.reduceSub, Int.reduceAdd, Int.reduceLE, Int.reduceLT, Int.reduceMul, Int.reduceToNat, Int.reduceEq, Int.reduceBEq, Int.reduceBNe, Nat.reduceEqDiff, a0, a1, a2, a3, a4, a5, u, w, k]
      exact ⟨_, _, rfl, rfl, .refl _⟩
    · have k : (b ≤ (c : Int) - 48) = False := eq_false hd
      have e2 : digB c b = (c : Int) - 48 := by unfold digB; rw [e, if_pos (by omega)]
      rw [e2]
      simp only [vc143, rs143, wrap64, EV0, e_condB, Nat.reduceBEq, reduceIte, Nat.reduceAdd, Nat.reduceLeDiff, Nat.reduceLT, Nat.reduceSub, Nat.reduceMul, reduceCtorEq, Int.reduceNeg, Int.reduceSub, Int.reduceAdd, Int.reduceLE, Int.reduceLT, Int.reduceMul, Int.reduceToNat, Int.reduceEq, Int.reduceBEq, Int.reduceBNe, Nat.reduceEqDiff, a0, a1, a2, a3, a4, a5, u, w, k]
      exact ⟨_, _, rfl, rfl, .refl _⟩
  · have a0 : (48 ≤ (c : Int)) = True := eq_true (by omega)
    have a1 : ((c : Int) ≤ 57) = False := eq_false (by omega)
    have a2 : (97 ≤ (c : Int)) = False := eq_false (by omega)
    have a3 : ((c : Int) ≤ 102) = True := eq_true (by omega)
    have a4 : (65 ≤ (c : Int)) = False := eq_false (by omega)
    have a5 : ((c : Int) ≤ 70) = True := eq_true (by omega)
    have e : digN c = 99 := by unfold digN; (repeat' split) <;> omega
    have e2 : digB c b = -1 := by unfold digB; rw [e, if_neg (by omega)]
    have k : (b ≤ (-1 : Int)) = False := eq_false (by omega)
    rw [e2]
    simp only [vc143, rs143, wrap64, EV0, e_condB, Nat.reduceBEq, reduceIte, Nat.reduceAdd, Nat.reduceLeDiff, Nat.reduceLT, Nat.reduceSub, Nat.reduceMul, reduceCtorEq, Int.reduceNeg, Int.reduceSub, Int.reduceAdd, Int.reduceLE, Int.reduceLT, Int.reduceMul, Int.reduceToNat, Int.reduceEq, Int.reduceBEq, Int.reduceBNe, Nat.reduceEqDiff, a0, a1, a2, a3, a4, a5, k]
    exact ⟨_, _, rfl, rfl, .refl _⟩
  · have a0 : (48 ≤ (c : Int)) = True := eq_true (by omega)
    have a1 : ((c : Int) ≤ 57) = False := eq_false (by omega)
    have a2 : (97 ≤ (c : Int)) = False := eq_false (by omega)
    have a3 : ((c : Int) ≤ 102) = True := eq_true (by omega)
    have a4 : (65 ≤ (c : Int)) = True := eq_true (by omega)
    have a5 : ((c : Int) ≤ 70) = True := eq_true (by omega)
    have e : digN c = (c : Int) - 55 := by unfold digN; (repeat' split) <;> omega
    have u : IntKind.u8.wrap ((c : Int) - 65) = (c : Int) - 65 := wrap_u8 (by omega) (by omega)
    have w : IntKind.i64.wrap ((c : Int) - 65) = (c : Int) - 65 := wrap64 (by omega) (by omega)
    have w2 : IntKind.i64.wrap ((c : Int) - 65 + 10) = (c : Int) - 55 := by rw [wrap64 (by omega) (by omega)]; omega
    by_cases hd : b ≤ (c : Int) - 55
    · have k : (b ≤ (c : Int) - 55) = True := eq_true hd
      have e2 : digB c b = -1 := by unfold digB; rw [e, if_neg (by omega)]
      rw [e2]
      simp only [vc143, rs143, wrap64, EV0, e_condB, Nat.reduceBEq, reduceIte, Nat.reduceAdd, Nat.reduceLeDiff, Nat.reduceLT, Nat.reduceSub, Nat.reduceMul, reduceCtorEq, Int.reduceNeg, Int.reduceSub, Int.reduceAdd, Int.reduceLE, Int.reduceLT, Int.reduceMul, Int.reduceToNat, Int.reduceEq, Int.reduceBEq, Int.reduceBNe, Nat.reduceEqDiff, a0, a1, a2, a3, a4, a5, u, w, w2, k]
      exact ⟨_, _, rfl, rfl, .refl _⟩
    · have k : (b ≤ (c : Int) - 55) = False := eq_false hd
      have e2 : digB c b = (c : Int) - 55 := by unfold digB; rw [e, if_pos (by omega)]
      rw [e2]
      simp only [vc143, rs143, wrap64, EV0, e_condB, Nat.reduceBEq, reduceIte, Nat.reduceAdd, Nat.reduceLeDiff, Nat.reduceLT, Nat.reduceSub, Nat.reduceMul, reduceCtorEq, Int.reduceNeg, Int.reduceSub, Int.reduceAdd, Int.reduceLE, Int.reduceLT, Int.reduceMul, Int.reduceToNat, Int.reduceEq, Int.reduceBEq, Int.reduceBNe, Nat.reduceEqDiff, a0, a1, a2, a3, a4, a5, u, w, w2, k]
      exact ⟨_, _, rfl, rfl, .refl _⟩
  · have a0 : (48 ≤ (c : Int)) = True := eq_true (by omega)
    have a1 : ((c : Int) ≤ 57) = False := eq_false (by omega)
    have a2 : (97 ≤ (c : Int)) = False := eq_false (by omega)
    have a3 : ((c : Int) ≤ 102) = True := eq_true (by omega)
    have a4 : (65 ≤ (c : Int)) = True := eq_true (by omega)
    have a5 : ((c : Int) ≤ 70) = False := eq_false (by omega)
    have e : digN c = 99 := by unfold digN; (repeat' split) <;> omega
    have e2 : digB c b = -1 := by unfold digB; rw [e, if_neg (by omega)]
    have k : (b ≤ (-1 : Int)) = False := eq_false (by omega)
    rw [e2]
    simp only [vc143, rs143, wrap64, EV0, e_condB, Nat.reduceBEq, reduceIte, Nat.reduceAdd, Nat.reduceLeDiff, Nat.reduceLT, Nat.reduceSub, Nat.reduceMul, reduceCtorEq, Int.reduceNeg, Int.reduceSub, Int.reduceAdd, Int.reduceLE, Int.reduceLT, Int.reduceMul, Int.reduceToNat, Int.reduceEq, Int.reduceBEq, Int.reduceBNe, Nat.reduceEqDiff, a0, a1, a2, a3, a4, a5, k]
    exact ⟨_, _, rfl, rfl, .refl _⟩
  · have a0 : (48 ≤ (c : Int)) = True := eq_true (by omega)
    have a1 : ((c : Int) ≤ 57) = False := eq_false (by omega)
    have a2 : (97 ≤ (c : Int)) = True := eq_true (by omega)
    have a3 : ((c : Int) ≤ 102) = True := eq_true (by omega)
    have a4 : (65 ≤ (c : Int)) = True := eq_true (by omega)
    have a5 : ((c : Int) ≤ 70) = False := eq_false (by omega)
    have e : digN c = (c : Int) - 87 := by unfold digN; (repeat' split) <;> omega
    have u : IntKind.u8.wrap ((c : Int) - 97) = (c : Int) - 97 := wrap_u8 (by omega) (by omega)
    have w : IntKind.i64.wrap ((c : Int) - 97) = (c : Int) - 97 := wrap64 (by omega) (by omega)
    have w2 : IntKind.i64.wrap ((c : Int) - 97 + 10) = (c : Int) - 87 := by rw [wrap64 (by omega) (by omega)]; omega
    by_cases hd : b ≤ (c : Int) - 87
    · have k : (b ≤ (c : Int) - 87) = True := eq_true hd
      have e2 : digB c b = -1 := by unfold digB; rw [e, if_neg (by omega)]
      rw [e2]
      simp only [vc143, rs143, wrap64, EV0, e_condB, Nat.reduceBEq, reduceIte, Nat.reduceAdd, Nat.reduceLeDiff, Nat.reduceLT, Nat.reduceSub, Nat.reduceMul, reduceCtorEq, Int.reduceNeg, Int.reduceSub, Int.reduceAdd, Int.reduceLE, Int.reduceLT, Int.reduceMul, Int.reduceToNat, Int.reduceEq, Int.reduceBEq, Int.reduceBNe, Nat.reduceEqDiff, a0, a1, a2, a3, a4, a5, u, w, w2, k]
      exact ⟨_, _, rfl, rfl, .refl _⟩
    · have k : (b ≤ (c : Int) - 87) = False := eq_false hd
      have e2 : digB c b = (c : Int) - 87 := by unfold digB; rw [e, if_pos (by omega)]
      rw [e2]
      simp only [vc143, rs143, wrap64, EV0, e_condB, Nat.reduceBEq, reduceIte, Nat.reduceAdd, Nat.reduceLeDiff, Nat.reduceLT, Nat.reduceSub, Nat.reduceMul, reduceCtorEq, Int.reduceNeg, Int.reduceSub, Int.reduceAdd, Int.reduceLE, Int.reduceLT, Int.reduceMul, Int.reduceToNat, Int.reduceEq, Int.reduceBEq, Int.reduceBNe, Nat.reduceEqDiff, a0, a1, a2, a3, a4, a5, u, w, w2, k]
      exact ⟨_, _, rfl, rfl, .refl _⟩
  · have a0 : (48 ≤ (c : Int)) = True := eq_true (by omega)
    have a1 : ((c : Int) ≤ 57) = False := eq_false (by omega)
    have a2 : (97 ≤ (c : Int)) = True := eq_true (by omega)
    have a3 : ((c : Int) ≤ 102) = False := eq_false (by omega)
    have a4 : (65 ≤ (c : Int)) = True := eq_true (by omega)
    have a5 : ((c : Int) ≤ 70) = False := eq_false (by omega)
    have e : digN c = 99 := by unfold digN; (repeat' split) <;> omega
    have e2 : digB c b = -1 := by unfold digB; rw [e, if_neg (by omega)]
    have k : (b ≤ (-1 : Int)) = False := eq_false (by omega)
    rw [e2]
    simp only [vc143, rs143, wrap64, EV0, e_condB, Nat.reduceBEq, reduceIte, Nat.reduceAdd, Nat.reduceLeDiff, Nat.reduceLT, Nat.reduceSub, Nat.reduceMul, reduceCtorEq, Int.reduceNeg, Int.reduceSub, Int.reduceAdd, Int.reduceLE, Int.reduceLT, Int.reduceMul, Int.reduceToNat, Int.reduceEq, Int.reduceBEq, Int.reduceBNe, Nat.reduceEqDiff, a0, a1, a2, a3, a4, a5, k]
    exact ⟨_, _, rfl, rfl, .refl _⟩
end Go.Proofs.VL

/- Contracts of functions of the program, for what calls them, and the law that its name tells. -/
import Derived.Test.YthlmgkfipbphmaaFB
namespace Go.Proofs.VL
open Go Go.RowKit
set_option maxRecDepth 100000
set_option maxHeartbeats 4000000
set_option linter.unusedSimpArgs false
set_option linter.unusedVariables false
attribute [local irreducible] vwp vk

theorem limitLong (n w : Int) (hn : 0 ≤ n ∧ n ≤ 255) (hw : 0 ≤ w ∧ w ≤ 255) : VFn Try.prog 7 [.int .u8 n, .int .u8 w] (.bool true) := by
  refine VFn.intro ok7 (Nat.le_of_ble_eq_true rfl) (vk_start ?_)
  obtain ⟨k, hk, hm⟩ : ∃ k : Nat, k < 12 ∧ n.tmod 12 = k := ⟨(n % 12).toNat, by omega, by rw [Int.tmod_eq_emod_of_nonneg hn.1]; omega⟩
  obtain ⟨j, hj, hm2⟩ : ∃ j : Nat, j < 4 ∧ w.tmod 4 = j := ⟨(w % 4).toNat, by omega, by rw [Int.tmod_eq_emod_of_nonneg hw.1]; omega⟩
  have ho := mark_of (List.replicate (4090 + k) 0) 0 (by rw [List.length_replicate]; omega)
  have hz := zeros_bytes (4090 + k)
  have hl : (List.replicate (4090 + k) (0 : UInt8)).length = 4090 + k := List.length_replicate
  simp only [rawV] at ho
  generalize (rle (List.replicate (List.replicate (4090 + k) (0 : UInt8)).length (nearI 0))) = rs at ho
  generalize (List.replicate (4090 + k) (0 : UInt8)) = t at ho hz hl
  simp (maxSteps := 4000000) (disch := omega) only [EW, Nat.reduceBEq, reduceIte, Nat.reduceAdd, Nat.reduceLeDiff, Nat.reduceLT, Nat.reduceSub, Nat.reduceMul, reduceCtorEq, Int.reduceNeg, Int.reduceSub, Int.reduceAdd, Int.reduceLE, Int.reduceLT, Int.reduceMul, Int.reduceToNat, Int.reduceEq, Int.reduceBEq, Int.reduceBNe, Nat.reduceEqDiff, vc7, rs7]
  have e0 : (4090 + (k : Int)).toNat = 4090 + k := by omega
  have hz1 : rowsBytes (List.take (4090 + k) (List.replicate (4090 + k) [V.int IntKind.u8 0])) = some t := by rw [List.take_of_length_le (by rw [List.length_replicate]; exact Nat.le_refl _)]; exact hz
  (refine vk_callR rfl ⟨_, .inl rfl, lim_alive⟩ ?_; simp (maxSteps := 4000000) (disch := omega) only [EW, Nat.reduceBEq, reduceIte, Nat.reduceAdd, Nat.reduceLeDiff, Nat.reduceLT, Nat.reduceSub, Nat.reduceMul, reduceCtorEq, Int.reduceNeg, Int.reduceSub, Int.reduceAdd, Int.reduceLE, Int.reduceLT, Int.reduceMul, Int.reduceToNat, Int.reduceEq, Int.reduceBEq, Int.reduceBNe, Nat.reduceEqDiff, hm, e0, hz1, List.length_replicate])
  (refine vk_callR rfl ⟨_, .inl rfl, ho⟩ ?_; simp (maxSteps := 4000000) (disch := omega) only [EW, Nat.reduceBEq, reduceIte, Nat.reduceAdd, Nat.reduceLeDiff, Nat.reduceLT, Nat.reduceSub, Nat.reduceMul, reduceCtorEq, Int.reduceNeg, Int.reduceSub, Int.reduceAdd, Int.reduceLE, Int.reduceLT, Int.reduceMul, Int.reduceToNat, Int.reduceEq, Int.reduceBEq, Int.reduceBNe, Nat.reduceEqDiff, hm2])
  by_cases hb : 4096 < 4090 + k
  all_goals
    match j, hj with
    | 0, _ =>
      have hc := one_check (t, rs) [] ([], []) (decide (4096 < 4090 + k)) (by simp) (by simp [longV, oddS, Vw.tag, Vw.text, Vw.key, Vw.attrs, hl])
      first | rw [decide_eq_true hb] at hc | rw [decide_eq_false hb] at hc
      simp (maxSteps := 4000000) (disch := omega) only [EW, Nat.reduceBEq, reduceIte, Nat.reduceAdd, Nat.reduceLeDiff, Nat.reduceLT, Nat.reduceSub, Nat.reduceMul, reduceCtorEq, Int.reduceNeg, Int.reduceSub, Int.reduceAdd, Int.reduceLE, Int.reduceLT, Int.reduceMul, Int.reduceToNat, Int.reduceEq, Int.reduceBEq, Int.reduceBNe, Nat.reduceEqDiff]
      refine vk_callR rfl ⟨_, .inl rfl, VFn.sub hc (by (repeat' first | exact Sub.refl _ | exact Sub.nil _ | exact SubL.nil | exact SubR.nil | apply SubL.cons | apply SubR.cons | apply Sub.sl | apply Sub.agg)) (.refl _)⟩ ?_
      simp (maxSteps := 4000000) (disch := omega) only [EW, Nat.reduceBEq, reduceIte, Nat.reduceAdd, Nat.reduceLeDiff, Nat.reduceLT, Nat.reduceSub, Nat.reduceMul, reduceCtorEq, Int.reduceNeg, Int.reduceSub, Int.reduceAdd, Int.reduceLE, Int.reduceLT, Int.reduceMul, Int.reduceToNat, Int.reduceEq, Int.reduceBEq, Int.reduceBNe, Nat.reduceEqDiff]
      exact fin rfl
    | 1, _ =>
      have hc := one_check ([], []) [] (t, rs) (decide (4096 < 4090 + k)) (by simp) (by simp [longV, oddS, Vw.tag, Vw.text, Vw.key, Vw.attrs, hl])
      first | rw [decide_eq_true hb] at hc | rw [decide_eq_false hb] at hc
      simp (maxSteps := 4000000) (disch := omega) only [EW, Nat.reduceBEq, reduceIte, Nat.reduceAdd, Nat.reduceLeDiff, Nat.reduceLT, Nat.reduceSub, Nat.reduceMul, reduceCtorEq, Int.reduceNeg, Int.reduceSub, Int.reduceAdd, Int.reduceLE, Int.reduceLT, Int.reduceMul, Int.reduceToNat, Int.reduceEq, Int.reduceBEq, Int.reduceBNe, Nat.reduceEqDiff]
      refine vk_callR rfl ⟨_, .inl rfl, VFn.sub hc (by (repeat' first | exact Sub.refl _ | exact Sub.nil _ | exact SubL.nil | exact SubR.nil | apply SubL.cons | apply SubR.cons | apply Sub.sl | apply Sub.agg)) (.refl _)⟩ ?_
      simp (maxSteps := 4000000) (disch := omega) only [EW, Nat.reduceBEq, reduceIte, Nat.reduceAdd, Nat.reduceLeDiff, Nat.reduceLT, Nat.reduceSub, Nat.reduceMul, reduceCtorEq, Int.reduceNeg, Int.reduceSub, Int.reduceAdd, Int.reduceLE, Int.reduceLT, Int.reduceMul, Int.reduceToNat, Int.reduceEq, Int.reduceBEq, Int.reduceBNe, Nat.reduceEqDiff]
      exact fin rfl
    | 2, _ =>
      have hc := one_check ([], []) [((t, rs), ([], []))] ([], []) (decide (4096 < 4090 + k)) (by simp) (by simp [longV, oddS, Vw.tag, Vw.text, Vw.key, Vw.attrs, hl])
      first | rw [decide_eq_true hb] at hc | rw [decide_eq_false hb] at hc
      simp (maxSteps := 4000000) (disch := omega) only [EW, Nat.reduceBEq, reduceIte, Nat.reduceAdd, Nat.reduceLeDiff, Nat.reduceLT, Nat.reduceSub, Nat.reduceMul, reduceCtorEq, Int.reduceNeg, Int.reduceSub, Int.reduceAdd, Int.reduceLE, Int.reduceLT, Int.reduceMul, Int.reduceToNat, Int.reduceEq, Int.reduceBEq, Int.reduceBNe, Nat.reduceEqDiff]
      refine vk_callR rfl ⟨_, .inl rfl, VFn.sub hc (by (repeat' first | exact Sub.refl _ | exact Sub.nil _ | exact SubL.nil | exact SubR.nil | apply SubL.cons | apply SubR.cons | apply Sub.sl | apply Sub.agg)) (.refl _)⟩ ?_
      simp (maxSteps := 4000000) (disch := omega) only [EW, Nat.reduceBEq, reduceIte, Nat.reduceAdd, Nat.reduceLeDiff, Nat.reduceLT, Nat.reduceSub, Nat.reduceMul, reduceCtorEq, Int.reduceNeg, Int.reduceSub, Int.reduceAdd, Int.reduceLE, Int.reduceLT, Int.reduceMul, Int.reduceToNat, Int.reduceEq, Int.reduceBEq, Int.reduceBNe, Nat.reduceEqDiff]
      exact fin rfl
    | 3, _ =>
      have hc := one_check ([], []) [(([], []), (t, rs))] ([], []) (decide (4096 < 4090 + k)) (by simp) (by simp [longV, oddS, Vw.tag, Vw.text, Vw.key, Vw.attrs, hl])
      first | rw [decide_eq_true hb] at hc | rw [decide_eq_false hb] at hc
      simp (maxSteps := 4000000) (disch := omega) only [EW, Nat.reduceBEq, reduceIte, Nat.reduceAdd, Nat.reduceLeDiff, Nat.reduceLT, Nat.reduceSub, Nat.reduceMul, reduceCtorEq, Int.reduceNeg, Int.reduceSub, Int.reduceAdd, Int.reduceLE, Int.reduceLT, Int.reduceMul, Int.reduceToNat, Int.reduceEq, Int.reduceBEq, Int.reduceBNe, Nat.reduceEqDiff]
      refine vk_callR rfl ⟨_, .inl rfl, VFn.sub hc (by (repeat' first | exact Sub.refl _ | exact Sub.nil _ | exact SubL.nil | exact SubR.nil | apply SubL.cons | apply SubR.cons | apply Sub.sl | apply Sub.agg)) (.refl _)⟩ ?_
      simp (maxSteps := 4000000) (disch := omega) only [EW, Nat.reduceBEq, reduceIte, Nat.reduceAdd, Nat.reduceLeDiff, Nat.reduceLT, Nat.reduceSub, Nat.reduceMul, reduceCtorEq, Int.reduceNeg, Int.reduceSub, Int.reduceAdd, Int.reduceLE, Int.reduceLT, Int.reduceMul, Int.reduceToNat, Int.reduceEq, Int.reduceBEq, Int.reduceBNe, Nat.reduceEqDiff]
      exact fin rfl
    | j + 4, h => exact absurd h (by omega)
end Go.Proofs.VL

/- Contracts of functions of the program, for what calls them, and the law that its name tells. -/
import Derived.Test.YthlmgkfipbphmaaFA
import Derived.Test.YthlmgkfipbphmaaSD
namespace Go.Proofs.VL
open Go Go.RowKit
set_option maxRecDepth 100000
set_option maxHeartbeats 4000000
set_option linter.unusedSimpArgs false
set_option linter.unusedVariables false
attribute [local irreducible] vwp vk

theorem lim_alive : VFn Try.prog 22 [] (.bool true) := runT_sound tabL_ok 100000 60 (by kernel_rfl)
theorem one_depth (t : List UInt8 × Runs) (ky : List UInt8) (a) (h) (tx : List UInt8 × Runs) (s : Int) : VFn Try.prog 23 [.sl 10 (vRows [.mk 1 t ky a h [] tx s])] (.int .i64 1) := runV_sound tabL_ok 1000 40 (by kernel_rfl)
theorem one_size (t : List UInt8 × Runs) (ky : List UInt8) (a) (h) (tx : List UInt8 × Runs) (s : Int) : VFn Try.prog 45 [.sl 10 (vRows [.mk 1 t ky a h [] tx s])] (.int .i64 1) := runV_sound tabL_ok 1000 40 (by kernel_rfl)
theorem one_keys (t : List UInt8 × Runs) (ky : List UInt8) (a) (h) (tx : List UInt8 × Runs) (s : Int) : VFn Try.prog 47 [.sl 10 (vRows [.mk 1 t ky a h [] tx s])] (.bool true) := runV_sound tabL_ok 1000 40 (by kernel_rfl)
theorem one_check (t : List UInt8 × Runs) (a) (tx : List UInt8 × Runs) (b : Bool) (ha : a.length ≤ 1) (hb : longV (.mk 1 t [] a [] [] tx 0) = b) : VFn Try.prog 24 [.sl 10 (vRows [.mk 1 t [] a [] [] tx 0])] (.int .i64 (if b then 5 else 0)) := by
  have h1 := one_depth t [] a [] tx 0
  have h2 := one_size t [] a [] tx 0
  have h3 := one_keys t [] a [] tx 0
  have h4 := lim_some 49 longV (fun v h => lim_long v h) [.mk 1 t [] a [] [] tx 0] (by simp only [cntV, cntV1]; omega)
  have h5 := lim_some 50 manyV (fun v h => lim_many v) [.mk 1 t [] a [] [] tx 0] (by simp only [cntV, cntV1]; omega)
  have e4 : someV longV [.mk 1 t [] a [] [] tx 0] = b := by
    rw [someV_any, List.any_cons, List.any_nil, hb]
    show ((b || someV longV []) || false) = b
    simp [someV]
  have e5 : someV manyV [.mk 1 t [] a [] [] tx 0] = false := by
    rw [someV_any, List.any_cons, List.any_nil]
    show ((manyV _ || someV manyV []) || false) = false
    simp only [someV, manyV, Vw.attrs, Vw.hooks, List.length_nil, Bool.or_false]
    have hn : ¬ 8 < a.length := by omega
    simp [hn]
  rw [e4] at h4
  rw [e5] at h5
  refine VFn.intro ok24 (Nat.le_of_ble_eq_true rfl) (vk_start ?_)
  simp (maxSteps := 4000000) (disch := omega) only [EW, Nat.reduceBEq, reduceIte, Nat.reduceAdd, Nat.reduceLeDiff, Nat.reduceLT, Nat.reduceSub, Nat.reduceMul, reduceCtorEq, Int.reduceNeg, Int.reduceSub, Int.reduceAdd, Int.reduceLE, Int.reduceLT, Int.reduceMul, Int.reduceToNat, Int.reduceEq, Int.reduceBEq, Int.reduceBNe, Nat.reduceEqDiff, vc24, rs24]
  (refine vk_callR rfl ⟨_, .inl rfl, h1⟩ ?_; simp (maxSteps := 4000000) (disch := omega) only [EW, Nat.reduceBEq, reduceIte, Nat.reduceAdd, Nat.reduceLeDiff, Nat.reduceLT, Nat.reduceSub, Nat.reduceMul, reduceCtorEq, Int.reduceNeg, Int.reduceSub, Int.reduceAdd, Int.reduceLE, Int.reduceLT, Int.reduceMul, Int.reduceToNat, Int.reduceEq, Int.reduceBEq, Int.reduceBNe, Nat.reduceEqDiff])
  (refine vk_callR rfl ⟨_, .inl rfl, h2⟩ ?_; simp (maxSteps := 4000000) (disch := omega) only [EW, Nat.reduceBEq, reduceIte, Nat.reduceAdd, Nat.reduceLeDiff, Nat.reduceLT, Nat.reduceSub, Nat.reduceMul, reduceCtorEq, Int.reduceNeg, Int.reduceSub, Int.reduceAdd, Int.reduceLE, Int.reduceLT, Int.reduceMul, Int.reduceToNat, Int.reduceEq, Int.reduceBEq, Int.reduceBNe, Nat.reduceEqDiff])
  (refine vk_callR rfl ⟨_, .inl rfl, h3⟩ ?_; simp (maxSteps := 4000000) (disch := omega) only [EW, Nat.reduceBEq, reduceIte, Nat.reduceAdd, Nat.reduceLeDiff, Nat.reduceLT, Nat.reduceSub, Nat.reduceMul, reduceCtorEq, Int.reduceNeg, Int.reduceSub, Int.reduceAdd, Int.reduceLE, Int.reduceLT, Int.reduceMul, Int.reduceToNat, Int.reduceEq, Int.reduceBEq, Int.reduceBNe, Nat.reduceEqDiff])
  (refine vk_callR rfl ⟨_, .inl rfl, h4⟩ ?_; simp (maxSteps := 4000000) (disch := omega) only [EW, Nat.reduceBEq, reduceIte, Nat.reduceAdd, Nat.reduceLeDiff, Nat.reduceLT, Nat.reduceSub, Nat.reduceMul, reduceCtorEq, Int.reduceNeg, Int.reduceSub, Int.reduceAdd, Int.reduceLE, Int.reduceLT, Int.reduceMul, Int.reduceToNat, Int.reduceEq, Int.reduceBEq, Int.reduceBNe, Nat.reduceEqDiff])
  cases b
  · simp (maxSteps := 4000000) (disch := omega) only [EW, Nat.reduceBEq, reduceIte, Nat.reduceAdd, Nat.reduceLeDiff, Nat.reduceLT, Nat.reduceSub, Nat.reduceMul, reduceCtorEq, Int.reduceNeg, Int.reduceSub, Int.reduceAdd, Int.reduceLE, Int.reduceLT, Int.reduceMul, Int.reduceToNat, Int.reduceEq, Int.reduceBEq, Int.reduceBNe, Nat.reduceEqDiff]
    (refine vk_callR rfl ⟨_, .inl rfl, h5⟩ ?_; simp (maxSteps := 4000000) (disch := omega) only [EW, Nat.reduceBEq, reduceIte, Nat.reduceAdd, Nat.reduceLeDiff, Nat.reduceLT, Nat.reduceSub, Nat.reduceMul, reduceCtorEq, Int.reduceNeg, Int.reduceSub, Int.reduceAdd, Int.reduceLE, Int.reduceLT, Int.reduceMul, Int.reduceToNat, Int.reduceEq, Int.reduceBEq, Int.reduceBNe, Nat.reduceEqDiff])
    exact fin rfl
  · simp (maxSteps := 4000000) (disch := omega) only [EW, Nat.reduceBEq, reduceIte, Nat.reduceAdd, Nat.reduceLeDiff, Nat.reduceLT, Nat.reduceSub, Nat.reduceMul, reduceCtorEq, Int.reduceNeg, Int.reduceSub, Int.reduceAdd, Int.reduceLE, Int.reduceLT, Int.reduceMul, Int.reduceToNat, Int.reduceEq, Int.reduceBEq, Int.reduceBNe, Nat.reduceEqDiff]
    exact fin rfl
theorem zeros_bytes : ∀ n : Nat, rowsBytes (List.replicate n [.int .u8 0]) = some (List.replicate n 0)
  | 0 => rfl
  | n + 1 => by rw [List.replicate_succ, List.replicate_succ, rowsBytes, zeros_bytes n]; rfl
end Go.Proofs.VL

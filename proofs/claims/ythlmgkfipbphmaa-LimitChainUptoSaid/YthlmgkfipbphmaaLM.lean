/- Contracts of functions of the program, for what calls them, and the law that its name tells. -/
import Derived.Test.YthlmgkfipbphmaaEA
import Derived.Test.YthlmgkfipbphmaaLA
namespace Go.Proofs.VL
open Go Go.RowKit
set_option maxRecDepth 100000
set_option maxHeartbeats 8000000
set_option linter.unusedSimpArgs false
set_option linter.unusedVariables false
attribute [local irreducible] vwp vk

theorem und_u8 : Try.prog.underlying 5 = some (.int .u8) := by kernel_rfl
theorem limit_alive : VFn Try.prog 22 [] (.bool true) := runT_sound tabL_ok 100000 60 (by kernel_rfl)
theorem limitChain (n : Int) (h0 : 0 ≤ n) (h1 : n ≤ 255) (b : Bool) : VFn Try.prog 5 [.int .u8 n, .bool b] (.bool true) := by
  refine VFn.intro ok5 (Nat.le_of_ble_eq_true rfl) (vk_start ?_)
  obtain ⟨k, hk, hm⟩ : ∃ k : Nat, k < 20 ∧ n.tmod 20 = k := ⟨(n % 20).toNat, by omega, by rw [Int.tmod_eq_emod_of_nonneg h0]; omega⟩
  simp (maxSteps := 4000000) (disch := omega) only [EW, Nat.reduceBEq, reduceIte, Nat.reduceAdd, Nat.reduceLeDiff, Nat.reduceLT, Nat.reduceSub, Nat.reduceMul, reduceCtorEq, Int.reduceNeg, Int.reduceSub, Int.reduceAdd, Int.reduceLE, Int.reduceLT, Int.reduceMul, Int.reduceToNat, Int.reduceEq, Int.reduceBEq, Int.reduceBNe, Nat.reduceEqDiff, vc5, rs5]
  (refine vk_callR rfl ⟨_, .inl rfl, limit_alive⟩ ?_; simp (maxSteps := 4000000) (disch := omega) only [EW, Nat.reduceBEq, reduceIte, Nat.reduceAdd, Nat.reduceLeDiff, Nat.reduceLT, Nat.reduceSub, Nat.reduceMul, reduceCtorEq, Int.reduceNeg, Int.reduceSub, Int.reduceAdd, Int.reduceLE, Int.reduceLT, Int.reduceMul, Int.reduceToNat, Int.reduceEq, Int.reduceBEq, Int.reduceBNe, Nat.reduceEqDiff, hm])
  refine vk_joinR (γ := Unit) (fun _ => { tm := [(1, .bool b), (5, .int .i64 k), (6, .sl 10 [[.int .i64 (if b then 3 else 2), .str [], .nils, .str [], .nils, .nils, .nils, .str [], .nils, .int .i64 0]])], ob := [], base := 0 }) (fun _ => True) ?_ ?_
  · intro R hN hE hR
    cases b
    · simp (maxSteps := 4000000) (disch := omega) only [EW, Nat.reduceBEq, reduceIte, Nat.reduceAdd, Nat.reduceLeDiff, Nat.reduceLT, Nat.reduceSub, Nat.reduceMul, reduceCtorEq, Int.reduceNeg, Int.reduceSub, Int.reduceAdd, Int.reduceLE, Int.reduceLT, Int.reduceMul, Int.reduceToNat, Int.reduceEq, Int.reduceBEq, Int.reduceBNe, Nat.reduceEqDiff]
      refine hN _ () trivial ?_
      exact ⟨[], rfl, rfl, rfl, rfl, ⟨.same _ rfl, .same _ rfl, (.lentA rfl rfl), trivial⟩, trivial⟩
    · simp (maxSteps := 4000000) (disch := omega) only [EW, Nat.reduceBEq, reduceIte, Nat.reduceAdd, Nat.reduceLeDiff, Nat.reduceLT, Nat.reduceSub, Nat.reduceMul, reduceCtorEq, Int.reduceNeg, Int.reduceSub, Int.reduceAdd, Int.reduceLE, Int.reduceLT, Int.reduceMul, Int.reduceToNat, Int.reduceEq, Int.reduceBEq, Int.reduceBNe, Nat.reduceEqDiff]
      refine hN _ () trivial ?_
      exact ⟨[], rfl, rfl, rfl, rfl, ⟨.same _ rfl, .same _ rfl, (.lentA rfl rfl), trivial⟩, trivial⟩
  · rintro _ _
    match k, hk with
    | 0, _ => cases b <;> exact vk_ev tabL_ok 100000 60 (by as_aux_lemma => kernel_rfl)
    | 1, _ => cases b <;> exact vk_ev tabL_ok 100000 60 (by as_aux_lemma => kernel_rfl)
    | 2, _ => cases b <;> exact vk_ev tabL_ok 100000 60 (by as_aux_lemma => kernel_rfl)
    | 3, _ => cases b <;> exact vk_ev tabL_ok 100000 60 (by as_aux_lemma => kernel_rfl)
    | 4, _ => cases b <;> exact vk_ev tabL_ok 100000 60 (by as_aux_lemma => kernel_rfl)
    | 5, _ => cases b <;> exact vk_ev tabL_ok 100000 60 (by as_aux_lemma => kernel_rfl)
    | 6, _ => cases b <;> exact vk_ev tabL_ok 100000 60 (by as_aux_lemma => kernel_rfl)
    | 7, _ => cases b <;> exact vk_ev tabL_ok 100000 60 (by as_aux_lemma => kernel_rfl)
    | 8, _ => cases b <;> exact vk_ev tabL_ok 100000 60 (by as_aux_lemma => kernel_rfl)
    | 9, _ => cases b <;> exact vk_ev tabL_ok 100000 60 (by as_aux_lemma => kernel_rfl)
    | 10, _ => cases b <;> exact vk_ev tabL_ok 100000 60 (by as_aux_lemma => kernel_rfl)
    | 11, _ => cases b <;> exact vk_ev tabL_ok 100000 60 (by as_aux_lemma => kernel_rfl)
    | 12, _ => cases b <;> exact vk_ev tabL_ok 100000 60 (by as_aux_lemma => kernel_rfl)
    | 13, _ => cases b <;> exact vk_ev tabL_ok 100000 60 (by as_aux_lemma => kernel_rfl)
    | 14, _ => cases b <;> exact vk_ev tabL_ok 100000 60 (by as_aux_lemma => kernel_rfl)
    | 15, _ => cases b <;> exact vk_ev tabL_ok 100000 60 (by as_aux_lemma => kernel_rfl)
    | 16, _ => cases b <;> exact vk_ev tabL_ok 100000 60 (by as_aux_lemma => kernel_rfl)
    | 17, _ => cases b <;> exact vk_ev tabL_ok 100000 60 (by as_aux_lemma => kernel_rfl)
    | 18, _ => cases b <;> exact vk_ev tabL_ok 100000 60 (by as_aux_lemma => kernel_rfl)
    | 19, _ => cases b <;> exact vk_ev tabL_ok 100000 60 (by as_aux_lemma => kernel_rfl)
    | k + 20, h => exact absurd h (by omega)
end Go.Proofs.VL

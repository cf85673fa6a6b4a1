/- Contracts of functions of the program, for what calls them, and the law that its name tells. -/
import Derived.Test.YtdiddnapamjojaaUA
import Derived.Test.YtdiddnapamjojaaUE
namespace Go.Proofs.VL
open Go Go.RowKit
set_option maxRecDepth 100000
set_option maxHeartbeats 2000000
set_option linter.unusedSimpArgs false
set_option linter.unusedVariables false
attribute [local irreducible] vwp vk

theorem wireCuts (p : Pat) (k : Int) (hk : -9223372036854775808 ≤ k ∧ k ≤ 9223372036854775807) (hp : PTiny p) (hb : (patO p).length ≤ 200000000) : VFn Try.prog 10 [.agg (pCells p), .int .i64 k] (.bool true) := by
  refine VFn.intro ok10 (Nat.le_of_ble_eq_true rfl) (vk_start ?_)
  have ha := alive48
  have hput := wire_put [p] (by simp) (fun q hq => by simp at hq; subst hq; exact hp) (by simpa [patsO] using hb)
  have hput' : VFn Try.prog 49 [.sl 16 [pCells p]] _ := hput
  have hcut := fun (h : (putB [p]).2 = 0) (j : Nat) (hj : j < (putB [p]).1.length) => read_cut hp h hj
  have hok := fun (h : (putB [p]).2 = 0) => putB_ok h
  have hnok : (putB [p]).2 ≠ 0 → (putB [p]).1 = [] := by
    unfold putB
    split
    · split
      · intro _; rfl
      · split
        · intro _; rfl
        · intro h; exact absurd rfl h
    · intro _; rfl
  have hpos := patO_pos p
  have epo : patsO [p] = patO p := by simp [patsO]
  generalize putB [p] = z at *
  obtain ⟨z1, z2⟩ := z
  simp only at hcut hok hnok hput'
  have hzl := bRows_length z1
  by_cases h0 : z2 = 0
  · subst h0
    obtain ⟨h1, h2, h3⟩ := hok rfl
    rw [epo] at h1 h3
    subst h1
    have hn : ∀ a : Int, -((patO p).length : Int) < a.tmod (patO p).length ∧ a.tmod (patO p).length < (patO p).length ∧ (0 ≤ a → 0 ≤ a.tmod (patO p).length) := by
      intro a
      have q1 := Int.tmod_lt_of_pos a (b := ((patO p).length : Int)) (by omega)
      have q2 := Int.lt_tmod_of_pos a (b := ((patO p).length : Int)) (by omega)
      exact ⟨q2, q1, fun h => Int.tmod_nonneg _ h⟩
    have hr := hn k
    obtain ⟨r, hre⟩ : ∃ r, r = k.tmod (patO p).length := ⟨_, rfl⟩
    have hq := hn (r + (patO p).length)
    obtain ⟨q, hqe⟩ : ∃ q, q = (r + (patO p).length).tmod (patO p).length := ⟨_, rfl⟩
    rw [← hre] at hr
    rw [← hqe] at hq
    have hq0 := hq.2.2 (by omega)
    obtain ⟨j, rfl⟩ : ∃ j : Nat, q = j := ⟨q.toNat, by omega⟩
    have hc := hcut rfl j (by omega)
    have hrd := wire_read ((patO p).take j) (by rw [List.length_take]; omega)
    have htk : List.take j (bRows (patO p)) = bRows ((patO p).take j) := bRows_take2 _ _
    clear hput hnok hcut hok
    generalize readB ((patO p).take j) = rb at *
    obtain ⟨rb1, rb2⟩ := rb
    simp only at hc hrd
    by_cases hj : j = 0
    · have h2 := hc.2 hj
      subst hj
      subst h2
      simp (maxSteps := 4000000) (disch := omega) only [EW, Nat.reduceBEq, reduceIte, Nat.reduceAdd, Nat.reduceLeDiff, Nat.reduceLT, Nat.reduceSub, Nat.reduceMul, reduceCtorEq, Int.reduceNeg, Int.reduceSub, Int.reduceAdd, Int.reduceLE, Int.reduceLT, Int.reduceMul, Int.reduceToNat, Int.reduceEq, Int.reduceBEq, Int.reduceBNe, Nat.reduceEqDiff, vc10, rs10]
      (refine vk_callR rfl ⟨_, .inl rfl, ha⟩ ?_; simp (maxSteps := 4000000) (disch := omega) only [EW, Nat.reduceBEq, reduceIte, Nat.reduceAdd, Nat.reduceLeDiff, Nat.reduceLT, Nat.reduceSub, Nat.reduceMul, reduceCtorEq, Int.reduceNeg, Int.reduceSub, Int.reduceAdd, Int.reduceLE, Int.reduceLT, Int.reduceMul, Int.reduceToNat, Int.reduceEq, Int.reduceBEq, Int.reduceBNe, Nat.reduceEqDiff, PCp])
      (refine vk_callR rfl ⟨_, .inl rfl, hput'⟩ ?_; simp (maxSteps := 4000000) (disch := omega) only [EW, Nat.reduceBEq, reduceIte, Nat.reduceAdd, Nat.reduceLeDiff, Nat.reduceLT, Nat.reduceSub, Nat.reduceMul, reduceCtorEq, Int.reduceNeg, Int.reduceSub, Int.reduceAdd, Int.reduceLE, Int.reduceLT, Int.reduceMul, Int.reduceToNat, Int.reduceEq, Int.reduceBEq, Int.reduceBNe, Nat.reduceEqDiff, hzl, ← hre, ← hqe, htk])
      (refine vk_callR rfl ⟨_, .inl rfl, hrd⟩ ?_; simp (maxSteps := 4000000) (disch := omega) only [EW, Nat.reduceBEq, reduceIte, Nat.reduceAdd, Nat.reduceLeDiff, Nat.reduceLT, Nat.reduceSub, Nat.reduceMul, reduceCtorEq, Int.reduceNeg, Int.reduceSub, Int.reduceAdd, Int.reduceLE, Int.reduceLT, Int.reduceMul, Int.reduceToNat, Int.reduceEq, Int.reduceBEq, Int.reduceBNe, Nat.reduceEqDiff])
      exact fin rfl
    · have h2 : ¬ rb2 = 0 := fun h => hj (hc.1 h)
      simp (maxSteps := 4000000) (disch := omega) only [EW, Nat.reduceBEq, reduceIte, Nat.reduceAdd, Nat.reduceLeDiff, Nat.reduceLT, Nat.reduceSub, Nat.reduceMul, reduceCtorEq, Int.reduceNeg, Int.reduceSub, Int.reduceAdd, Int.reduceLE, Int.reduceLT, Int.reduceMul, Int.reduceToNat, Int.reduceEq, Int.reduceBEq, Int.reduceBNe, Nat.reduceEqDiff, vc10, rs10]
      (refine vk_callR rfl ⟨_, .inl rfl, ha⟩ ?_; simp (maxSteps := 4000000) (disch := omega) only [EW, Nat.reduceBEq, reduceIte, Nat.reduceAdd, Nat.reduceLeDiff, Nat.reduceLT, Nat.reduceSub, Nat.reduceMul, reduceCtorEq, Int.reduceNeg, Int.reduceSub, Int.reduceAdd, Int.reduceLE, Int.reduceLT, Int.reduceMul, Int.reduceToNat, Int.reduceEq, Int.reduceBEq, Int.reduceBNe, Nat.reduceEqDiff, PCp])
      (refine vk_callR rfl ⟨_, .inl rfl, hput'⟩ ?_; simp (maxSteps := 4000000) (disch := omega) only [EW, Nat.reduceBEq, reduceIte, Nat.reduceAdd, Nat.reduceLeDiff, Nat.reduceLT, Nat.reduceSub, Nat.reduceMul, reduceCtorEq, Int.reduceNeg, Int.reduceSub, Int.reduceAdd, Int.reduceLE, Int.reduceLT, Int.reduceMul, Int.reduceToNat, Int.reduceEq, Int.reduceBEq, Int.reduceBNe, Nat.reduceEqDiff, hzl, ← hre, ← hqe, htk])
      (refine vk_callR rfl ⟨_, .inl rfl, hrd⟩ ?_; simp (maxSteps := 4000000) (disch := omega) only [EW, Nat.reduceBEq, reduceIte, Nat.reduceAdd, Nat.reduceLeDiff, Nat.reduceLT, Nat.reduceSub, Nat.reduceMul, reduceCtorEq, Int.reduceNeg, Int.reduceSub, Int.reduceAdd, Int.reduceLE, Int.reduceLT, Int.reduceMul, Int.reduceToNat, Int.reduceEq, Int.reduceBEq, Int.reduceBNe, Nat.reduceEqDiff])
      exact fin rfl
  · have h1 := hnok h0
    subst h1
    simp (maxSteps := 4000000) (disch := omega) only [EW, Nat.reduceBEq, reduceIte, Nat.reduceAdd, Nat.reduceLeDiff, Nat.reduceLT, Nat.reduceSub, Nat.reduceMul, reduceCtorEq, Int.reduceNeg, Int.reduceSub, Int.reduceAdd, Int.reduceLE, Int.reduceLT, Int.reduceMul, Int.reduceToNat, Int.reduceEq, Int.reduceBEq, Int.reduceBNe, Nat.reduceEqDiff, vc10, rs10]
    (refine vk_callR rfl ⟨_, .inl rfl, ha⟩ ?_; simp (maxSteps := 4000000) (disch := omega) only [EW, Nat.reduceBEq, reduceIte, Nat.reduceAdd, Nat.reduceLeDiff, Nat.reduceLT, Nat.reduceSub, Nat.reduceMul, reduceCtorEq, Int.reduceNeg, Int.reduceSub, Int.reduceAdd, Int.reduceLE, Int.reduceLT, Int.reduceMul, Int.reduceToNat, Int.reduceEq, Int.reduceBEq, Int.reduceBNe, Nat.reduceEqDiff, PCp])
    (refine vk_callR rfl ⟨_, .inl rfl, hput'⟩ ?_; simp (maxSteps := 4000000) (disch := omega) only [EW, Nat.reduceBEq, reduceIte, Nat.reduceAdd, Nat.reduceLeDiff, Nat.reduceLT, Nat.reduceSub, Nat.reduceMul, reduceCtorEq, Int.reduceNeg, Int.reduceSub, Int.reduceAdd, Int.reduceLE, Int.reduceLT, Int.reduceMul, Int.reduceToNat, Int.reduceEq, Int.reduceBEq, Int.reduceBNe, Nat.reduceEqDiff, hzl])
    exact fin rfl
end Go.Proofs.VL

/- Contracts of functions of the program, for what calls them, and the law that its name tells. -/
import Derived.Test.YthlmgkfipbphmaaGreatKF
namespace Go.Proofs.VL
open Go Go.RowKit
set_option maxRecDepth 100000
set_option maxHeartbeats 8000000
set_option linter.unusedSimpArgs false
set_option linter.unusedVariables false
attribute [local irreducible] vwp vk

/-- What a script's run comes to, of steps that are known. -/
theorem scriptMany (m kind : Int) : VFn Tryz.prog 6 [.int .i64 m, .int .i64 kind] (.bool true) := by
  refine VFn.intro ok6 (Nat.le_of_ble_eq_true rfl) (vk_start ?_)
  obtain ⟨k, hk, h1, h2, h3⟩ := mod3 m
  generalize hn : 254 + k = n
  have e0 : (255 + (k : Int)).toNat = n + 1 := by omega
  have e1 : (255 + (k : Int)) = (n : Int) + 1 := by omega
  simp (maxSteps := 4000000) (disch := omega) only [EW, Nat.reduceBEq, reduceIte, Nat.reduceAdd, Nat.reduceLeDiff, Nat.reduceLT, Nat.reduceSub, Nat.reduceMul, reduceCtorEq, Int.reduceNeg, Int.reduceSub, Int.reduceAdd, Int.reduceLE, Int.reduceLT, Int.reduceMul, Int.reduceToNat, Int.reduceEq, Int.reduceBEq, Int.reduceBNe, Nat.reduceEqDiff, vc6, rs6]
  (refine vk_callR rfl ⟨_, .inl rfl, alive32⟩ ?_; simp (maxSteps := 4000000) (disch := omega) only [EW, Nat.reduceBEq, reduceIte, Nat.reduceAdd, Nat.reduceLeDiff, Nat.reduceLT, Nat.reduceSub, Nat.reduceMul, reduceCtorEq, Int.reduceNeg, Int.reduceSub, Int.reduceAdd, Int.reduceLE, Int.reduceLT, Int.reduceMul, Int.reduceToNat, Int.reduceEq, Int.reduceBEq, Int.reduceBNe, Nat.reduceEqDiff, h1, e1, e0])
  refine vk_loopR (γ := Nat) (fun i => { tm := [(0, .int .i64 ((n : Int) + 1)), (1, .int .i64 kind), (5, .ref 0 (n + 1)), (6, .int .i64 i)], ob := [some (.arr 70 14 (rowsI i (n + 1)))], base := 0 })
    (fun i => i ≤ n + 1) (fun i => n + 1 - i) 0 (Nat.zero_le _) ?_ ?_
  · have e : List.replicate (n + 1) (stp 0) = rowsI 0 (n + 1) := by simp [rowsI]
    rw [← e]
    exact ⟨[some 0], rfl, rfl, rfl, rfl, ⟨.same _ rfl, .same _ rfl, .ref rfl, .same _ rfl, trivial⟩, ⟨⟨_, rfl, .arr (.refl _)⟩, trivial⟩⟩
  · rintro i hi R hN hE hR
    rcases Nat.lt_or_ge i (n + 1) with hlt | hge
    · have hr := rowsI_get hlt
      have hs := rowsI_set hlt
      have hsl : (stp 0).length = 14 := rfl
      have hp : putCells (stp 0) 0 [.int .i64 3] = stp 3 := rfl
      simp (maxSteps := 4000000) (disch := omega) only [EW, Nat.reduceBEq, reduceIte, Nat.reduceAdd, Nat.reduceLeDiff, Nat.reduceLT, Nat.reduceSub, Nat.reduceMul, reduceCtorEq, Int.reduceNeg, Int.reduceSub, Int.reduceAdd, Int.reduceLE, Int.reduceLT, Int.reduceMul, Int.reduceToNat, Int.reduceEq, Int.reduceBEq, Int.reduceBNe, Nat.reduceEqDiff, hr, hsl, hp, hs]
      refine hN _ (i + 1) hlt (by omega) ?_
      exact ⟨[some 0], rfl, rfl, rfl, rfl, ⟨.same _ rfl, .same _ rfl, .ref rfl, .same _ rfl, trivial⟩, ⟨⟨_, rfl, .arr (.refl _)⟩, trivial⟩⟩
    · have e : i = n + 1 := by omega
      subst e
      have hr := rowsI_at (n := n)
      have hs := rowsI_last (n := n) kind
      have hsl : (stp 3).length = 14 := rfl
      have hp : putCells (stp 3) 0 [.int .i64 kind] = stp kind := rfl
      have hln : (List.replicate n (3 : Int) ++ [kind]).length = n + 1 := by simp
      simp (maxSteps := 4000000) (disch := omega) only [EW, Nat.reduceBEq, reduceIte, Nat.reduceAdd, Nat.reduceLeDiff, Nat.reduceLT, Nat.reduceSub, Nat.reduceMul, reduceCtorEq, Int.reduceNeg, Int.reduceSub, Int.reduceAdd, Int.reduceLE, Int.reduceLT, Int.reduceMul, Int.reduceToNat, Int.reduceEq, Int.reduceBEq, Int.reduceBNe, Nat.reduceEqDiff]
      refine hE _ _ ?_
      have e4 : ((n : Int) + 1 - 1).toNat = n := by omega
      simp (maxSteps := 4000000) (disch := omega) only [EW, Nat.reduceBEq, reduceIte, Nat.reduceAdd, Nat.reduceLeDiff, Nat.reduceLT, Nat.reduceSub, Nat.reduceMul, reduceCtorEq, Int.reduceNeg, Int.reduceSub, Int.reduceAdd, Int.reduceLE, Int.reduceLT, Int.reduceMul, Int.reduceToNat, Int.reduceEq, Int.reduceBEq, Int.reduceBNe, Nat.reduceEqDiff, hr, hsl, hp, hs, e4]
      have hlm : ((List.replicate n (3 : Int) ++ [kind]).map stp).length = n + 1 := by rw [List.length_map]; exact hln
      have bad : (kind < 1 ∨ 3 < kind) → n ≤ 255 → VCall Tryz.prog 33 [.ref 0 (n + 1)] [some (.arr 70 14 ((List.replicate n (3 : Int) ++ [kind]).map stp))] (.tup [.nils, .nilp, .int .i64 12]) [some (.arr 70 14 ((List.replicate n (3 : Int) ++ [kind]).map stp))] ∧ VFn Tryz.prog 34 [.sl 14 ((List.replicate n (3 : Int) ++ [kind]).map stp)] (.int .i64 12) := by
        intro hb hn
        have ha : (List.replicate n (3 : Int) ++ [kind]).all kindB = false := by
          rw [List.all_append]
          have : kindB kind = false := by
            unfold kindB
            rcases hb with hb | hb
            · rw [decide_eq_false (by omega : ¬ 1 ≤ kind)]; rfl
            · rw [decide_eq_false (by omega : ¬ kind ≤ 3), Bool.and_false]
          simp [this]
        have h1 := script_runBad 70 _ (by rw [hln]; omega) ha
        have h2 := script_check _ (by rw [hln]; omega : (List.replicate n (3 : Int) ++ [kind]).length ≤ 256)
        rw [hln] at h1
        rw [ha] at h2
        exact ⟨h1, h2⟩
      obtain h | h : n ≤ 255 ∨ n = 256 := by omega
      · by_cases hk1 : kind < 1
        · obtain ⟨hr1, hr2⟩ := bad (.inl hk1) h
          simp (maxSteps := 4000000) (disch := omega) only [EW, Nat.reduceBEq, reduceIte, Nat.reduceAdd, Nat.reduceLeDiff, Nat.reduceLT, Nat.reduceSub, Nat.reduceMul, reduceCtorEq, Int.reduceNeg, Int.reduceSub, Int.reduceAdd, Int.reduceLE, Int.reduceLT, Int.reduceMul, Int.reduceToNat, Int.reduceEq, Int.reduceBEq, Int.reduceBNe, Nat.reduceEqDiff]
          refine vk_call rfl hr1 ?_
          simp (maxSteps := 4000000) (disch := omega) only [EW, Nat.reduceBEq, reduceIte, Nat.reduceAdd, Nat.reduceLeDiff, Nat.reduceLT, Nat.reduceSub, Nat.reduceMul, reduceCtorEq, Int.reduceNeg, Int.reduceSub, Int.reduceAdd, Int.reduceLE, Int.reduceLT, Int.reduceMul, Int.reduceToNat, Int.reduceEq, Int.reduceBEq, Int.reduceBNe, Nat.reduceEqDiff]
          refine vk_callR rfl ⟨_, .inr ⟨lend_own rfl hlm.symm, rfl⟩, hr2⟩ ?_
          simp (maxSteps := 4000000) (disch := omega) only [EW, Nat.reduceBEq, reduceIte, Nat.reduceAdd, Nat.reduceLeDiff, Nat.reduceLT, Nat.reduceSub, Nat.reduceMul, reduceCtorEq, Int.reduceNeg, Int.reduceSub, Int.reduceAdd, Int.reduceLE, Int.reduceLT, Int.reduceMul, Int.reduceToNat, Int.reduceEq, Int.reduceBEq, Int.reduceBNe, Nat.reduceEqDiff]
          exact fin rfl
        · by_cases hk3 : 3 < kind
          · obtain ⟨hr1, hr2⟩ := bad (.inr hk3) h
            simp (maxSteps := 4000000) (disch := omega) only [EW, Nat.reduceBEq, reduceIte, Nat.reduceAdd, Nat.reduceLeDiff, Nat.reduceLT, Nat.reduceSub, Nat.reduceMul, reduceCtorEq, Int.reduceNeg, Int.reduceSub, Int.reduceAdd, Int.reduceLE, Int.reduceLT, Int.reduceMul, Int.reduceToNat, Int.reduceEq, Int.reduceBEq, Int.reduceBNe, Nat.reduceEqDiff]
            refine vk_call rfl hr1 ?_
            simp (maxSteps := 4000000) (disch := omega) only [EW, Nat.reduceBEq, reduceIte, Nat.reduceAdd, Nat.reduceLeDiff, Nat.reduceLT, Nat.reduceSub, Nat.reduceMul, reduceCtorEq, Int.reduceNeg, Int.reduceSub, Int.reduceAdd, Int.reduceLE, Int.reduceLT, Int.reduceMul, Int.reduceToNat, Int.reduceEq, Int.reduceBEq, Int.reduceBNe, Nat.reduceEqDiff]
            refine vk_callR rfl ⟨_, .inr ⟨lend_own rfl hlm.symm, rfl⟩, hr2⟩ ?_
            simp (maxSteps := 4000000) (disch := omega) only [EW, Nat.reduceBEq, reduceIte, Nat.reduceAdd, Nat.reduceLeDiff, Nat.reduceLT, Nat.reduceSub, Nat.reduceMul, reduceCtorEq, Int.reduceNeg, Int.reduceSub, Int.reduceAdd, Int.reduceLE, Int.reduceLT, Int.reduceMul, Int.reduceToNat, Int.reduceEq, Int.reduceBEq, Int.reduceBNe, Nat.reduceEqDiff]
            exact fin rfl
          · have hrun := script_run n kind (by omega) (by omega) (by omega)
            have hchk := script_check (List.replicate n (3 : Int) ++ [kind]) (by rw [hln]; omega)
            have ha : (List.replicate n (3 : Int) ++ [kind]).all kindB = true := by
              rw [List.all_append]
              have h1 : kindB kind = true := by
                unfold kindB
                rw [decide_eq_true (by omega : 1 ≤ kind), decide_eq_true (by omega : kind ≤ 3)]; rfl
              have h3 : kindB 3 = true := rfl
              simp [h1, h3]
            rw [ha] at hchk
            simp (maxSteps := 4000000) (disch := omega) only [EW, Nat.reduceBEq, reduceIte, Nat.reduceAdd, Nat.reduceLeDiff, Nat.reduceLT, Nat.reduceSub, Nat.reduceMul, reduceCtorEq, Int.reduceNeg, Int.reduceSub, Int.reduceAdd, Int.reduceLE, Int.reduceLT, Int.reduceMul, Int.reduceToNat, Int.reduceEq, Int.reduceBEq, Int.reduceBNe, Nat.reduceEqDiff]
            refine vk_call rfl hrun ?_
            simp (maxSteps := 4000000) (disch := omega) only [EW, Nat.reduceBEq, reduceIte, Nat.reduceAdd, Nat.reduceLeDiff, Nat.reduceLT, Nat.reduceSub, Nat.reduceMul, reduceCtorEq, Int.reduceNeg, Int.reduceSub, Int.reduceAdd, Int.reduceLE, Int.reduceLT, Int.reduceMul, Int.reduceToNat, Int.reduceEq, Int.reduceBEq, Int.reduceBNe, Nat.reduceEqDiff]
            refine vk_callR rfl ⟨_, .inr ⟨lend_own rfl hlm.symm, rfl⟩, hchk⟩ ?_
            simp (maxSteps := 4000000) (disch := omega) only [EW, Nat.reduceBEq, reduceIte, Nat.reduceAdd, Nat.reduceLeDiff, Nat.reduceLT, Nat.reduceSub, Nat.reduceMul, reduceCtorEq, Int.reduceNeg, Int.reduceSub, Int.reduceAdd, Int.reduceLE, Int.reduceLT, Int.reduceMul, Int.reduceToNat, Int.reduceEq, Int.reduceBEq, Int.reduceBNe, Nat.reduceEqDiff]
            exact fin rfl
      · subst h
        exact vk_evG tabY_ok 1000 60 (by as_aux_lemma => kernel_rfl)
end Go.Proofs.VL

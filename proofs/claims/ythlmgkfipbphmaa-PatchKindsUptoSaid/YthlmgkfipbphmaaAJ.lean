/- Contracts of functions of the program, for what calls them, and the law that its name tells. -/
import Derived.Test.YthlmgkfipbphmaaAI
namespace Go.Proofs.VL
open Go Go.RowKit
set_option maxRecDepth 100000
set_option maxHeartbeats 8000000
set_option linter.unusedSimpArgs false
set_option linter.unusedVariables false
attribute [local irreducible] vwp vk

theorem lend_nC (n : Nd) : lendL [] (nCells n) = some (nCells n) := by
  unfold nCells
  simp only [lendL, lendV]
theorem lend_pN {p : V} (hp : nobV p) (n : Nd) : lendL [] [p, .agg (nCells n)] = some [p, .agg (nCells n)] := by
  simp only [lendL, lendV, nob_lend hp, lend_nC]
theorem newA_ok : newA.ok := ⟨by unfold Q4r.ok newA; simp, by unfold Q4r.ok newA; simp⟩
/-- The first node. -/
def firstA : Ar := addA newA 0 (newN 1 0 1 (fixR ([112], [(1, 0)])) [] 0)
theorem alive19 : VFn Try.prog 10 [] (.bool true) := by
  refine VFn.intro ok10 (Nat.le_of_ble_eq_true rfl) (vk_start ?_)
  have h0 := mark_of_at [112] 0 [(1, 0)] (by decide) (by decide)
  have h1 := a_make newA 0 1 ([112], [(1, 0)]) [] 0 1000 newA_ok ⟨by decide, by decide⟩ (by decide) (fun _ _ => by decide)
  have e : mkA newA 0 1 ([112], [(1, 0)]) [] 0 = (firstA, 1, 0) := rfl
  rw [e] at h1
  have h2 := a_has firstA 0
  have h3 := a_live firstA 0
  have e2 : (getN firstA.es 0).isSome = true := rfl
  have e3 : (if (0 : Int) ≤ 0 ∧ (0 : Int) < 4 then firstA.l.get (0 : Int).toNat else 0) = 2 := rfl
  rw [e2] at h2
  rw [e3] at h3
  simp (maxSteps := 4000000) (disch := omega) only [EW, Nat.reduceBEq, reduceIte, Nat.reduceAdd, Nat.reduceLeDiff, Nat.reduceLT, Nat.reduceSub, Nat.reduceMul, reduceCtorEq, Int.reduceNeg, Int.reduceSub, Int.reduceAdd, Int.reduceLE, Int.reduceLT, Int.reduceMul, Int.reduceToNat, Int.reduceEq, Int.reduceBEq, Int.reduceBNe, Nat.reduceEqDiff, vc10, rs10]
  refine vk_call rfl a_new ?_
  simp (maxSteps := 4000000) (disch := omega) only [EW, Nat.reduceBEq, reduceIte, Nat.reduceAdd, Nat.reduceLeDiff, Nat.reduceLT, Nat.reduceSub, Nat.reduceMul, reduceCtorEq, Int.reduceNeg, Int.reduceSub, Int.reduceAdd, Int.reduceLE, Int.reduceLT, Int.reduceMul, Int.reduceToNat, Int.reduceEq, Int.reduceBEq, Int.reduceBNe, Nat.reduceEqDiff]
  refine vk_callR rfl ⟨_, .inl rfl, h0⟩ ?_
  simp (maxSteps := 4000000) (disch := omega) only [EW, Nat.reduceBEq, reduceIte, Nat.reduceAdd, Nat.reduceLeDiff, Nat.reduceLT, Nat.reduceSub, Nat.reduceMul, reduceCtorEq, Int.reduceNeg, Int.reduceSub, Int.reduceAdd, Int.reduceLE, Int.reduceLT, Int.reduceMul, Int.reduceToNat, Int.reduceEq, Int.reduceBEq, Int.reduceBNe, Nat.reduceEqDiff]
  refine vk_call rfl h1 ?_
  simp (maxSteps := 4000000) (disch := omega) only [EW, Nat.reduceBEq, reduceIte, Nat.reduceAdd, Nat.reduceLeDiff, Nat.reduceLT, Nat.reduceSub, Nat.reduceMul, reduceCtorEq, Int.reduceNeg, Int.reduceSub, Int.reduceAdd, Int.reduceLE, Int.reduceLT, Int.reduceMul, Int.reduceToNat, Int.reduceEq, Int.reduceBEq, Int.reduceBNe, Nat.reduceEqDiff]
  refine vk_call rfl h2 ?_
  simp (maxSteps := 4000000) (disch := omega) only [EW, Nat.reduceBEq, reduceIte, Nat.reduceAdd, Nat.reduceLeDiff, Nat.reduceLT, Nat.reduceSub, Nat.reduceMul, reduceCtorEq, Int.reduceNeg, Int.reduceSub, Int.reduceAdd, Int.reduceLE, Int.reduceLT, Int.reduceMul, Int.reduceToNat, Int.reduceEq, Int.reduceBEq, Int.reduceBNe, Nat.reduceEqDiff]
  refine vk_call rfl h3 ?_
  simp (maxSteps := 4000000) (disch := omega) only [EW, Nat.reduceBEq, reduceIte, Nat.reduceAdd, Nat.reduceLeDiff, Nat.reduceLT, Nat.reduceSub, Nat.reduceMul, reduceCtorEq, Int.reduceNeg, Int.reduceSub, Int.reduceAdd, Int.reduceLE, Int.reduceLT, Int.reduceMul, Int.reduceToNat, Int.reduceEq, Int.reduceBEq, Int.reduceBNe, Nat.reduceEqDiff]
  exact fin rfl

theorem arenaNobody (n : Nd) (o : Int) : VFn Try.prog 4 [.agg (nCells n), .int .i64 o] (.bool true) := by
  refine VFn.intro ok4 (Nat.le_of_ble_eq_true rfl) (vk_start ?_)
  have hnl : (nCells n).length = 13 := rfl
  have hnc : (nCells n).all VO.evW.isCell = true := rfl
  simp (maxSteps := 4000000) (disch := omega) only [EW, Nat.reduceBEq, reduceIte, Nat.reduceAdd, Nat.reduceLeDiff, Nat.reduceLT, Nat.reduceSub, Nat.reduceMul, reduceCtorEq, Int.reduceNeg, Int.reduceSub, Int.reduceAdd, Int.reduceLE, Int.reduceLT, Int.reduceMul, Int.reduceToNat, Int.reduceEq, Int.reduceBEq, Int.reduceBNe, Nat.reduceEqDiff, vc4, rs4, hnl, hnc]
  refine vk_loopR (γ := Nat) (fun i => { tm := [(1, .int .i64 o), (2, .ptr 0 0), (6, .sl 1 [[.nilp], [.iptr [.nilm, .int .i64 0, .int .i64 0, .int .i64 0, .int .i64 0, .int .i64 0, .int .i64 0, .int .i64 0, .int .i64 0]]]), (7, .int .i64 i)], ob := [some (.box (nCells n))], base := 0 })
    (fun i => i ≤ 2) (fun i => 2 - i) 0 (by omega) ?_ ?_
  · exact ⟨[some 0], rfl, rfl, rfl, rfl, ⟨.same _ rfl, .ptr rfl, .same _ rfl, .same _ rfl, trivial⟩, ⟨⟨_, rfl, .box (SubML.same _ rfl)⟩, trivial⟩⟩
  · rintro i hi R hN hE hR
    rcases (by omega : i = 0 ∨ i = 1 ∨ i = 2) with h | h | h
    · subst h
      have hp : nobV .nilp := .inl rfl
      have m1 := nob_make hp o 1 (.agg [.str n.tag.1, .sl 2 (rws n.tag.2)]) n.key 0 _ _ rfl ⟨rfl, rfl⟩
      have m2 := nob_get hp n.id
      have m3 := nob_has hp n.id
      have m4 := nob_set hp (nCells n) rfl rfl
      have m5 := nob_free hp n.id
      have m6 := nob_next hp o
      have m7 := nob_live hp o
      have m8 := nob_used hp o
      have m9 := nob_clone hp
      have htk : (nCells n).take 13 = nCells n := rfl
      have d4 : ((nCells n).drop 4).length = 9 := rfl
      have t4 : ((nCells n).drop 4).take 2 = [.str n.tag.1, .sl 2 (rws n.tag.2)] := rfl
      have g6 : (nCells n)[6]? = some (.str n.key) := rfl
      have g0 : (nCells n)[0]? = some (.int .i64 n.id) := rfl
      have zl : (nCells zNd).length = 13 := rfl
      have zc : (nCells zNd).all VO.evW.isCell = true := rfl
      have hfin := fun s' hs => hN s' 1 (by omega) (by omega) hs
      clear hN
      simp (maxSteps := 4000000) (disch := omega) only [EW, Nat.reduceBEq, reduceIte, Nat.reduceAdd, Nat.reduceLeDiff, Nat.reduceLT, Nat.reduceSub, Nat.reduceMul, reduceCtorEq, Int.reduceNeg, Int.reduceSub, Int.reduceAdd, Int.reduceLE, Int.reduceLT, Int.reduceMul, Int.reduceToNat, Int.reduceEq, Int.reduceBEq, Int.reduceBNe, Nat.reduceEqDiff, hnl, hnc, htk, d4, t4, g6, g0]
      (refine vk_callR rfl ⟨_, .inl rfl, m1⟩ ?_; simp (maxSteps := 4000000) (disch := omega) only [EW, Nat.reduceBEq, reduceIte, Nat.reduceAdd, Nat.reduceLeDiff, Nat.reduceLT, Nat.reduceSub, Nat.reduceMul, reduceCtorEq, Int.reduceNeg, Int.reduceSub, Int.reduceAdd, Int.reduceLE, Int.reduceLT, Int.reduceMul, Int.reduceToNat, Int.reduceEq, Int.reduceBEq, Int.reduceBNe, Nat.reduceEqDiff, hnl, hnc, htk, d4, t4, g6, g0])
      (refine vk_callR rfl ⟨_, .inl rfl, m2⟩ ?_; simp (maxSteps := 4000000) (disch := omega) only [EW, Nat.reduceBEq, reduceIte, Nat.reduceAdd, Nat.reduceLeDiff, Nat.reduceLT, Nat.reduceSub, Nat.reduceMul, reduceCtorEq, Int.reduceNeg, Int.reduceSub, Int.reduceAdd, Int.reduceLE, Int.reduceLT, Int.reduceMul, Int.reduceToNat, Int.reduceEq, Int.reduceBEq, Int.reduceBNe, Nat.reduceEqDiff, zl, zc, hnl, hnc, htk, d4, t4, g6, g0])
      (refine vk_callR rfl ⟨_, .inl rfl, m3⟩ ?_; simp (maxSteps := 4000000) (disch := omega) only [EW, Nat.reduceBEq, reduceIte, Nat.reduceAdd, Nat.reduceLeDiff, Nat.reduceLT, Nat.reduceSub, Nat.reduceMul, reduceCtorEq, Int.reduceNeg, Int.reduceSub, Int.reduceAdd, Int.reduceLE, Int.reduceLT, Int.reduceMul, Int.reduceToNat, Int.reduceEq, Int.reduceBEq, Int.reduceBNe, Nat.reduceEqDiff, hnl, hnc, htk, d4, t4, g6, g0])
      clear m1 m2 m3
      refine vk_callR rfl ⟨_, .inl (lend_pN hp n), m4⟩ ?_
      clear m4 htk d4 t4 g6 zl zc
      generalize putCells _ 0 (nCells zNd) = ps
      generalize nCells zNd = zs
      generalize hL : (List.cons (some (true, false), ({ dst := some 76, op := _, guard := _ } : VOper)) _) = L
      simp (maxSteps := 4000000) (disch := omega) only [EW, Nat.reduceBEq, reduceIte, Nat.reduceAdd, Nat.reduceLeDiff, Nat.reduceLT, Nat.reduceSub, Nat.reduceMul, reduceCtorEq, Int.reduceNeg, Int.reduceSub, Int.reduceAdd, Int.reduceLE, Int.reduceLT, Int.reduceMul, Int.reduceToNat, Int.reduceEq, Int.reduceBEq, Int.reduceBNe, Nat.reduceEqDiff, g0, hnl, hnc]
      subst hL
      refine vk_callR rfl ⟨_, .inl rfl, m5⟩ ?_
      clear m5
      generalize hL : (List.cons (some (true, false), ({ dst := some 82, op := _, guard := _ } : VOper)) _) = L
      simp (maxSteps := 4000000) (disch := omega) only [EW, Nat.reduceBEq, reduceIte, Nat.reduceAdd, Nat.reduceLeDiff, Nat.reduceLT, Nat.reduceSub, Nat.reduceMul, reduceCtorEq, Int.reduceNeg, Int.reduceSub, Int.reduceAdd, Int.reduceLE, Int.reduceLT, Int.reduceMul, Int.reduceToNat, Int.reduceEq, Int.reduceBEq, Int.reduceBNe, Nat.reduceEqDiff]
      subst hL
      refine vk_callR rfl ⟨_, .inl rfl, m6⟩ ?_
      clear m6
      generalize hL : (List.cons (some (true, false), ({ dst := some 89, op := _, guard := _ } : VOper)) _) = L
      simp (maxSteps := 4000000) (disch := omega) only [EW, Nat.reduceBEq, reduceIte, Nat.reduceAdd, Nat.reduceLeDiff, Nat.reduceLT, Nat.reduceSub, Nat.reduceMul, reduceCtorEq, Int.reduceNeg, Int.reduceSub, Int.reduceAdd, Int.reduceLE, Int.reduceLT, Int.reduceMul, Int.reduceToNat, Int.reduceEq, Int.reduceBEq, Int.reduceBNe, Nat.reduceEqDiff]
      subst hL
      refine vk_callR rfl ⟨_, .inl rfl, m7⟩ ?_
      clear m7
      generalize hL : (List.cons (some (true, false), ({ dst := some 96, op := _, guard := _ } : VOper)) _) = L
      simp (maxSteps := 4000000) (disch := omega) only [EW, Nat.reduceBEq, reduceIte, Nat.reduceAdd, Nat.reduceLeDiff, Nat.reduceLT, Nat.reduceSub, Nat.reduceMul, reduceCtorEq, Int.reduceNeg, Int.reduceSub, Int.reduceAdd, Int.reduceLE, Int.reduceLT, Int.reduceMul, Int.reduceToNat, Int.reduceEq, Int.reduceBEq, Int.reduceBNe, Nat.reduceEqDiff]
      subst hL
      refine vk_callR rfl ⟨_, .inl rfl, m8⟩ ?_
      clear m8
      generalize hL : (List.cons (some (true, true), ({ dst := some 105, op := _, guard := _ } : VOper)) _) = L
      simp (maxSteps := 4000000) (disch := omega) only [EW, Nat.reduceBEq, reduceIte, Nat.reduceAdd, Nat.reduceLeDiff, Nat.reduceLT, Nat.reduceSub, Nat.reduceMul, reduceCtorEq, Int.reduceNeg, Int.reduceSub, Int.reduceAdd, Int.reduceLE, Int.reduceLT, Int.reduceMul, Int.reduceToNat, Int.reduceEq, Int.reduceBEq, Int.reduceBNe, Nat.reduceEqDiff]
      subst hL
      refine vk_callR rfl ⟨_, .inl rfl, m9⟩ ?_
      simp (maxSteps := 4000000) (disch := omega) only [EW, Nat.reduceBEq, reduceIte, Nat.reduceAdd, Nat.reduceLeDiff, Nat.reduceLT, Nat.reduceSub, Nat.reduceMul, reduceCtorEq, Int.reduceNeg, Int.reduceSub, Int.reduceAdd, Int.reduceLE, Int.reduceLT, Int.reduceMul, Int.reduceToNat, Int.reduceEq, Int.reduceBEq, Int.reduceBNe, Nat.reduceEqDiff]
      refine hfin _ ?_
      exact ⟨[some 0], rfl, rfl, rfl, rfl, ⟨.same _ rfl, .ptr rfl, .same _ rfl, .same _ rfl, trivial⟩, ⟨⟨_, rfl, .box (SubML.same _ rfl)⟩, trivial⟩⟩
    · subst h
      have hp : nobV (.iptr [.nilm, .int .i64 0, .int .i64 0, .int .i64 0, .int .i64 0, .int .i64 0, .int .i64 0, .int .i64 0, .int .i64 0]) := .inr rfl
      have m1 := nob_make hp o 1 (.agg [.str n.tag.1, .sl 2 (rws n.tag.2)]) n.key 0 _ _ rfl ⟨rfl, rfl⟩
      have m2 := nob_get hp n.id
      have m3 := nob_has hp n.id
      have m4 := nob_set hp (nCells n) rfl rfl
      have m5 := nob_free hp n.id
      have m6 := nob_next hp o
      have m7 := nob_live hp o
      have m8 := nob_used hp o
      have m9 := nob_clone hp
      have htk : (nCells n).take 13 = nCells n := rfl
      have d4 : ((nCells n).drop 4).length = 9 := rfl
      have t4 : ((nCells n).drop 4).take 2 = [.str n.tag.1, .sl 2 (rws n.tag.2)] := rfl
      have g6 : (nCells n)[6]? = some (.str n.key) := rfl
      have g0 : (nCells n)[0]? = some (.int .i64 n.id) := rfl
      have zl : (nCells zNd).length = 13 := rfl
      have zc : (nCells zNd).all VO.evW.isCell = true := rfl
      have hfin := fun s' hs => hN s' 2 (by omega) (by omega) hs
      clear hN
      simp (maxSteps := 4000000) (disch := omega) only [EW, Nat.reduceBEq, reduceIte, Nat.reduceAdd, Nat.reduceLeDiff, Nat.reduceLT, Nat.reduceSub, Nat.reduceMul, reduceCtorEq, Int.reduceNeg, Int.reduceSub, Int.reduceAdd, Int.reduceLE, Int.reduceLT, Int.reduceMul, Int.reduceToNat, Int.reduceEq, Int.reduceBEq, Int.reduceBNe, Nat.reduceEqDiff, hnl, hnc, htk, d4, t4, g6, g0]
      (refine vk_callR rfl ⟨_, .inl rfl, m1⟩ ?_; simp (maxSteps := 4000000) (disch := omega) only [EW, Nat.reduceBEq, reduceIte, Nat.reduceAdd, Nat.reduceLeDiff, Nat.reduceLT, Nat.reduceSub, Nat.reduceMul, reduceCtorEq, Int.reduceNeg, Int.reduceSub, Int.reduceAdd, Int.reduceLE, Int.reduceLT, Int.reduceMul, Int.reduceToNat, Int.reduceEq, Int.reduceBEq, Int.reduceBNe, Nat.reduceEqDiff, hnl, hnc, htk, d4, t4, g6, g0])
      (refine vk_callR rfl ⟨_, .inl rfl, m2⟩ ?_; simp (maxSteps := 4000000) (disch := omega) only [EW, Nat.reduceBEq, reduceIte, Nat.reduceAdd, Nat.reduceLeDiff, Nat.reduceLT, Nat.reduceSub, Nat.reduceMul, reduceCtorEq, Int.reduceNeg, Int.reduceSub, Int.reduceAdd, Int.reduceLE, Int.reduceLT, Int.reduceMul, Int.reduceToNat, Int.reduceEq, Int.reduceBEq, Int.reduceBNe, Nat.reduceEqDiff, zl, zc, hnl, hnc, htk, d4, t4, g6, g0])
      (refine vk_callR rfl ⟨_, .inl rfl, m3⟩ ?_; simp (maxSteps := 4000000) (disch := omega) only [EW, Nat.reduceBEq, reduceIte, Nat.reduceAdd, Nat.reduceLeDiff, Nat.reduceLT, Nat.reduceSub, Nat.reduceMul, reduceCtorEq, Int.reduceNeg, Int.reduceSub, Int.reduceAdd, Int.reduceLE, Int.reduceLT, Int.reduceMul, Int.reduceToNat, Int.reduceEq, Int.reduceBEq, Int.reduceBNe, Nat.reduceEqDiff, hnl, hnc, htk, d4, t4, g6, g0])
      clear m1 m2 m3
      refine vk_callR rfl ⟨_, .inl (lend_pN hp n), m4⟩ ?_
      clear m4 htk d4 t4 g6 zl zc
      generalize putCells _ 0 (nCells zNd) = ps
      generalize nCells zNd = zs
      generalize hL : (List.cons (some (true, false), ({ dst := some 76, op := _, guard := _ } : VOper)) _) = L
      simp (maxSteps := 4000000) (disch := omega) only [EW, Nat.reduceBEq, reduceIte, Nat.reduceAdd, Nat.reduceLeDiff, Nat.reduceLT, Nat.reduceSub, Nat.reduceMul, reduceCtorEq, Int.reduceNeg, Int.reduceSub, Int.reduceAdd, Int.reduceLE, Int.reduceLT, Int.reduceMul, Int.reduceToNat, Int.reduceEq, Int.reduceBEq, Int.reduceBNe, Nat.reduceEqDiff, g0, hnl, hnc]
      subst hL
      refine vk_callR rfl ⟨_, .inl rfl, m5⟩ ?_
      clear m5
      generalize hL : (List.cons (some (true, false), ({ dst := some 82, op := _, guard := _ } : VOper)) _) = L
      simp (maxSteps := 4000000) (disch := omega) only [EW, Nat.reduceBEq, reduceIte, Nat.reduceAdd, Nat.reduceLeDiff, Nat.reduceLT, Nat.reduceSub, Nat.reduceMul, reduceCtorEq, Int.reduceNeg, Int.reduceSub, Int.reduceAdd, Int.reduceLE, Int.reduceLT, Int.reduceMul, Int.reduceToNat, Int.reduceEq, Int.reduceBEq, Int.reduceBNe, Nat.reduceEqDiff]
      subst hL
      refine vk_callR rfl ⟨_, .inl rfl, m6⟩ ?_
      clear m6
      generalize hL : (List.cons (some (true, false), ({ dst := some 89, op := _, guard := _ } : VOper)) _) = L
      simp (maxSteps := 4000000) (disch := omega) only [EW, Nat.reduceBEq, reduceIte, Nat.reduceAdd, Nat.reduceLeDiff, Nat.reduceLT, Nat.reduceSub, Nat.reduceMul, reduceCtorEq, Int.reduceNeg, Int.reduceSub, Int.reduceAdd, Int.reduceLE, Int.reduceLT, Int.reduceMul, Int.reduceToNat, Int.reduceEq, Int.reduceBEq, Int.reduceBNe, Nat.reduceEqDiff]
      subst hL
      refine vk_callR rfl ⟨_, .inl rfl, m7⟩ ?_
      clear m7
      generalize hL : (List.cons (some (true, false), ({ dst := some 96, op := _, guard := _ } : VOper)) _) = L
      simp (maxSteps := 4000000) (disch := omega) only [EW, Nat.reduceBEq, reduceIte, Nat.reduceAdd, Nat.reduceLeDiff, Nat.reduceLT, Nat.reduceSub, Nat.reduceMul, reduceCtorEq, Int.reduceNeg, Int.reduceSub, Int.reduceAdd, Int.reduceLE, Int.reduceLT, Int.reduceMul, Int.reduceToNat, Int.reduceEq, Int.reduceBEq, Int.reduceBNe, Nat.reduceEqDiff]
      subst hL
      refine vk_callR rfl ⟨_, .inl rfl, m8⟩ ?_
      clear m8
      generalize hL : (List.cons (some (true, true), ({ dst := some 105, op := _, guard := _ } : VOper)) _) = L
      simp (maxSteps := 4000000) (disch := omega) only [EW, Nat.reduceBEq, reduceIte, Nat.reduceAdd, Nat.reduceLeDiff, Nat.reduceLT, Nat.reduceSub, Nat.reduceMul, reduceCtorEq, Int.reduceNeg, Int.reduceSub, Int.reduceAdd, Int.reduceLE, Int.reduceLT, Int.reduceMul, Int.reduceToNat, Int.reduceEq, Int.reduceBEq, Int.reduceBNe, Nat.reduceEqDiff]
      subst hL
      refine vk_callR rfl ⟨_, .inl rfl, m9⟩ ?_
      simp (maxSteps := 4000000) (disch := omega) only [EW, Nat.reduceBEq, reduceIte, Nat.reduceAdd, Nat.reduceLeDiff, Nat.reduceLT, Nat.reduceSub, Nat.reduceMul, reduceCtorEq, Int.reduceNeg, Int.reduceSub, Int.reduceAdd, Int.reduceLE, Int.reduceLT, Int.reduceMul, Int.reduceToNat, Int.reduceEq, Int.reduceBEq, Int.reduceBNe, Nat.reduceEqDiff]
      refine hfin _ ?_
      exact ⟨[some 0], rfl, rfl, rfl, rfl, ⟨.same _ rfl, .ptr rfl, .same _ rfl, .same _ rfl, trivial⟩, ⟨⟨_, rfl, .box (SubML.same _ rfl)⟩, trivial⟩⟩
    · subst h
      clear hN
      simp (maxSteps := 4000000) (disch := omega) only [EW, Nat.reduceBEq, reduceIte, Nat.reduceAdd, Nat.reduceLeDiff, Nat.reduceLT, Nat.reduceSub, Nat.reduceMul, reduceCtorEq, Int.reduceNeg, Int.reduceSub, Int.reduceAdd, Int.reduceLE, Int.reduceLT, Int.reduceMul, Int.reduceToNat, Int.reduceEq, Int.reduceBEq, Int.reduceBNe, Nat.reduceEqDiff]
      refine hE _ _ ?_
      clear hE hR
      simp (maxSteps := 4000000) (disch := omega) only [EW, Nat.reduceBEq, reduceIte, Nat.reduceAdd, Nat.reduceLeDiff, Nat.reduceLT, Nat.reduceSub, Nat.reduceMul, reduceCtorEq, Int.reduceNeg, Int.reduceSub, Int.reduceAdd, Int.reduceLE, Int.reduceLT, Int.reduceMul, Int.reduceToNat, Int.reduceEq, Int.reduceBEq, Int.reduceBNe, Nat.reduceEqDiff]
      (refine vk_callR rfl ⟨_, .inl rfl, alive19⟩ ?_; simp (maxSteps := 4000000) (disch := omega) only [EW, Nat.reduceBEq, reduceIte, Nat.reduceAdd, Nat.reduceLeDiff, Nat.reduceLT, Nat.reduceSub, Nat.reduceMul, reduceCtorEq, Int.reduceNeg, Int.reduceSub, Int.reduceAdd, Int.reduceLE, Int.reduceLT, Int.reduceMul, Int.reduceToNat, Int.reduceEq, Int.reduceBEq, Int.reduceBNe, Nat.reduceEqDiff])
      exact fin rfl
end Go.Proofs.VL

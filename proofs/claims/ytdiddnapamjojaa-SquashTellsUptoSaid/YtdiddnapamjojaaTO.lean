/- Contracts of functions of the program, for what calls them, and the law that its name tells. -/
import Derived.Test.YtdiddnapamjojaaTN
namespace Go.Proofs.VL
open Go Go.RowKit
set_option maxRecDepth 100000
set_option maxHeartbeats 2000000
set_option linter.unusedSimpArgs false
set_option linter.unusedVariables false
attribute [local irreducible] vwp vk

def patA : Pat := ⟨6, 1, 0, 0, 0, ([], []), [], 0, ([], []), ([], []), [], ([], [])⟩
theorem alive48 : VFn Try.prog 23 [] (.bool true) := by
  refine VFn.intro ok23 (Nat.le_of_ble_eq_true rfl) (vk_start ?_)
  have hs : ∀ xs : List V, SubL (.sl 16 [[.int .i64 6, .int .i64 1, .int .i64 0, .int .i64 0, .int .i64 0, .str [], .nils, .str [], .int .i64 0, .str [], .nils, .str [], .nils, .nils, .str [], .nils], [.int .i64 6, .int .i64 1, .int .i64 0, .int .i64 0, .int .i64 0, .str [], .nils, .str [], .int .i64 0, .str [], .nils, .str [], .nils, .nils, .str [], .nils]] :: xs) (.sl 16 (pRows [patA, patA]) :: xs) := by
    intro xs
    refine .cons (.sl ?_) (SubL.refl xs)
    unfold pRows
    simp only [List.map_cons, List.map_nil, pCells, patA, rws, hRows]
    (repeat' first | exact Sub.refl _ | exact Sub.nil _ | exact SubL.nil | exact SubR.nil | apply SubL.cons | apply SubR.cons | apply Sub.sl | apply Sub.agg)
  have h0 := (sq_idle [patA, patA] 0 (by decide)).sub (hs [.int .i64 0]) (.refl _)
  have h1 := (sq_idle [patA, patA] 1 (by decide)).sub (hs [.int .i64 1]) (.refl _)
  have h2 := (sq_fewer [patA, patA] (by decide)).sub (hs []) (.refl _)
  have e0 : idleI [patA, patA] 0 = true := by decide
  have e1 : idleI [patA, patA] 1 = false := by decide
  have e2 : fewN [patA, patA] [patA, patA].length = [patA] := by rfl
  rw [e0] at h0
  rw [e1] at h1
  rw [e2] at h2
  simp (maxSteps := 4000000) (disch := omega) only [EW, Nat.reduceBEq, reduceIte, Nat.reduceAdd, Nat.reduceLeDiff, Nat.reduceLT, Nat.reduceSub, Nat.reduceMul, reduceCtorEq, Int.reduceNeg, Int.reduceSub, Int.reduceAdd, Int.reduceLE, Int.reduceLT, Int.reduceMul, Int.reduceToNat, Int.reduceEq, Int.reduceBEq, Int.reduceBNe, Nat.reduceEqDiff, vc23, rs23]
  (refine vk_callR rfl ⟨_, .inl rfl, h0⟩ ?_; simp (maxSteps := 4000000) (disch := omega) only [EW, Nat.reduceBEq, reduceIte, Nat.reduceAdd, Nat.reduceLeDiff, Nat.reduceLT, Nat.reduceSub, Nat.reduceMul, reduceCtorEq, Int.reduceNeg, Int.reduceSub, Int.reduceAdd, Int.reduceLE, Int.reduceLT, Int.reduceMul, Int.reduceToNat, Int.reduceEq, Int.reduceBEq, Int.reduceBNe, Nat.reduceEqDiff])
  (refine vk_callR rfl ⟨_, .inl rfl, h1⟩ ?_; simp (maxSteps := 4000000) (disch := omega) only [EW, Nat.reduceBEq, reduceIte, Nat.reduceAdd, Nat.reduceLeDiff, Nat.reduceLT, Nat.reduceSub, Nat.reduceMul, reduceCtorEq, Int.reduceNeg, Int.reduceSub, Int.reduceAdd, Int.reduceLE, Int.reduceLT, Int.reduceMul, Int.reduceToNat, Int.reduceEq, Int.reduceBEq, Int.reduceBNe, Nat.reduceEqDiff])
  (refine vk_callR rfl ⟨_, .inl rfl, h2⟩ ?_; simp (maxSteps := 4000000) (disch := omega) only [EW, Nat.reduceBEq, reduceIte, Nat.reduceAdd, Nat.reduceLeDiff, Nat.reduceLT, Nat.reduceSub, Nat.reduceMul, reduceCtorEq, Int.reduceNeg, Int.reduceSub, Int.reduceAdd, Int.reduceLE, Int.reduceLT, Int.reduceMul, Int.reduceToNat, Int.reduceEq, Int.reduceBEq, Int.reduceBNe, Nat.reduceEqDiff, pRows_length])
  exact fin rfl

theorem idle_off (ps : List Pat) (a : Int) (h : ¬ (0 ≤ a ∧ a < ps.length)) : idleI ps a = false := by
  unfold idleI
  split
  · unfold idleB
    rw [List.getElem?_eq_none (by omega)]
  · rfl




theorem fewN_mem {ps : List Pat} {n : Nat} {p : Pat} (h : p ∈ fewN ps n) : p ∈ ps := by
  unfold fewN at h
  simp only [List.mem_filterMap] at h
  obtain ⟨i, _, hi⟩ := h
  exact List.mem_of_getElem? hi

theorem squashTells (ps0 : List Pat) (a : Int) (hl0 : ps0.length ≤ 100000000) (hs0 : ∀ p ∈ ps0, PSmall p) : VFn Try.prog 4 [.sl 16 (pRows ps0), .int .i64 a] (.bool true) := by
  refine VFn.intro ok4 (Nat.le_of_ble_eq_true rfl) (vk_start ?_)
  have hpl0 := pRows_length ps0
  obtain ⟨ps, hps⟩ : ∃ ps, ps = ps0.take 40 := ⟨_, rfl⟩
  have hl : ps.length ≤ 40 := by rw [hps, List.length_take]; omega
  have hs : ∀ p ∈ ps, PSmall p := fun p hp => hs0 p (by rw [hps] at hp; exact List.mem_of_mem_take hp)
  have hpl := pRows_length ps
  have e40 : (pRows ps0).take 40 = pRows ps := by rw [hps]; simp [pRows]
  have hsame : ps0.length ≤ 40 → ps0 = ps := fun h => by rw [hps, List.take_of_length_le h]
  simp (maxSteps := 4000000) (disch := omega) only [EW, Nat.reduceBEq, reduceIte, Nat.reduceAdd, Nat.reduceLeDiff, Nat.reduceLT, Nat.reduceSub, Nat.reduceMul, reduceCtorEq, Int.reduceNeg, Int.reduceSub, Int.reduceAdd, Int.reduceLE, Int.reduceLT, Int.reduceMul, Int.reduceToNat, Int.reduceEq, Int.reduceBEq, Int.reduceBNe, Nat.reduceEqDiff, vc4, rs4, hpl0]
  (refine vk_callR rfl ⟨_, .inl rfl, alive48⟩ ?_; simp (maxSteps := 4000000) (disch := omega) only [EW, Nat.reduceBEq, reduceIte, Nat.reduceAdd, Nat.reduceLeDiff, Nat.reduceLT, Nat.reduceSub, Nat.reduceMul, reduceCtorEq, Int.reduceNeg, Int.reduceSub, Int.reduceAdd, Int.reduceLE, Int.reduceLT, Int.reduceMul, Int.reduceToNat, Int.reduceEq, Int.reduceBEq, Int.reduceBNe, Nat.reduceEqDiff, hpl0])
  refine vk_joinR (γ := Unit) (fun _ => { tm := [(0, .sl 16 (pRows ps)), (1, .int .i64 a)], ob := [], base := 0 }) (fun _ => True) ?_ ?_
  · intro R hN hE hR
    by_cases h : ps0.length ≤ 40
    · have e := hsame h
      subst e
      simp (maxSteps := 4000000) (disch := omega) only [EW, Nat.reduceBEq, reduceIte, Nat.reduceAdd, Nat.reduceLeDiff, Nat.reduceLT, Nat.reduceSub, Nat.reduceMul, reduceCtorEq, Int.reduceNeg, Int.reduceSub, Int.reduceAdd, Int.reduceLE, Int.reduceLT, Int.reduceMul, Int.reduceToNat, Int.reduceEq, Int.reduceBEq, Int.reduceBNe, Nat.reduceEqDiff, hpl0]
      refine hN _ () trivial ?_
      exact ⟨[], rfl, rfl, rfl, rfl, ⟨.same _ rfl, .same _ rfl, trivial⟩, trivial⟩
    · simp (maxSteps := 4000000) (disch := omega) only [EW, Nat.reduceBEq, reduceIte, Nat.reduceAdd, Nat.reduceLeDiff, Nat.reduceLT, Nat.reduceSub, Nat.reduceMul, reduceCtorEq, Int.reduceNeg, Int.reduceSub, Int.reduceAdd, Int.reduceLE, Int.reduceLT, Int.reduceMul, Int.reduceToNat, Int.reduceEq, Int.reduceBEq, Int.reduceBNe, Nat.reduceEqDiff, hpl0, e40]
      refine hN _ () trivial ?_
      exact ⟨[], rfl, rfl, rfl, rfl, ⟨.same _ rfl, .same _ rfl, trivial⟩, trivial⟩
  · rintro _ _
    simp (maxSteps := 4000000) (disch := omega) only [EW, Nat.reduceBEq, reduceIte, Nat.reduceAdd, Nat.reduceLeDiff, Nat.reduceLT, Nat.reduceSub, Nat.reduceMul, reduceCtorEq, Int.reduceNeg, Int.reduceSub, Int.reduceAdd, Int.reduceLE, Int.reduceLT, Int.reduceMul, Int.reduceToNat, Int.reduceEq, Int.reduceBEq, Int.reduceBNe, Nat.reduceEqDiff]
    refine vk_loopR (γ := Nat) (fun i => { tm := [(0, .sl 16 (pRows ps)), (1, .int .i64 a), (5, .ref 0 (fewN ps i).length), (6, .int .i64 i)], ob := [some (.arr 39 16 (pRows (fewN ps i)))], base := 0 })
      (fun i => i ≤ ps.length) (fun i => ps.length - i) 0 (Nat.zero_le _) ?_ ?_
    · exact ⟨[none], rfl, rfl, rfl, rfl, ⟨.same _ rfl, .same _ rfl, .nref rfl, .same _ rfl, trivial⟩, ⟨⟨_, _, rfl⟩, trivial⟩⟩
    · rintro i hi R hN hE hR
      have hfl := fewN_len ps i
      have hfp := pRows_length (fewN ps i)
      have htk : List.take (fewN ps i).length (pRows (fewN ps i)) = pRows (fewN ps i) := List.take_of_length_le (by omega)
      rcases Nat.lt_or_ge i ps.length with hlt | hge
      · obtain ⟨x, hx⟩ : ∃ x, ps[i]? = some x := ⟨_, List.getElem?_eq_getElem hlt⟩
        have hr : (pRows ps)[i]? = some (pCells x) := by rw [pRows_get, hx]; rfl
        have hg := sq_idle ps i (by omega)
        have hg2 := ref_idle ps i hlt (by omega)
        have e : idleI ps i = idleB ps i := by unfold idleI; rw [if_pos (by omega)]; rfl
        rw [e] at hg
        cases hI : idleB ps i with
        | true =>
          rw [hI] at hg hg2
          simp (maxSteps := 4000000) (disch := omega) only [EW, Nat.reduceBEq, reduceIte, Nat.reduceAdd, Nat.reduceLeDiff, Nat.reduceLT, Nat.reduceSub, Nat.reduceMul, reduceCtorEq, Int.reduceNeg, Int.reduceSub, Int.reduceAdd, Int.reduceLE, Int.reduceLT, Int.reduceMul, Int.reduceToNat, Int.reduceEq, Int.reduceBEq, Int.reduceBNe, Nat.reduceEqDiff, hpl]
          (refine vk_callR rfl ⟨_, .inl rfl, hg2⟩ ?_; simp (maxSteps := 4000000) (disch := omega) only [EW, Nat.reduceBEq, reduceIte, Nat.reduceAdd, Nat.reduceLeDiff, Nat.reduceLT, Nat.reduceSub, Nat.reduceMul, reduceCtorEq, Int.reduceNeg, Int.reduceSub, Int.reduceAdd, Int.reduceLE, Int.reduceLT, Int.reduceMul, Int.reduceToNat, Int.reduceEq, Int.reduceBEq, Int.reduceBNe, Nat.reduceEqDiff])
          (refine vk_callR rfl ⟨_, .inl rfl, hg⟩ ?_; simp (maxSteps := 4000000) (disch := omega) only [EW, Nat.reduceBEq, reduceIte, Nat.reduceAdd, Nat.reduceLeDiff, Nat.reduceLT, Nat.reduceSub, Nat.reduceMul, reduceCtorEq, Int.reduceNeg, Int.reduceSub, Int.reduceAdd, Int.reduceLE, Int.reduceLT, Int.reduceMul, Int.reduceToNat, Int.reduceEq, Int.reduceBEq, Int.reduceBNe, Nat.reduceEqDiff])
          (refine vk_callR rfl ⟨_, .inl rfl, hg2⟩ ?_; simp (maxSteps := 4000000) (disch := omega) only [EW, Nat.reduceBEq, reduceIte, Nat.reduceAdd, Nat.reduceLeDiff, Nat.reduceLT, Nat.reduceSub, Nat.reduceMul, reduceCtorEq, Int.reduceNeg, Int.reduceSub, Int.reduceAdd, Int.reduceLE, Int.reduceLT, Int.reduceMul, Int.reduceToNat, Int.reduceEq, Int.reduceBEq, Int.reduceBNe, Nat.reduceEqDiff])
          refine hN _ (i + 1) hlt (by omega) ?_
          rw [fewN_idle hI]
          exact ⟨[some 0], rfl, rfl, rfl, rfl, ⟨.same _ rfl, .same _ rfl, .ref rfl, .same _ rfl, trivial⟩, ⟨⟨_, rfl, .arr (.refl _)⟩, trivial⟩⟩
        | false =>
          rw [hI] at hg hg2
          have e1 := pRows_snoc (fewN ps i) x
          simp (maxSteps := 4000000) (disch := omega) only [EW, Nat.reduceBEq, reduceIte, Nat.reduceAdd, Nat.reduceLeDiff, Nat.reduceLT, Nat.reduceSub, Nat.reduceMul, reduceCtorEq, Int.reduceNeg, Int.reduceSub, Int.reduceAdd, Int.reduceLE, Int.reduceLT, Int.reduceMul, Int.reduceToNat, Int.reduceEq, Int.reduceBEq, Int.reduceBNe, Nat.reduceEqDiff, hpl]
          (refine vk_callR rfl ⟨_, .inl rfl, hg2⟩ ?_; simp (maxSteps := 4000000) (disch := omega) only [EW, Nat.reduceBEq, reduceIte, Nat.reduceAdd, Nat.reduceLeDiff, Nat.reduceLT, Nat.reduceSub, Nat.reduceMul, reduceCtorEq, Int.reduceNeg, Int.reduceSub, Int.reduceAdd, Int.reduceLE, Int.reduceLT, Int.reduceMul, Int.reduceToNat, Int.reduceEq, Int.reduceBEq, Int.reduceBNe, Nat.reduceEqDiff])
          (refine vk_callR rfl ⟨_, .inl rfl, hg⟩ ?_; simp (maxSteps := 4000000) (disch := omega) only [EW, Nat.reduceBEq, reduceIte, Nat.reduceAdd, Nat.reduceLeDiff, Nat.reduceLT, Nat.reduceSub, Nat.reduceMul, reduceCtorEq, Int.reduceNeg, Int.reduceSub, Int.reduceAdd, Int.reduceLE, Int.reduceLT, Int.reduceMul, Int.reduceToNat, Int.reduceEq, Int.reduceBEq, Int.reduceBNe, Nat.reduceEqDiff])
          (refine vk_callR rfl ⟨_, .inl rfl, hg2⟩ ?_; simp (maxSteps := 4000000) (disch := omega) only [EW, Nat.reduceBEq, reduceIte, Nat.reduceAdd, Nat.reduceLeDiff, Nat.reduceLT, Nat.reduceSub, Nat.reduceMul, reduceCtorEq, Int.reduceNeg, Int.reduceSub, Int.reduceAdd, Int.reduceLE, Int.reduceLT, Int.reduceMul, Int.reduceToNat, Int.reduceEq, Int.reduceBEq, Int.reduceBNe, Nat.reduceEqDiff, hr, PCp, htk, e1])
          refine hN _ (i + 1) hlt (by omega) ?_
          rw [fewN_put hI hx, pRows_length]
          exact ⟨[some 1], rfl, rfl, rfl, rfl, ⟨.same _ rfl, .same _ rfl, .ref rfl, .same _ rfl, trivial⟩, ⟨⟨_, rfl, .arr (.refl _)⟩, trivial⟩⟩
      · have e : i = ps.length := by omega
        subst e
        have hfw := sq_fewer ps (by omega)
        have hpp := plain_patches (fewN ps ps.length) (fewN ps ps.length) (by omega) rfl (fun i p q hp hq => by
          rw [hp] at hq; injection hq with hq; subst hq
          have := hs p (fewN_mem (List.mem_of_getElem? hp))
          exact ⟨PSame.refl p, this, this⟩)
        have hid := sq_idle ps a (by omega)
        simp (maxSteps := 4000000) (disch := omega) only [EW, Nat.reduceBEq, reduceIte, Nat.reduceAdd, Nat.reduceLeDiff, Nat.reduceLT, Nat.reduceSub, Nat.reduceMul, reduceCtorEq, Int.reduceNeg, Int.reduceSub, Int.reduceAdd, Int.reduceLE, Int.reduceLT, Int.reduceMul, Int.reduceToNat, Int.reduceEq, Int.reduceBEq, Int.reduceBNe, Nat.reduceEqDiff, hpl]
        refine hE _ _ ?_
        simp (maxSteps := 4000000) (disch := omega) only [EW, Nat.reduceBEq, reduceIte, Nat.reduceAdd, Nat.reduceLeDiff, Nat.reduceLT, Nat.reduceSub, Nat.reduceMul, reduceCtorEq, Int.reduceNeg, Int.reduceSub, Int.reduceAdd, Int.reduceLE, Int.reduceLT, Int.reduceMul, Int.reduceToNat, Int.reduceEq, Int.reduceBEq, Int.reduceBNe, Nat.reduceEqDiff]
        (refine vk_callR rfl ⟨_, .inl rfl, hfw⟩ ?_; simp (maxSteps := 4000000) (disch := omega) only [EW, Nat.reduceBEq, reduceIte, Nat.reduceAdd, Nat.reduceLeDiff, Nat.reduceLT, Nat.reduceSub, Nat.reduceMul, reduceCtorEq, Int.reduceNeg, Int.reduceSub, Int.reduceAdd, Int.reduceLE, Int.reduceLT, Int.reduceMul, Int.reduceToNat, Int.reduceEq, Int.reduceBEq, Int.reduceBNe, Nat.reduceEqDiff])
        refine vk_callR rfl ⟨[.sl 16 (pRows (fewN ps ps.length)), .sl 16 (pRows (fewN ps ps.length))], .inr ⟨lend_2 (lend_rows rfl hfp.symm), rfl⟩, hpp⟩ ?_
        by_cases ha : 0 ≤ a
        · by_cases hb : a < ps.length
          · simp (maxSteps := 4000000) (disch := omega) only [EW, Nat.reduceBEq, reduceIte, Nat.reduceAdd, Nat.reduceLeDiff, Nat.reduceLT, Nat.reduceSub, Nat.reduceMul, reduceCtorEq, Int.reduceNeg, Int.reduceSub, Int.reduceAdd, Int.reduceLE, Int.reduceLT, Int.reduceMul, Int.reduceToNat, Int.reduceEq, Int.reduceBEq, Int.reduceBNe, Nat.reduceEqDiff, hpl]
            exact fin rfl
          · rw [idle_off ps a (by omega)] at hid
            simp (maxSteps := 4000000) (disch := omega) only [EW, Nat.reduceBEq, reduceIte, Nat.reduceAdd, Nat.reduceLeDiff, Nat.reduceLT, Nat.reduceSub, Nat.reduceMul, reduceCtorEq, Int.reduceNeg, Int.reduceSub, Int.reduceAdd, Int.reduceLE, Int.reduceLT, Int.reduceMul, Int.reduceToNat, Int.reduceEq, Int.reduceBEq, Int.reduceBNe, Nat.reduceEqDiff, hpl]
            (refine vk_callR rfl ⟨_, .inl rfl, hid⟩ ?_; simp (maxSteps := 4000000) (disch := omega) only [EW, Nat.reduceBEq, reduceIte, Nat.reduceAdd, Nat.reduceLeDiff, Nat.reduceLT, Nat.reduceSub, Nat.reduceMul, reduceCtorEq, Int.reduceNeg, Int.reduceSub, Int.reduceAdd, Int.reduceLE, Int.reduceLT, Int.reduceMul, Int.reduceToNat, Int.reduceEq, Int.reduceBEq, Int.reduceBNe, Nat.reduceEqDiff])
            exact fin rfl
        · rw [idle_off ps a (by omega)] at hid
          simp (maxSteps := 4000000) (disch := omega) only [EW, Nat.reduceBEq, reduceIte, Nat.reduceAdd, Nat.reduceLeDiff, Nat.reduceLT, Nat.reduceSub, Nat.reduceMul, reduceCtorEq, Int.reduceNeg, Int.reduceSub, Int.reduceAdd, Int.reduceLE, Int.reduceLT, Int.reduceMul, Int.reduceToNat, Int.reduceEq, Int.reduceBEq, Int.reduceBNe, Nat.reduceEqDiff, hpl]
          (refine vk_callR rfl ⟨_, .inl rfl, hid⟩ ?_; simp (maxSteps := 4000000) (disch := omega) only [EW, Nat.reduceBEq, reduceIte, Nat.reduceAdd, Nat.reduceLeDiff, Nat.reduceLT, Nat.reduceSub, Nat.reduceMul, reduceCtorEq, Int.reduceNeg, Int.reduceSub, Int.reduceAdd, Int.reduceLE, Int.reduceLT, Int.reduceMul, Int.reduceToNat, Int.reduceEq, Int.reduceBEq, Int.reduceBNe, Nat.reduceEqDiff])
          exact fin rfl
end Go.Proofs.VL

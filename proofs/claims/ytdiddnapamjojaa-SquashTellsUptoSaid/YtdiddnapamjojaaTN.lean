/- Contracts of functions of the program, for what calls them, and the law that its name tells. -/
import Derived.Test.YtdiddnapamjojaaTM
namespace Go.Proofs.VL
open Go Go.RowKit
set_option maxRecDepth 100000
set_option maxHeartbeats 2000000
set_option linter.unusedSimpArgs false
set_option linter.unusedVariables false
attribute [local irreducible] vwp vk

theorem any_cons_f {α : Type} {p : α → Bool} {x : α} {r : List α} (h : p x = false) : (x :: r).any p = r.any p := by simp [h]
theorem any_cons_t {α : Type} {p : α → Bool} {x : α} {r : List α} (h : p x = true) : (x :: r).any p = true := by simp [h]

theorem ref_idle (ps : List Pat) (i : Nat) (hi : i < ps.length) (hl : ps.length ≤ 1000000000) : VFn Try.prog 24 [.sl 16 (pRows ps), .int .i64 i] (.bool (idleB ps i)) := by
  refine VFn.intro ok24 (Nat.le_of_ble_eq_true rfl) (vk_start ?_)
  have hpl := pRows_length ps
  obtain ⟨p, hp⟩ : ∃ x, ps[i]? = some x := ⟨_, List.getElem?_eq_getElem hi⟩
  have hrp : (pRows ps)[i]? = some (pCells p) := by rw [pRows_get, hp]; rfl
  have e0 : idleB ps i = if p.op = 3 then againB p (ps.drop (i + 1)) else (ps.drop (i + 1)).any (overB p) := by unfold idleB; rw [hp]
  simp (maxSteps := 4000000) (disch := omega) only [EW, Nat.reduceBEq, reduceIte, Nat.reduceAdd, Nat.reduceLeDiff, Nat.reduceLT, Nat.reduceSub, Nat.reduceMul, reduceCtorEq, Int.reduceNeg, Int.reduceSub, Int.reduceAdd, Int.reduceLE, Int.reduceLT, Int.reduceMul, Int.reduceToNat, Int.reduceEq, Int.reduceBEq, Int.reduceBNe, Nat.reduceEqDiff, vc24, rs24, PCp, hpl, hrp]
  refine vk_loopR (γ := Nat) (fun k => { tm := [(0, .sl 16 (pRows ps)), (5, .ptr 0 0), (6, .int .i64 k)], ob := [some (.box (pCells p))], base := 0 })
    (fun k => k ≤ ps.length ∧ idleB ps i = if p.op = 3 then againB p (ps.drop k) else (ps.drop k).any (overB p)) (fun k => ps.length - k) (i + 1) ⟨hi, e0⟩ ?_ ?_
  · exact ⟨[some 0], rfl, rfl, rfl, rfl, ⟨.same _ rfl, .ptr rfl, .same _ rfl, trivial⟩, ⟨⟨_, rfl, .box (SubML.same _ rfl)⟩, trivial⟩⟩
  · rintro k ⟨hk, hI⟩ R hN hE hR
    rcases Nat.lt_or_ge k ps.length with hlt | hge
    · obtain ⟨x, hx⟩ : ∃ x, ps[k]? = some x := ⟨_, List.getElem?_eq_getElem hlt⟩
      have hr : (pRows ps)[k]? = some (pCells x) := by rw [pRows_get, hx]; rfl
      rw [drop_at' hx] at hI
      -- on to the next one
      have next : (idleB ps i = if p.op = 3 then againB p (ps.drop (k + 1)) else (ps.drop (k + 1)).any (overB p)) → ∀ s', s'.fg { tm := [(0, .sl 16 (pRows ps)), (5, .ptr 0 0), (6, .int .i64 (k + 1 : Nat))], ob := [some (.box (pCells p))], base := 0 } → R .normal s' := fun h s' hs => hN s' (k + 1) ⟨hlt, h⟩ (by omega) hs
      simp (maxSteps := 4000000) (disch := omega) only [EW, Nat.reduceBEq, reduceIte, Nat.reduceAdd, Nat.reduceLeDiff, Nat.reduceLT, Nat.reduceSub, Nat.reduceMul, reduceCtorEq, Int.reduceNeg, Int.reduceSub, Int.reduceAdd, Int.reduceLE, Int.reduceLT, Int.reduceMul, Int.reduceToNat, Int.reduceEq, Int.reduceBEq, Int.reduceBNe, Nat.reduceEqDiff, PCp, hpl, hr]
      refine vk_pass ?_
      by_cases h3 : p.op = 3
      · rw [if_pos h3] at hI next
        by_cases h : x.op ≤ 3
        · have e : againB p (x :: ps.drop (k + 1)) = decide (x.op = 3 ∧ x.node = p.node) := if_pos h
          rw [e] at hI
          by_cases h4 : x.op = 3
          · by_cases hn : x.node = p.node
            · rw [decide_eq_true ⟨h4, hn⟩] at hI
              simp (maxSteps := 4000000) (disch := omega) only [EW, Nat.reduceBEq, reduceIte, Nat.reduceAdd, Nat.reduceLeDiff, Nat.reduceLT, Nat.reduceSub, Nat.reduceMul, reduceCtorEq, Int.reduceNeg, Int.reduceSub, Int.reduceAdd, Int.reduceLE, Int.reduceLT, Int.reduceMul, Int.reduceToNat, Int.reduceEq, Int.reduceBEq, Int.reduceBNe, Nat.reduceEqDiff, PCp, hpl, hr]
              refine hR _ ?_
              simp (maxSteps := 4000000) (disch := omega) only [EW, Nat.reduceBEq, reduceIte, Nat.reduceAdd, Nat.reduceLeDiff, Nat.reduceLT, Nat.reduceSub, Nat.reduceMul, reduceCtorEq, Int.reduceNeg, Int.reduceSub, Int.reduceAdd, Int.reduceLE, Int.reduceLT, Int.reduceMul, Int.reduceToNat, Int.reduceEq, Int.reduceBEq, Int.reduceBNe, Nat.reduceEqDiff, hI]
              exact fin rfl
            · rw [decide_eq_false (fun q => hn q.2)] at hI
              simp (maxSteps := 4000000) (disch := omega) only [EW, Nat.reduceBEq, reduceIte, Nat.reduceAdd, Nat.reduceLeDiff, Nat.reduceLT, Nat.reduceSub, Nat.reduceMul, reduceCtorEq, Int.reduceNeg, Int.reduceSub, Int.reduceAdd, Int.reduceLE, Int.reduceLT, Int.reduceMul, Int.reduceToNat, Int.reduceEq, Int.reduceBEq, Int.reduceBNe, Nat.reduceEqDiff, PCp, hpl, hr]
              refine hR _ ?_
              simp (maxSteps := 4000000) (disch := omega) only [EW, Nat.reduceBEq, reduceIte, Nat.reduceAdd, Nat.reduceLeDiff, Nat.reduceLT, Nat.reduceSub, Nat.reduceMul, reduceCtorEq, Int.reduceNeg, Int.reduceSub, Int.reduceAdd, Int.reduceLE, Int.reduceLT, Int.reduceMul, Int.reduceToNat, Int.reduceEq, Int.reduceBEq, Int.reduceBNe, Nat.reduceEqDiff, hI]
              exact fin rfl
          · rw [decide_eq_false (fun q => h4 q.1)] at hI
            simp (maxSteps := 4000000) (disch := omega) only [EW, Nat.reduceBEq, reduceIte, Nat.reduceAdd, Nat.reduceLeDiff, Nat.reduceLT, Nat.reduceSub, Nat.reduceMul, reduceCtorEq, Int.reduceNeg, Int.reduceSub, Int.reduceAdd, Int.reduceLE, Int.reduceLT, Int.reduceMul, Int.reduceToNat, Int.reduceEq, Int.reduceBEq, Int.reduceBNe, Nat.reduceEqDiff, PCp, hpl, hr]
            refine hR _ ?_
            simp (maxSteps := 4000000) (disch := omega) only [EW, Nat.reduceBEq, reduceIte, Nat.reduceAdd, Nat.reduceLeDiff, Nat.reduceLT, Nat.reduceSub, Nat.reduceMul, reduceCtorEq, Int.reduceNeg, Int.reduceSub, Int.reduceAdd, Int.reduceLE, Int.reduceLT, Int.reduceMul, Int.reduceToNat, Int.reduceEq, Int.reduceBEq, Int.reduceBNe, Nat.reduceEqDiff, hI]
            exact fin rfl
        · have e : againB p (x :: ps.drop (k + 1)) = againB p (ps.drop (k + 1)) := if_neg h
          rw [e] at hI
          simp (maxSteps := 4000000) (disch := omega) only [EW, Nat.reduceBEq, reduceIte, Nat.reduceAdd, Nat.reduceLeDiff, Nat.reduceLT, Nat.reduceSub, Nat.reduceMul, reduceCtorEq, Int.reduceNeg, Int.reduceSub, Int.reduceAdd, Int.reduceLE, Int.reduceLT, Int.reduceMul, Int.reduceToNat, Int.reduceEq, Int.reduceBEq, Int.reduceBNe, Nat.reduceEqDiff, PCp, hpl, hr]
          refine next hI _ ?_
          exact ⟨[some 0], rfl, rfl, rfl, rfl, ⟨.same _ rfl, .ptr rfl, .same _ rfl, trivial⟩, ⟨⟨_, rfl, .box (SubML.same _ rfl)⟩, trivial⟩⟩
      · rw [if_neg h3] at hI next
        by_cases hA : x.node ≠ p.node ∨ p.op < 4 ∨ 7 < p.op
        · have hO : overB p x = false := by unfold overB; rw [if_pos hA]
          rw [any_cons_f hO] at hI
          by_cases b1 : x.node = p.node
          · by_cases b2 : p.op < 4
            · simp (maxSteps := 4000000) (disch := omega) only [EW, Nat.reduceBEq, reduceIte, Nat.reduceAdd, Nat.reduceLeDiff, Nat.reduceLT, Nat.reduceSub, Nat.reduceMul, reduceCtorEq, Int.reduceNeg, Int.reduceSub, Int.reduceAdd, Int.reduceLE, Int.reduceLT, Int.reduceMul, Int.reduceToNat, Int.reduceEq, Int.reduceBEq, Int.reduceBNe, Nat.reduceEqDiff, PCp, hpl, hr]
              refine next hI _ ?_
              exact ⟨[some 0], rfl, rfl, rfl, rfl, ⟨.same _ rfl, .ptr rfl, .same _ rfl, trivial⟩, ⟨⟨_, rfl, .box (SubML.same _ rfl)⟩, trivial⟩⟩
            · simp (maxSteps := 4000000) (disch := omega) only [EW, Nat.reduceBEq, reduceIte, Nat.reduceAdd, Nat.reduceLeDiff, Nat.reduceLT, Nat.reduceSub, Nat.reduceMul, reduceCtorEq, Int.reduceNeg, Int.reduceSub, Int.reduceAdd, Int.reduceLE, Int.reduceLT, Int.reduceMul, Int.reduceToNat, Int.reduceEq, Int.reduceBEq, Int.reduceBNe, Nat.reduceEqDiff, PCp, hpl, hr]
              refine next hI _ ?_
              exact ⟨[some 0], rfl, rfl, rfl, rfl, ⟨.same _ rfl, .ptr rfl, .same _ rfl, trivial⟩, ⟨⟨_, rfl, .box (SubML.same _ rfl)⟩, trivial⟩⟩
          · simp (maxSteps := 4000000) (disch := omega) only [EW, Nat.reduceBEq, reduceIte, Nat.reduceAdd, Nat.reduceLeDiff, Nat.reduceLT, Nat.reduceSub, Nat.reduceMul, reduceCtorEq, Int.reduceNeg, Int.reduceSub, Int.reduceAdd, Int.reduceLE, Int.reduceLT, Int.reduceMul, Int.reduceToNat, Int.reduceEq, Int.reduceBEq, Int.reduceBNe, Nat.reduceEqDiff, PCp, hpl, hr]
            refine next hI _ ?_
            exact ⟨[some 0], rfl, rfl, rfl, rfl, ⟨.same _ rfl, .ptr rfl, .same _ rfl, trivial⟩, ⟨⟨_, rfl, .box (SubML.same _ rfl)⟩, trivial⟩⟩
        · have b1 : x.node = p.node := by omega
          by_cases b4 : x.op = 2
          · have hO : overB p x = true := by unfold overB; rw [if_neg hA, if_pos b4]
            rw [any_cons_t hO] at hI
            by_cases b5 : p.op ≤ 5
            · simp (maxSteps := 4000000) (disch := omega) only [EW, Nat.reduceBEq, reduceIte, Nat.reduceAdd, Nat.reduceLeDiff, Nat.reduceLT, Nat.reduceSub, Nat.reduceMul, reduceCtorEq, Int.reduceNeg, Int.reduceSub, Int.reduceAdd, Int.reduceLE, Int.reduceLT, Int.reduceMul, Int.reduceToNat, Int.reduceEq, Int.reduceBEq, Int.reduceBNe, Nat.reduceEqDiff, PCp, hpl, hr]
              refine hR _ ?_
              simp (maxSteps := 4000000) (disch := omega) only [EW, Nat.reduceBEq, reduceIte, Nat.reduceAdd, Nat.reduceLeDiff, Nat.reduceLT, Nat.reduceSub, Nat.reduceMul, reduceCtorEq, Int.reduceNeg, Int.reduceSub, Int.reduceAdd, Int.reduceLE, Int.reduceLT, Int.reduceMul, Int.reduceToNat, Int.reduceEq, Int.reduceBEq, Int.reduceBNe, Nat.reduceEqDiff, hI]
              exact fin rfl
            · simp (maxSteps := 4000000) (disch := omega) only [EW, Nat.reduceBEq, reduceIte, Nat.reduceAdd, Nat.reduceLeDiff, Nat.reduceLT, Nat.reduceSub, Nat.reduceMul, reduceCtorEq, Int.reduceNeg, Int.reduceSub, Int.reduceAdd, Int.reduceLE, Int.reduceLT, Int.reduceMul, Int.reduceToNat, Int.reduceEq, Int.reduceBEq, Int.reduceBNe, Nat.reduceEqDiff, PCp, hpl, hr]
              refine hR _ ?_
              simp (maxSteps := 4000000) (disch := omega) only [EW, Nat.reduceBEq, reduceIte, Nat.reduceAdd, Nat.reduceLeDiff, Nat.reduceLT, Nat.reduceSub, Nat.reduceMul, reduceCtorEq, Int.reduceNeg, Int.reduceSub, Int.reduceAdd, Int.reduceLE, Int.reduceLT, Int.reduceMul, Int.reduceToNat, Int.reduceEq, Int.reduceBEq, Int.reduceBNe, Nat.reduceEqDiff, hI]
              exact fin rfl
          · by_cases b5 : p.op ≤ 5
            · have hP : isAttrB p = true := by unfold isAttrB; exact decide_eq_true (by omega)
              have hO : overB p x = (isAttrB x && decide (x.name.1 = p.name.1)) := by unfold overB; rw [if_neg hA, if_neg b4, if_pos hP]
              by_cases b6 : x.op = 4 ∨ x.op = 5
              · have hX : isAttrB x = true := by unfold isAttrB; exact decide_eq_true b6
                rw [hX, Bool.true_and] at hO
                by_cases b8 : x.name.1 = p.name.1
                · rw [decide_eq_true b8] at hO
                  rw [any_cons_t hO] at hI
                  have b9 : (x.name.1 == p.name.1) = true := by simp [b8]
                  rcases b6 with b6 | b6
                  · simp (maxSteps := 4000000) (disch := omega) only [EW, Nat.reduceBEq, reduceIte, Nat.reduceAdd, Nat.reduceLeDiff, Nat.reduceLT, Nat.reduceSub, Nat.reduceMul, reduceCtorEq, Int.reduceNeg, Int.reduceSub, Int.reduceAdd, Int.reduceLE, Int.reduceLT, Int.reduceMul, Int.reduceToNat, Int.reduceEq, Int.reduceBEq, Int.reduceBNe, Nat.reduceEqDiff, PCp, hpl, hr, b9]
                    refine hR _ ?_
                    simp (maxSteps := 4000000) (disch := omega) only [EW, Nat.reduceBEq, reduceIte, Nat.reduceAdd, Nat.reduceLeDiff, Nat.reduceLT, Nat.reduceSub, Nat.reduceMul, reduceCtorEq, Int.reduceNeg, Int.reduceSub, Int.reduceAdd, Int.reduceLE, Int.reduceLT, Int.reduceMul, Int.reduceToNat, Int.reduceEq, Int.reduceBEq, Int.reduceBNe, Nat.reduceEqDiff, hI]
                    exact fin rfl
                  · simp (maxSteps := 4000000) (disch := omega) only [EW, Nat.reduceBEq, reduceIte, Nat.reduceAdd, Nat.reduceLeDiff, Nat.reduceLT, Nat.reduceSub, Nat.reduceMul, reduceCtorEq, Int.reduceNeg, Int.reduceSub, Int.reduceAdd, Int.reduceLE, Int.reduceLT, Int.reduceMul, Int.reduceToNat, Int.reduceEq, Int.reduceBEq, Int.reduceBNe, Nat.reduceEqDiff, PCp, hpl, hr, b9]
                    refine hR _ ?_
                    simp (maxSteps := 4000000) (disch := omega) only [EW, Nat.reduceBEq, reduceIte, Nat.reduceAdd, Nat.reduceLeDiff, Nat.reduceLT, Nat.reduceSub, Nat.reduceMul, reduceCtorEq, Int.reduceNeg, Int.reduceSub, Int.reduceAdd, Int.reduceLE, Int.reduceLT, Int.reduceMul, Int.reduceToNat, Int.reduceEq, Int.reduceBEq, Int.reduceBNe, Nat.reduceEqDiff, hI]
                    exact fin rfl
                · rw [decide_eq_false b8] at hO
                  rw [any_cons_f hO] at hI
                  have b9 : (x.name.1 == p.name.1) = false := by simp [b8]
                  rcases b6 with b6 | b6
                  · simp (maxSteps := 4000000) (disch := omega) only [EW, Nat.reduceBEq, reduceIte, Nat.reduceAdd, Nat.reduceLeDiff, Nat.reduceLT, Nat.reduceSub, Nat.reduceMul, reduceCtorEq, Int.reduceNeg, Int.reduceSub, Int.reduceAdd, Int.reduceLE, Int.reduceLT, Int.reduceMul, Int.reduceToNat, Int.reduceEq, Int.reduceBEq, Int.reduceBNe, Nat.reduceEqDiff, PCp, hpl, hr, b9]
                    refine next hI _ ?_
                    exact ⟨[some 0], rfl, rfl, rfl, rfl, ⟨.same _ rfl, .ptr rfl, .same _ rfl, trivial⟩, ⟨⟨_, rfl, .box (SubML.same _ rfl)⟩, trivial⟩⟩
                  · simp (maxSteps := 4000000) (disch := omega) only [EW, Nat.reduceBEq, reduceIte, Nat.reduceAdd, Nat.reduceLeDiff, Nat.reduceLT, Nat.reduceSub, Nat.reduceMul, reduceCtorEq, Int.reduceNeg, Int.reduceSub, Int.reduceAdd, Int.reduceLE, Int.reduceLT, Int.reduceMul, Int.reduceToNat, Int.reduceEq, Int.reduceBEq, Int.reduceBNe, Nat.reduceEqDiff, PCp, hpl, hr, b9]
                    refine next hI _ ?_
                    exact ⟨[some 0], rfl, rfl, rfl, rfl, ⟨.same _ rfl, .ptr rfl, .same _ rfl, trivial⟩, ⟨⟨_, rfl, .box (SubML.same _ rfl)⟩, trivial⟩⟩
              · have hX : isAttrB x = false := by unfold isAttrB; exact decide_eq_false b6
                rw [hX, Bool.false_and] at hO
                rw [any_cons_f hO] at hI
                simp (maxSteps := 4000000) (disch := omega) only [EW, Nat.reduceBEq, reduceIte, Nat.reduceAdd, Nat.reduceLeDiff, Nat.reduceLT, Nat.reduceSub, Nat.reduceMul, reduceCtorEq, Int.reduceNeg, Int.reduceSub, Int.reduceAdd, Int.reduceLE, Int.reduceLT, Int.reduceMul, Int.reduceToNat, Int.reduceEq, Int.reduceBEq, Int.reduceBNe, Nat.reduceEqDiff, PCp, hpl, hr]
                refine next hI _ ?_
                exact ⟨[some 0], rfl, rfl, rfl, rfl, ⟨.same _ rfl, .ptr rfl, .same _ rfl, trivial⟩, ⟨⟨_, rfl, .box (SubML.same _ rfl)⟩, trivial⟩⟩
            · have hP : isAttrB p = false := by unfold isAttrB; exact decide_eq_false (by omega)
              have hO : overB p x = decide (x.op = p.op) := by unfold overB; rw [if_neg hA, if_neg b4, if_neg (by rw [hP]; simp)]
              by_cases b7 : x.op = p.op
              · rw [decide_eq_true b7] at hO
                rw [any_cons_t hO] at hI
                simp (maxSteps := 4000000) (disch := omega) only [EW, Nat.reduceBEq, reduceIte, Nat.reduceAdd, Nat.reduceLeDiff, Nat.reduceLT, Nat.reduceSub, Nat.reduceMul, reduceCtorEq, Int.reduceNeg, Int.reduceSub, Int.reduceAdd, Int.reduceLE, Int.reduceLT, Int.reduceMul, Int.reduceToNat, Int.reduceEq, Int.reduceBEq, Int.reduceBNe, Nat.reduceEqDiff, PCp, hpl, hr]
                refine hR _ ?_
                simp (maxSteps := 4000000) (disch := omega) only [EW, Nat.reduceBEq, reduceIte, Nat.reduceAdd, Nat.reduceLeDiff, Nat.reduceLT, Nat.reduceSub, Nat.reduceMul, reduceCtorEq, Int.reduceNeg, Int.reduceSub, Int.reduceAdd, Int.reduceLE, Int.reduceLT, Int.reduceMul, Int.reduceToNat, Int.reduceEq, Int.reduceBEq, Int.reduceBNe, Nat.reduceEqDiff, hI]
                exact fin rfl
              · rw [decide_eq_false b7] at hO
                rw [any_cons_f hO] at hI
                simp (maxSteps := 4000000) (disch := omega) only [EW, Nat.reduceBEq, reduceIte, Nat.reduceAdd, Nat.reduceLeDiff, Nat.reduceLT, Nat.reduceSub, Nat.reduceMul, reduceCtorEq, Int.reduceNeg, Int.reduceSub, Int.reduceAdd, Int.reduceLE, Int.reduceLT, Int.reduceMul, Int.reduceToNat, Int.reduceEq, Int.reduceBEq, Int.reduceBNe, Nat.reduceEqDiff, PCp, hpl, hr]
                refine next hI _ ?_
                exact ⟨[some 0], rfl, rfl, rfl, rfl, ⟨.same _ rfl, .ptr rfl, .same _ rfl, trivial⟩, ⟨⟨_, rfl, .box (SubML.same _ rfl)⟩, trivial⟩⟩
    · rw [List.drop_eq_nil_of_le hge] at hI
      have hI2 : idleB ps i = false := by rw [hI]; split <;> rfl
      simp (maxSteps := 4000000) (disch := omega) only [EW, Nat.reduceBEq, reduceIte, Nat.reduceAdd, Nat.reduceLeDiff, Nat.reduceLT, Nat.reduceSub, Nat.reduceMul, reduceCtorEq, Int.reduceNeg, Int.reduceSub, Int.reduceAdd, Int.reduceLE, Int.reduceLT, Int.reduceMul, Int.reduceToNat, Int.reduceEq, Int.reduceBEq, Int.reduceBNe, Nat.reduceEqDiff, hpl]
      refine hE _ _ ?_
      simp (maxSteps := 4000000) (disch := omega) only [EW, Nat.reduceBEq, reduceIte, Nat.reduceAdd, Nat.reduceLeDiff, Nat.reduceLT, Nat.reduceSub, Nat.reduceMul, reduceCtorEq, Int.reduceNeg, Int.reduceSub, Int.reduceAdd, Int.reduceLE, Int.reduceLT, Int.reduceMul, Int.reduceToNat, Int.reduceEq, Int.reduceBEq, Int.reduceBNe, Nat.reduceEqDiff, hI2]
      exact fin rfl
end Go.Proofs.VL

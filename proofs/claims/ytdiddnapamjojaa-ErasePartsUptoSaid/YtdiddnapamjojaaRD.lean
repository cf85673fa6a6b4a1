/- Contracts of functions of the program, for what calls them, and the law that its name tells. -/
import Derived.Test.YtdiddnapamjojaaRC
namespace Go.Proofs.VL
open Go Go.RowKit
set_option maxRecDepth 100000
set_option maxHeartbeats 2000000
set_option linter.unusedSimpArgs false
set_option linter.unusedVariables false
attribute [local irreducible] vwp vk

/-- An outcome's turn: nothing of its own, and no calls of its own. -/
def ansPre (st : List Stp) (owner : Int) (i : Nat) (o : Oc) : Oc := match itsB st i owner with | true => ⟨0, 0, [], []⟩ | false => o
def ansOne (st : List Stp) (owner : Int) (i : Nat) (o : Oc) : Oc := { ansPre st owner i o with calls := woC owner (ansPre st owner i o).calls }
def ansAll (st : List Stp) (owner : Int) (l : List Oc) : List Oc := l.mapIdx (ansOne st owner)
theorem ansAll_snoc (st : List Stp) (owner : Int) (l : List Oc) {i : Nat} {x : Oc} (h : l[i]? = some x) : ansAll st owner (l.take (i + 1)) = ansAll st owner (l.take i) ++ [ansOne st owner i x] := by
  have hlt := (List.getElem?_eq_some_iff.1 h).1
  unfold ansAll
  rw [List.take_add_one, h, List.mapIdx_append, List.length_take, Nat.min_eq_left (by omega)]
  simp
theorem ansAll_len (st : List Stp) (owner : Int) (l : List Oc) : (ansAll st owner l).length = l.length := by simp [ansAll]
theorem ansAll_get (st : List Stp) (owner : Int) (l : List Oc) (i : Nat) : (ansAll st owner l)[i]? = (l[i]?).map (ansOne st owner i) := by simp [ansAll]
theorem ansPre_small {st : List Stp} {owner : Int} {i : Nat} {o : Oc} (h : OSmall o) : OSmall (ansPre st owner i o) := by
  unfold ansPre
  split
  · exact ⟨Nat.zero_le _, Nat.zero_le _⟩
  · exact h
theorem oRows_snoc (l : List Oc) (o : Oc) : oRows l ++ [oCells o] = oRows (l ++ [o]) := by simp [oRows]

theorem er_answers (l : List Oc) (st : List Stp) (owner : Int) (hl : l.length ≤ 10000000000) (hs : st.length ≤ 10000000000) (hsm : ∀ o ∈ l, OSmall o) :
    VFn Try.prog 34 [.sl 4 (oRows l), .sl 14 (sRows st), .int .i64 owner] (.sl 4 (oRows (ansAll st owner l))) := by
  refine VFn.intro ok34 (Nat.le_of_ble_eq_true rfl) (vk_start ?_)
  have hol := oRows_length l
  simp (maxSteps := 4000000) (disch := omega) only [EW, Nat.reduceBEq, reduceIte, Nat.reduceAdd, Nat.reduceLeDiff, Nat.reduceLT, Nat.reduceSub, Nat.reduceMul, reduceCtorEq, Int.reduceNeg, Int.reduceSub, Int.reduceAdd, Int.reduceLE, Int.reduceLT, Int.reduceMul, Int.reduceToNat, Int.reduceEq, Int.reduceBEq, Int.reduceBNe, Nat.reduceEqDiff, vc34, rs34, hol]
  refine vk_loopR (γ := Nat) (fun i => { tm := [(1, .sl 14 (sRows st)), (2, .int .i64 owner), (7, .ref 0 (ansAll st owner (l.take i)).length), (10, .sl 4 (oRows l)), (11, .int .i64 l.length), (12, .int .i64 i)], ob := [some (.arr 61 4 (oRows (ansAll st owner (l.take i))))], base := 0 })
    (fun i => i ≤ l.length) (fun i => l.length - i) 0 (Nat.zero_le _) ?_ ?_
  · exact ⟨[none], rfl, rfl, rfl, rfl, ⟨.same _ rfl, .same _ rfl, .nref rfl, .same _ rfl, .same _ rfl, .same _ rfl, trivial⟩, ⟨⟨_, _, rfl⟩, trivial⟩⟩
  · rintro i hi R hN hE hR
    have hal := oRows_length (ansAll st owner (l.take i))
    have hal2 := ansAll_len st owner (l.take i)
    rw [List.length_take, Nat.min_eq_left hi] at hal2
    have htk : List.take (ansAll st owner (l.take i)).length (oRows (ansAll st owner (l.take i))) = oRows (ansAll st owner (l.take i)) := List.take_of_length_le (by omega)
    rcases Nat.lt_or_ge i l.length with hlt | hge
    · obtain ⟨x, hx⟩ : ∃ x, l[i]? = some x := ⟨_, List.getElem?_eq_getElem hlt⟩
      have hg : (oRows l)[i]? = some (oCells x) := by rw [oRows_get, hx]; rfl
      have hits := er_its st i owner (by omega) (by omega)
      have hall : (oCells x).all VO.evW.isCell = true := rfl
      have hpu : putCells [.int .i64 0, .int .i64 0, .nils, .nils] 0 (oCells x) = oCells x := rfl
      have hcl : (oCells x).length = 4 := rfl
      have hct : (oCells x).take 4 = oCells x := rfl
      simp (maxSteps := 4000000) (disch := omega) only [EW, Nat.reduceBEq, reduceIte, Nat.reduceAdd, Nat.reduceLeDiff, Nat.reduceLT, Nat.reduceSub, Nat.reduceMul, reduceCtorEq, Int.reduceNeg, Int.reduceSub, Int.reduceAdd, Int.reduceLE, Int.reduceLT, Int.reduceMul, Int.reduceToNat, Int.reduceEq, Int.reduceBEq, Int.reduceBNe, Nat.reduceEqDiff, hg, hall, hpu, hcl, hct, hol]
      obtain ⟨p, hp⟩ : ∃ p, p = ansPre st owner i x := ⟨_, rfl⟩
      refine vk_joinR (γ := Unit) (fun _ => { tm := [(1, .sl 14 (sRows st)), (2, .int .i64 owner), (7, .ref 0 (ansAll st owner (l.take i)).length), (9, .ptr 1 0), (10, .sl 4 (oRows l)), (11, .int .i64 l.length), (12, .int .i64 i)], ob := [some (.arr 61 4 (oRows (ansAll st owner (l.take i)))), some (.box [.int .i64 p.code, .int .i64 p.n, .sl 2 (rws p.ans), .sl 4 (kaRows p.calls)])], base := 0 }) (fun _ => True) ?_ ?_
      · intro R2 hN2 hE2 hR2
        cases hI : itsB st i owner with
        | true =>
          have hpe : p = ⟨0, 0, [], []⟩ := by rw [hp]; unfold ansPre; rw [hI]
          rw [hI] at hits
          simp (maxSteps := 4000000) (disch := omega) only [EW, Nat.reduceBEq, reduceIte, Nat.reduceAdd, Nat.reduceLeDiff, Nat.reduceLT, Nat.reduceSub, Nat.reduceMul, reduceCtorEq, Int.reduceNeg, Int.reduceSub, Int.reduceAdd, Int.reduceLE, Int.reduceLT, Int.reduceMul, Int.reduceToNat, Int.reduceEq, Int.reduceBEq, Int.reduceBNe, Nat.reduceEqDiff]
          (refine vk_callR rfl ⟨_, .inl rfl, hits⟩ ?_; simp (maxSteps := 4000000) (disch := omega) only [EW, Nat.reduceBEq, reduceIte, Nat.reduceAdd, Nat.reduceLeDiff, Nat.reduceLT, Nat.reduceSub, Nat.reduceMul, reduceCtorEq, Int.reduceNeg, Int.reduceSub, Int.reduceAdd, Int.reduceLE, Int.reduceLT, Int.reduceMul, Int.reduceToNat, Int.reduceEq, Int.reduceBEq, Int.reduceBNe, Nat.reduceEqDiff])
          refine hN2 _ () trivial ?_
          rw [hpe]
          exact ⟨[some 0, some 1], rfl, rfl, rfl, rfl, ⟨.same _ rfl, .same _ rfl, .ref rfl, .ptr rfl, .same _ rfl, .same _ rfl, .same _ rfl, trivial⟩, ⟨⟨_, rfl, .arr (.refl _)⟩, ⟨⟨_, rfl, .box (.cons (.same _ rfl) (.cons (.same _ rfl) (.cons (.nil _) (.cons (.nil _) .nil))))⟩, trivial⟩⟩⟩
        | false =>
          have hpe : p = x := by rw [hp]; unfold ansPre; rw [hI]
          rw [hI] at hits
          simp (maxSteps := 4000000) (disch := omega) only [EW, Nat.reduceBEq, reduceIte, Nat.reduceAdd, Nat.reduceLeDiff, Nat.reduceLT, Nat.reduceSub, Nat.reduceMul, reduceCtorEq, Int.reduceNeg, Int.reduceSub, Int.reduceAdd, Int.reduceLE, Int.reduceLT, Int.reduceMul, Int.reduceToNat, Int.reduceEq, Int.reduceBEq, Int.reduceBNe, Nat.reduceEqDiff]
          (refine vk_callR rfl ⟨_, .inl rfl, hits⟩ ?_; simp (maxSteps := 4000000) (disch := omega) only [EW, Nat.reduceBEq, reduceIte, Nat.reduceAdd, Nat.reduceLeDiff, Nat.reduceLT, Nat.reduceSub, Nat.reduceMul, reduceCtorEq, Int.reduceNeg, Int.reduceSub, Int.reduceAdd, Int.reduceLE, Int.reduceLT, Int.reduceMul, Int.reduceToNat, Int.reduceEq, Int.reduceBEq, Int.reduceBNe, Nat.reduceEqDiff])
          refine hN2 _ () trivial ?_
          rw [hpe]
          unfold oCells
          exact ⟨[some 0, some 1], rfl, rfl, rfl, rfl, ⟨.same _ rfl, .same _ rfl, .ref rfl, .ptr rfl, .same _ rfl, .same _ rfl, .same _ rfl, trivial⟩, ⟨⟨_, rfl, .arr (.refl _)⟩, ⟨⟨_, rfl, .box (SubML.same _ rfl)⟩, trivial⟩⟩⟩
      · rintro _ _
        have hsp : OSmall p := by rw [hp]; exact ansPre_small (hsm x (List.mem_of_getElem? hx))
        have hpl := rws_length p.ans
        have hkl := kaRows_length p.calls
        have h1 := ans_clone (rws p.ans) (by rw [hpl]; exact hsp.1)
        have h2 := er_without p.calls owner hsp.2
        have e1 : oRows (ansAll st owner (l.take i)) ++ [[.int .i64 p.code, .int .i64 p.n, .sl 2 (rws p.ans), .sl 4 (kaRows (woC owner p.calls))]] = oRows (ansAll st owner (l.take (i + 1))) := by
          rw [ansAll_snoc st owner l hx, ← oRows_snoc, hp]; rfl
        have hal3 := ansAll_len st owner (l.take (i + 1))
        rw [List.length_take, Nat.min_eq_left (by omega)] at hal3
        have hal5 : (oRows (ansAll st owner (l.take (i + 1)))).length = i + 1 := by rw [oRows_length, hal3]
        have htk2 : List.take i (oRows (ansAll st owner (l.take i))) = oRows (ansAll st owner (l.take i)) := List.take_of_length_le (by omega)
        simp (maxSteps := 4000000) (disch := omega) only [EW, Nat.reduceBEq, reduceIte, Nat.reduceAdd, Nat.reduceLeDiff, Nat.reduceLT, Nat.reduceSub, Nat.reduceMul, reduceCtorEq, Int.reduceNeg, Int.reduceSub, Int.reduceAdd, Int.reduceLE, Int.reduceLT, Int.reduceMul, Int.reduceToNat, Int.reduceEq, Int.reduceBEq, Int.reduceBNe, Nat.reduceEqDiff]
        (refine vk_callR rfl ⟨_, .inl rfl, h1⟩ ?_; simp (maxSteps := 4000000) (disch := omega) only [EW, Nat.reduceBEq, reduceIte, Nat.reduceAdd, Nat.reduceLeDiff, Nat.reduceLT, Nat.reduceSub, Nat.reduceMul, reduceCtorEq, Int.reduceNeg, Int.reduceSub, Int.reduceAdd, Int.reduceLE, Int.reduceLT, Int.reduceMul, Int.reduceToNat, Int.reduceEq, Int.reduceBEq, Int.reduceBNe, Nat.reduceEqDiff])
        (refine vk_callR rfl ⟨_, .inl rfl, h2⟩ ?_; simp (maxSteps := 4000000) (disch := omega) only [EW, Nat.reduceBEq, reduceIte, Nat.reduceAdd, Nat.reduceLeDiff, Nat.reduceLT, Nat.reduceSub, Nat.reduceMul, reduceCtorEq, Int.reduceNeg, Int.reduceSub, Int.reduceAdd, Int.reduceLE, Int.reduceLT, Int.reduceMul, Int.reduceToNat, Int.reduceEq, Int.reduceBEq, Int.reduceBNe, Nat.reduceEqDiff, htk2, e1, hal, hal2, hal5])
        refine hN _ (i + 1) hlt (by omega) ?_
        rw [hal3]
        exact ⟨[some 2], rfl, rfl, rfl, rfl, ⟨.same _ rfl, .same _ rfl, .ref rfl, .same _ rfl, .same _ rfl, .same _ rfl, trivial⟩, ⟨⟨_, rfl, .arr (.refl _)⟩, trivial⟩⟩
    · have e : i = l.length := by omega
      subst e
      simp (maxSteps := 4000000) (disch := omega) only [EW, Nat.reduceBEq, reduceIte, Nat.reduceAdd, Nat.reduceLeDiff, Nat.reduceLT, Nat.reduceSub, Nat.reduceMul, reduceCtorEq, Int.reduceNeg, Int.reduceSub, Int.reduceAdd, Int.reduceLE, Int.reduceLT, Int.reduceMul, Int.reduceToNat, Int.reduceEq, Int.reduceBEq, Int.reduceBNe, Nat.reduceEqDiff, hol]
      refine hE _ _ ?_
      rw [List.take_length] at hal htk ⊢
      simp (maxSteps := 4000000) (disch := omega) only [EW, Nat.reduceBEq, reduceIte, Nat.reduceAdd, Nat.reduceLeDiff, Nat.reduceLT, Nat.reduceSub, Nat.reduceMul, reduceCtorEq, Int.reduceNeg, Int.reduceSub, Int.reduceAdd, Int.reduceLE, Int.reduceLT, Int.reduceMul, Int.reduceToNat, Int.reduceEq, Int.reduceBEq, Int.reduceBNe, Nat.reduceEqDiff]
      exact fin (lend_rows rfl hal.symm)
def stpOne (l : List Stp) (owner : Int) (c : List (List V)) (i : Nat) (s : Stp) : Stp := match itsB l i owner with | true => { s with cmds := c } | false => s
def stpAll (l : List Stp) (owner : Int) (c : List (List V)) : List Stp := l.mapIdx (stpOne l owner c)
theorem stpAll_len (l : List Stp) (owner : Int) (c : List (List V)) : (stpAll l owner c).length = l.length := by simp [stpAll]
theorem stpAll_get (l : List Stp) (owner : Int) (c : List (List V)) (i : Nat) : (stpAll l owner c)[i]? = (l[i]?).map (stpOne l owner c i) := by simp [stpAll]
theorem sRows_set (A : List Stp) (j : Nat) (x : Stp) : (sRows A).set j (sCells x) = sRows (A.set j x) := by simp [sRows, List.map_set]

theorem er_steps (l : List Stp) (owner : Int) (c : List (List V)) (hl : l.length ≤ 10000000000) (hc : c.length ≤ 10000000000) :
    VFn Try.prog 37 [.sl 14 (sRows l), .int .i64 owner, .sl 5 c] (.sl 14 (sRows (stpAll l owner c))) := by
  refine VFn.intro ok37 (Nat.le_of_ble_eq_true rfl) (vk_start ?_)
  have hsl := sRows_length l
  have h1 := step_clone (sRows l) (by omega)
  rw [hsl] at h1
  simp (maxSteps := 4000000) (disch := omega) only [EW, Nat.reduceBEq, reduceIte, Nat.reduceAdd, Nat.reduceLeDiff, Nat.reduceLT, Nat.reduceSub, Nat.reduceMul, reduceCtorEq, Int.reduceNeg, Int.reduceSub, Int.reduceAdd, Int.reduceLE, Int.reduceLT, Int.reduceMul, Int.reduceToNat, Int.reduceEq, Int.reduceBEq, Int.reduceBNe, Nat.reduceEqDiff, vc37, rs37, hsl]
  refine vk_call rfl h1 ?_
  simp (maxSteps := 4000000) (disch := omega) only [EW, Nat.reduceBEq, reduceIte, Nat.reduceAdd, Nat.reduceLeDiff, Nat.reduceLT, Nat.reduceSub, Nat.reduceMul, reduceCtorEq, Int.reduceNeg, Int.reduceSub, Int.reduceAdd, Int.reduceLE, Int.reduceLT, Int.reduceMul, Int.reduceToNat, Int.reduceEq, Int.reduceBEq, Int.reduceBNe, Nat.reduceEqDiff, hsl]
  refine vk_loopR (γ := Nat × List Stp) (fun g => { tm := [(0, .sl 14 (sRows l)), (1, .int .i64 owner), (2, .sl 5 c), (7, .ref 0 l.length), (12, .int .i64 l.length), (13, .int .i64 g.1)], ob := [some (.arr 68 14 (sRows g.2))], base := 0 })
    (fun g => g.1 ≤ l.length ∧ g.2.length = l.length ∧ ∀ k s, l[k]? = some s → g.2[k]? = some (if k < g.1 then stpOne l owner c k s else s)) (fun g => l.length - g.1) (0, l) ⟨Nat.zero_le _, rfl, fun k s h => by rw [if_neg (by simp)]; exact h⟩ ?_ ?_
  · exact ⟨[some 0], rfl, rfl, rfl, rfl, ⟨.same _ rfl, .same _ rfl, .same _ rfl, .ref rfl, .same _ rfl, .same _ rfl, trivial⟩, ⟨⟨_, rfl, .arr (.refl _)⟩, trivial⟩⟩
  · rintro ⟨i, A⟩ ⟨hi, hA, hI⟩ R hN hE hR
    simp only at hi hA hI
    have hAl := sRows_length A
    rcases Nat.lt_or_ge i l.length with hlt | hge
    · obtain ⟨x, hx⟩ : ∃ x, l[i]? = some x := ⟨_, List.getElem?_eq_getElem hlt⟩
      have hxA : A[i]? = some x := by have := hI i x hx; rw [if_neg (by omega)] at this; exact this
      have hg : (sRows A)[i]? = some (sCells x) := by rw [sRows_get, hxA]; rfl
      have hits := er_its l i owner (by omega) (by omega)
      have h2 := cmd_clone c hc
      have hif : (sCells x).length = 14 := rfl
      have hpu : putCells (sCells x) 13 [.sl 5 c] = sCells { x with cmds := c } := rfl
      have hgo : ∀ A' : List Stp, A'.length = l.length → A'[i]? = some (stpOne l owner c i x) → (∀ k, k ≠ i → A'[k]? = A[k]?) → (∀ k s, l[k]? = some s → A'[k]? = some (if k < i + 1 then stpOne l owner c k s else s)) := by
        intro A' _ q1 q2 k s hs
        by_cases hk : k = i
        · subst hk; rw [hx] at hs; injection hs with hs; subst hs; rw [q1, if_pos (by omega)]
        · rw [q2 k hk, hI k s hs]
          by_cases hk2 : k < i
          · rw [if_pos hk2, if_pos (by omega)]
          · rw [if_neg hk2, if_neg (by omega)]
      cases hB : itsB l i owner with
      | true =>
        have e : stpOne l owner c i x = { x with cmds := c } := by unfold stpOne; rw [hB]
        rw [hB] at hits
        simp (maxSteps := 4000000) (disch := omega) only [EW, Nat.reduceBEq, reduceIte, Nat.reduceAdd, Nat.reduceLeDiff, Nat.reduceLT, Nat.reduceSub, Nat.reduceMul, reduceCtorEq, Int.reduceNeg, Int.reduceSub, Int.reduceAdd, Int.reduceLE, Int.reduceLT, Int.reduceMul, Int.reduceToNat, Int.reduceEq, Int.reduceBEq, Int.reduceBNe, Nat.reduceEqDiff]
        (refine vk_callR rfl ⟨_, .inl rfl, hits⟩ ?_; simp (maxSteps := 4000000) (disch := omega) only [EW, Nat.reduceBEq, reduceIte, Nat.reduceAdd, Nat.reduceLeDiff, Nat.reduceLT, Nat.reduceSub, Nat.reduceMul, reduceCtorEq, Int.reduceNeg, Int.reduceSub, Int.reduceAdd, Int.reduceLE, Int.reduceLT, Int.reduceMul, Int.reduceToNat, Int.reduceEq, Int.reduceBEq, Int.reduceBNe, Nat.reduceEqDiff])
        (refine vk_callR rfl ⟨_, .inl rfl, h2⟩ ?_; simp (maxSteps := 4000000) (disch := omega) only [EW, Nat.reduceBEq, reduceIte, Nat.reduceAdd, Nat.reduceLeDiff, Nat.reduceLT, Nat.reduceSub, Nat.reduceMul, reduceCtorEq, Int.reduceNeg, Int.reduceSub, Int.reduceAdd, Int.reduceLE, Int.reduceLT, Int.reduceMul, Int.reduceToNat, Int.reduceEq, Int.reduceBEq, Int.reduceBNe, Nat.reduceEqDiff, hg, hA, hAl, hif, hpu, sRows_set])
        refine hN _ (i + 1, A.set i { x with cmds := c }) ⟨hlt, by simp only [List.length_set]; exact hA, hgo _ (by simp only [List.length_set]; exact hA) (by rw [List.getElem?_set_self (by omega), e]) (fun k hk => by rw [List.getElem?_set_ne (Ne.symm hk)])⟩ (by simp only; omega) ?_
        exact ⟨[some 0], rfl, rfl, rfl, rfl, ⟨.same _ rfl, .same _ rfl, .same _ rfl, .ref rfl, .same _ rfl, .same _ rfl, trivial⟩, ⟨⟨_, rfl, .arr (.refl _)⟩, trivial⟩⟩
      | false =>
        have e : stpOne l owner c i x = x := by unfold stpOne; rw [hB]
        rw [hB] at hits
        simp (maxSteps := 4000000) (disch := omega) only [EW, Nat.reduceBEq, reduceIte, Nat.reduceAdd, Nat.reduceLeDiff, Nat.reduceLT, Nat.reduceSub, Nat.reduceMul, reduceCtorEq, Int.reduceNeg, Int.reduceSub, Int.reduceAdd, Int.reduceLE, Int.reduceLT, Int.reduceMul, Int.reduceToNat, Int.reduceEq, Int.reduceBEq, Int.reduceBNe, Nat.reduceEqDiff]
        (refine vk_callR rfl ⟨_, .inl rfl, hits⟩ ?_; simp (maxSteps := 4000000) (disch := omega) only [EW, Nat.reduceBEq, reduceIte, Nat.reduceAdd, Nat.reduceLeDiff, Nat.reduceLT, Nat.reduceSub, Nat.reduceMul, reduceCtorEq, Int.reduceNeg, Int.reduceSub, Int.reduceAdd, Int.reduceLE, Int.reduceLT, Int.reduceMul, Int.reduceToNat, Int.reduceEq, Int.reduceBEq, Int.reduceBNe, Nat.reduceEqDiff])
        refine hN _ (i + 1, A) ⟨hlt, hA, hgo _ hA (by rw [hxA, e]) (fun k _ => rfl)⟩ (by simp only; omega) ?_
        exact ⟨[some 0], rfl, rfl, rfl, rfl, ⟨.same _ rfl, .same _ rfl, .same _ rfl, .ref rfl, .same _ rfl, .same _ rfl, trivial⟩, ⟨⟨_, rfl, .arr (.refl _)⟩, trivial⟩⟩
    · have e : i = l.length := by omega
      subst e
      have eA : A = stpAll l owner c := by
        apply List.ext_getElem?
        intro k
        rw [stpAll_get]
        rcases Nat.lt_or_ge k l.length with hk | hk
        · obtain ⟨s, hs⟩ : ∃ s, l[k]? = some s := ⟨_, List.getElem?_eq_getElem hk⟩
          rw [hI k s hs, if_pos hk, hs]; rfl
        · rw [List.getElem?_eq_none (by omega), List.getElem?_eq_none (by omega)]; rfl
      simp (maxSteps := 4000000) (disch := omega) only [EW, Nat.reduceBEq, reduceIte, Nat.reduceAdd, Nat.reduceLeDiff, Nat.reduceLT, Nat.reduceSub, Nat.reduceMul, reduceCtorEq, Int.reduceNeg, Int.reduceSub, Int.reduceAdd, Int.reduceLE, Int.reduceLT, Int.reduceMul, Int.reduceToNat, Int.reduceEq, Int.reduceBEq, Int.reduceBNe, Nat.reduceEqDiff]
      refine hE _ _ ?_
      simp (maxSteps := 4000000) (disch := omega) only [EW, Nat.reduceBEq, reduceIte, Nat.reduceAdd, Nat.reduceLeDiff, Nat.reduceLT, Nat.reduceSub, Nat.reduceMul, reduceCtorEq, Int.reduceNeg, Int.reduceSub, Int.reduceAdd, Int.reduceLE, Int.reduceLT, Int.reduceMul, Int.reduceToNat, Int.reduceEq, Int.reduceBEq, Int.reduceBNe, Nat.reduceEqDiff]
      rw [← eA]
      exact fin (lend_rows rfl (by omega))
end Go.Proofs.VL

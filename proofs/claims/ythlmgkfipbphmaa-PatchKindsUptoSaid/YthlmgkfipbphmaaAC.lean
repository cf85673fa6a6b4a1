/- Contracts of functions of the program, for what calls them, and the law that its name tells. -/
import Derived.Test.YthlmgkfipbphmaaAB
namespace Go.Proofs.VL
open Go Go.RowKit
set_option maxRecDepth 100000
set_option maxHeartbeats 2000000
set_option linter.unusedSimpArgs false
set_option linter.unusedVariables false
attribute [local irreducible] vwp vk

/-- A contract over an arena, where it lies among other objects. -/
theorem a_at {f : FuncId} {args : List V} {A A' : Ar} {r : V} (h : VCall Try.prog f (.ptr 0 0 :: args) (aOb A) r (aOb A')) (ha : wfL 0 args = true) (hr : wfV 0 r = true) {B : List (Option VObj)} {k0 k1 : Nat}
    (h0 : B[k0]? = some (some (.box (aCells k1 A)))) (h1 : B[k1]? = some (some (.map (mV A.es) A.clock))) (hne : k0 ≠ k1) :
    VCall Try.prog f (.ptr k0 0 :: args) B r ((B.set k0 (some (.box (aCells k1 A')))).set k1 (some (.map (mV A'.es) A'.clock))) := by
  have hr1 : renL (nameOf [k0, k1] B.length) args = args := renL_id (n := 0) (fun k hk => by omega) args ha
  have hr2 : renV (nameOf [k0, k1] B.length) r = r := renV_id (n := 0) (fun k hk => by omega) r hr
  have hf := VCall.frame h [k0, k1] B ⟨rfl, by simp [hne], fun i j hj => by
    match i, hj with
    | 0, hj => simp at hj; subst hj; exact ⟨getElem?_lt h0, fun o' ho => by simp [aOb] at ho; subst ho; exact h0⟩
    | 1, hj => simp at hj; subst hj; exact ⟨getElem?_lt h1, fun o' ho => by simp [aOb] at ho; subst ho; exact h1⟩
    | i + 2, hj => simp at hj⟩ (by simp only [wfL, wfV, Bool.and_eq_true]; exact ⟨rfl, wfL_mono (Nat.zero_le _) args ha⟩) rfl (wfV_mono (Nat.zero_le _) r hr) rfl (Nat.le_refl _)
  simp only [renL, renV, hr1, hr2] at hf
  have e : putObs (nameOf [k0, k1] B.length) B [k0, k1] (aOb A') = (B.set k0 (some (.box (aCells k1 A')))).set k1 (some (.map (mV A'.es) A'.clock)) := by
    simp [putObs, aOb, aCells, renO, renL, renV, nameOf]
  rw [e] at hf
  exact hf
theorem set_same {α : Type} {l : List α} {k : Nat} {x : α} (h : l[k]? = some x) : l.set k x = l := by
  apply List.ext_getElem?
  intro i
  rw [List.getElem?_set]
  split
  · rename_i hi; subst hi; rw [if_pos (getElem?_lt h), h]
  · rfl
theorem a_rd {f : FuncId} {args : List V} {A : Ar} {r : V} (h : VCall Try.prog f (.ptr 0 0 :: args) (aOb A) r (aOb A)) (ha : wfL 0 args = true) (hr : wfV 0 r = true) {B : List (Option VObj)} {k0 k1 : Nat}
    (h0 : B[k0]? = some (some (.box (aCells k1 A)))) (h1 : B[k1]? = some (some (.map (mV A.es) A.clock))) (hne : k0 ≠ k1) :
    VCall Try.prog f (.ptr k0 0 :: args) B r B := by
  have := a_at h ha hr h0 h1 hne
  rw [set_same h0, set_same h1] at this
  exact this

theorem a_next (A : Ar) (o : Int) (hA : A.ok) : VCall Try.prog 12 [.ptr 0 0, .int .i64 o] (aOb A) (.int .i64 (if 0 ≤ o ∧ o < 4 then (if fullB A o.toNat = true then 0 else nextI A o.toNat) else 0)) (aOb A) := by
  refine VCall.intro ok12 (Nat.le_of_ble_eq_true rfl) (vk_start ?_)
  have h1 := a_is A
  have h2 := a_known o
  obtain ⟨⟨u1, u2, u3, u4⟩, l1, l2, l3, l4⟩ := hA
  by_cases ho : 0 ≤ o ∧ o < 4
  · rw [if_pos ho]
    rw [decide_eq_true ho] at h2
    obtain ⟨o', rfl⟩ : ∃ o' : Nat, o = o' := ⟨o.toNat, by omega⟩
    have h3 := a_full A o' (by omega)
    rw [Int.toNat_natCast]
    cases hf : fullB A o' with
    | true =>
      rw [hf] at h3
      simp (maxSteps := 4000000) (disch := omega) only [EW, Nat.reduceBEq, reduceIte, Nat.reduceAdd, Nat.reduceLeDiff, Nat.reduceLT, Nat.reduceSub, Nat.reduceMul, reduceCtorEq, Int.reduceNeg, Int.reduceSub, Int.reduceAdd, Int.reduceLE, Int.reduceLT, Int.reduceMul, Int.reduceToNat, Int.reduceEq, Int.reduceBEq, Int.reduceBNe, Nat.reduceEqDiff, vc12, rs12]
      refine vk_call rfl h1 ?_
      simp (maxSteps := 4000000) (disch := omega) only [EW, Nat.reduceBEq, reduceIte, Nat.reduceAdd, Nat.reduceLeDiff, Nat.reduceLT, Nat.reduceSub, Nat.reduceMul, reduceCtorEq, Int.reduceNeg, Int.reduceSub, Int.reduceAdd, Int.reduceLE, Int.reduceLT, Int.reduceMul, Int.reduceToNat, Int.reduceEq, Int.reduceBEq, Int.reduceBNe, Nat.reduceEqDiff]
      (refine vk_callR rfl ⟨_, .inl rfl, h2⟩ ?_; simp (maxSteps := 4000000) (disch := omega) only [EW, Nat.reduceBEq, reduceIte, Nat.reduceAdd, Nat.reduceLeDiff, Nat.reduceLT, Nat.reduceSub, Nat.reduceMul, reduceCtorEq, Int.reduceNeg, Int.reduceSub, Int.reduceAdd, Int.reduceLE, Int.reduceLT, Int.reduceMul, Int.reduceToNat, Int.reduceEq, Int.reduceBEq, Int.reduceBNe, Nat.reduceEqDiff])
      refine vk_call rfl h3 ?_
      simp (maxSteps := 4000000) (disch := omega) only [EW, Nat.reduceBEq, reduceIte, Nat.reduceAdd, Nat.reduceLeDiff, Nat.reduceLT, Nat.reduceSub, Nat.reduceMul, reduceCtorEq, Int.reduceNeg, Int.reduceSub, Int.reduceAdd, Int.reduceLE, Int.reduceLT, Int.reduceMul, Int.reduceToNat, Int.reduceEq, Int.reduceBEq, Int.reduceBNe, Nat.reduceEqDiff]
      exact ⟨_, rfl, ⟨[some 0, some 1], rfl, rfl, rfl, rfl, ⟨.same _ rfl, trivial⟩, ⟨⟨_, rfl, .box (.cons (.mapr rfl) (.cons (.same _ rfl) (.cons (.same _ rfl) (.cons (.same _ rfl) (.cons (.same _ rfl) (.cons (.same _ rfl) (.cons (.same _ rfl) (.cons (.same _ rfl) (.cons (.same _ rfl) .nil)))))))))⟩, ⟨⟨_, rfl, .map (SubE.refl _)⟩, trivial⟩⟩⟩⟩
    | false =>
      rw [hf] at h3
      unfold nextI
      obtain rfl | rfl | rfl | rfl : o' = 0 ∨ o' = 1 ∨ o' = 2 ∨ o' = 3 := by omega
      all_goals
        simp (maxSteps := 4000000) (disch := omega) only [EW, Nat.reduceBEq, reduceIte, Nat.reduceAdd, Nat.reduceLeDiff, Nat.reduceLT, Nat.reduceSub, Nat.reduceMul, reduceCtorEq, Int.reduceNeg, Int.reduceSub, Int.reduceAdd, Int.reduceLE, Int.reduceLT, Int.reduceMul, Int.reduceToNat, Int.reduceEq, Int.reduceBEq, Int.reduceBNe, Nat.reduceEqDiff, vc12, rs12]
        refine vk_call rfl h1 ?_
        simp (maxSteps := 4000000) (disch := omega) only [EW, Nat.reduceBEq, reduceIte, Nat.reduceAdd, Nat.reduceLeDiff, Nat.reduceLT, Nat.reduceSub, Nat.reduceMul, reduceCtorEq, Int.reduceNeg, Int.reduceSub, Int.reduceAdd, Int.reduceLE, Int.reduceLT, Int.reduceMul, Int.reduceToNat, Int.reduceEq, Int.reduceBEq, Int.reduceBNe, Nat.reduceEqDiff]
        (refine vk_callR rfl ⟨_, .inl rfl, h2⟩ ?_; simp (maxSteps := 4000000) (disch := omega) only [EW, Nat.reduceBEq, reduceIte, Nat.reduceAdd, Nat.reduceLeDiff, Nat.reduceLT, Nat.reduceSub, Nat.reduceMul, reduceCtorEq, Int.reduceNeg, Int.reduceSub, Int.reduceAdd, Int.reduceLE, Int.reduceLT, Int.reduceMul, Int.reduceToNat, Int.reduceEq, Int.reduceBEq, Int.reduceBNe, Nat.reduceEqDiff])
        refine vk_call rfl h3 ?_
        simp (maxSteps := 4000000) (disch := omega) only [EW, Nat.reduceBEq, reduceIte, Nat.reduceAdd, Nat.reduceLeDiff, Nat.reduceLT, Nat.reduceSub, Nat.reduceMul, reduceCtorEq, Int.reduceNeg, Int.reduceSub, Int.reduceAdd, Int.reduceLE, Int.reduceLT, Int.reduceMul, Int.reduceToNat, Int.reduceEq, Int.reduceBEq, Int.reduceBNe, Nat.reduceEqDiff, aOb, aCells, Q4r.get]
        exact ⟨_, rfl, ⟨[some 0, some 1], rfl, rfl, rfl, rfl, ⟨.of_eq (by first | rfl | (simp; done) | (simp; omega)) rfl, trivial⟩, ⟨⟨_, rfl, .box (.cons (.mapr rfl) (.cons (.same _ rfl) (.cons (.same _ rfl) (.cons (.same _ rfl) (.cons (.same _ rfl) (.cons (.same _ rfl) (.cons (.same _ rfl) (.cons (.same _ rfl) (.cons (.same _ rfl) .nil)))))))))⟩, ⟨⟨_, rfl, .map (SubE.refl _)⟩, trivial⟩⟩⟩⟩
  · rw [if_neg ho]
    rw [decide_eq_false ho] at h2
    simp (maxSteps := 4000000) (disch := omega) only [EW, Nat.reduceBEq, reduceIte, Nat.reduceAdd, Nat.reduceLeDiff, Nat.reduceLT, Nat.reduceSub, Nat.reduceMul, reduceCtorEq, Int.reduceNeg, Int.reduceSub, Int.reduceAdd, Int.reduceLE, Int.reduceLT, Int.reduceMul, Int.reduceToNat, Int.reduceEq, Int.reduceBEq, Int.reduceBNe, Nat.reduceEqDiff, vc12, rs12]
    refine vk_call rfl h1 ?_
    simp (maxSteps := 4000000) (disch := omega) only [EW, Nat.reduceBEq, reduceIte, Nat.reduceAdd, Nat.reduceLeDiff, Nat.reduceLT, Nat.reduceSub, Nat.reduceMul, reduceCtorEq, Int.reduceNeg, Int.reduceSub, Int.reduceAdd, Int.reduceLE, Int.reduceLT, Int.reduceMul, Int.reduceToNat, Int.reduceEq, Int.reduceBEq, Int.reduceBNe, Nat.reduceEqDiff]
    (refine vk_callR rfl ⟨_, .inl rfl, h2⟩ ?_; simp (maxSteps := 4000000) (disch := omega) only [EW, Nat.reduceBEq, reduceIte, Nat.reduceAdd, Nat.reduceLeDiff, Nat.reduceLT, Nat.reduceSub, Nat.reduceMul, reduceCtorEq, Int.reduceNeg, Int.reduceSub, Int.reduceAdd, Int.reduceLE, Int.reduceLT, Int.reduceMul, Int.reduceToNat, Int.reduceEq, Int.reduceBEq, Int.reduceBNe, Nat.reduceEqDiff])
    exact ⟨_, rfl, ⟨[some 0, some 1], rfl, rfl, rfl, rfl, ⟨.same _ rfl, trivial⟩, ⟨⟨_, rfl, .box (.cons (.mapr rfl) (.cons (.same _ rfl) (.cons (.same _ rfl) (.cons (.same _ rfl) (.cons (.same _ rfl) (.cons (.same _ rfl) (.cons (.same _ rfl) (.cons (.same _ rfl) (.cons (.same _ rfl) .nil)))))))))⟩, ⟨⟨_, rfl, .map (SubE.refl _)⟩, trivial⟩⟩⟩⟩
end Go.Proofs.VL

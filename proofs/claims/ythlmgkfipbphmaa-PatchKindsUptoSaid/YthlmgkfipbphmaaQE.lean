/- Contracts of functions of the program, for what calls them, and the law that its name tells. -/
import Derived.Test.YthlmgkfipbphmaaQD
namespace Go.Proofs.VL
open Go Go.RowKit
set_option maxRecDepth 100000
set_option maxHeartbeats 8000000
set_option linter.unusedSimpArgs false
set_option linter.unusedVariables false
attribute [local irreducible] vwp vk

theorem d_insert1 (ki sl at_ : Int) (tag : List UInt8 × Runs) (key : List UInt8) (b : Nat) (hb : b ≤ 2000000) (ht : rawOk b tag) :
    ∃ (A' : Ar) (r : Int), VCall Try.prog 77 [.ptr 0 0, .int .i64 0, .int .i64 at_, .int .i64 1] (aOb (A1 ki tag key sl)) (.int .i64 r) (aOb A') := by
  have hg0 : gotN (A1 ki tag key sl) 0 = (ownN rootN, true) := rfl
  have hg1 : gotN (A1 ki tag key sl) 1 = (ownN (newN 1 0 ki (fixR tag) key sl), true) := rfl
  have hn0 : ∀ n, getN (A1 ki tag key sl).es 0 = some n → n.ok (b + 10) := by
    intro n hg
    have e : getN (A1 ki tag key sl).es 0 = some rootN := rfl
    rw [e] at hg; injection hg with hg; subst hg
    exact root_ok (by omega)
  have hn1 : ∀ n, getN (A1 ki tag key sl).es 1 = some n → n.ok (b + 10) := by
    intro n hg
    have e : getN (A1 ki tag key sl).es 1 = some (newN 1 0 ki (fixR tag) key sl) := rfl
    rw [e] at hg; injection hg with hg; subst hg
    exact new_ok ki key sl ⟨Nat.le_trans ht.1 (by omega), Nat.le_trans ht.2 (by omega)⟩
  have rk := ownN_ok (root_ok (b := b + 10) (by omega))
  have ck := ownN_ok (new_ok (b := b + 10) ki key sl ⟨Nat.le_trans ht.1 (by omega), Nat.le_trans ht.2 (by omega)⟩)
  have hi := inside1 ki tag key sl
  have c0 : ∀ {B : List (Option VObj)} (h0 : B[0]? = some (some (.box (aCells 1 (A1 ki tag key sl))))) (h1 : B[1]? = some (some (.map (mV (A1 ki tag key sl).es) (A1 ki tag key sl).clock))), _ := fun h0 h1 => a_getAt (A1 ki tag key sl) 0 (b + 10) (by omega) hn0 h0 h1
  have c1 : ∀ {B : List (Option VObj)} (h0 : B[0]? = some (some (.box (aCells 1 (A1 ki tag key sl))))) (h1 : B[1]? = some (some (.map (mV (A1 ki tag key sl).es) (A1 ki tag key sl).clock))), _ := fun h0 h1 => a_getAt (A1 ki tag key sl) 1 (b + 10) (by omega) hn1 h0 h1
  rw [hg0] at c0
  rw [hg1] at c1
  have r1 : (ownN rootN).kids = [] := rfl
  have r2 : (ownN rootN).kind = 1 := rfl
  have p1 : (ownN (newN 1 0 ki (fixR tag) key sl)).kids = [] := rfl
  have p2 : (ownN (newN 1 0 ki (fixR tag) key sl)).parent = -1 := rfl
  generalize ownN rootN = r at c0 rk r1 r2
  generalize ownN (newN 1 0 ki (fixR tag) key sl) = c at c1 ck p1 p2
  generalize A1 ki tag key sl = A at hi c0 c1 ⊢
  have s1 := fun {B : List (Option VObj)} {k2 : Nat} h0 h1 h2 hne => a_setK_at (B := B) (k0 := 0) (k1 := 1) (k2 := k2) A { r with kids := [1] } (b + 10) 3 (by omega) ⟨rk.tag, rk.text, rk.hooks, by show 1 ≤ b + 10; omega, rk.attrs, rk.each⟩ h0 h1 h2 hne
  have s2 := fun (A2 : Ar) {B : List (Option VObj)} {k2 : Nat} h0 h1 h2 hne => a_setK_at (B := B) (k0 := 0) (k1 := 1) (k2 := k2) A2 { c with parent := 0 } (b + 10) 3 (by omega) ⟨ck.tag, ck.text, ck.hooks, ck.kids, ck.attrs, ck.each⟩ h0 h1 h2 hne
  generalize hA2 : setA A { r with kids := [1] } = q at s1
  obtain ⟨A2, e2⟩ := q
  have s2 := fun {B : List (Option VObj)} {k2 : Nat} => s2 A2 (B := B) (k2 := k2)
  generalize setA A2 { c with parent := 0 } = q3 at s2
  obtain ⟨A3, e3⟩ := q3
  have zr : iRows r.kids = [] := by rw [r1]; rfl
  have zc : iRows c.kids = [] := by rw [p1]; rfl
  have z1 : iRows [1] = [[V.int .i64 1]] := rfl
  have l0 : r.kids.length = 0 := by rw [r1]; rfl
  have l1 : c.kids.length = 0 := by rw [p1]; rfl
  by_cases hlo : at_ < 0
  · refine ⟨A, 4, VCall.intro ok77 (Nat.le_of_ble_eq_true rfl) (vk_start ?_)⟩
    simp (maxSteps := 4000000) (disch := omega) only [EW, Nat.reduceBEq, reduceIte, Nat.reduceAdd, Nat.reduceLeDiff, Nat.reduceLT, Nat.reduceSub, Nat.reduceMul, reduceCtorEq, Int.reduceNeg, Int.reduceSub, Int.reduceAdd, Int.reduceLE, Int.reduceLT, Int.reduceMul, Int.reduceToNat, Int.reduceEq, Int.reduceBEq, Int.reduceBNe, Nat.reduceEqDiff, vc77, rs77, aOb]
    refine vk_call rfl (c0 rfl rfl) ?_
    simp (maxSteps := 4000000) (disch := omega) only [EW, Nat.reduceBEq, reduceIte, Nat.reduceAdd, Nat.reduceLeDiff, Nat.reduceLT, Nat.reduceSub, Nat.reduceMul, reduceCtorEq, Int.reduceNeg, Int.reduceSub, Int.reduceAdd, Int.reduceLE, Int.reduceLT, Int.reduceMul, Int.reduceToNat, Int.reduceEq, Int.reduceBEq, Int.reduceBNe, Nat.reduceEqDiff, nCellsK, zr, l0, r2]
    refine vk_call rfl (c1 rfl rfl) ?_
    simp (maxSteps := 4000000) (disch := omega) only [EW, Nat.reduceBEq, reduceIte, Nat.reduceAdd, Nat.reduceLeDiff, Nat.reduceLT, Nat.reduceSub, Nat.reduceMul, reduceCtorEq, Int.reduceNeg, Int.reduceSub, Int.reduceAdd, Int.reduceLE, Int.reduceLT, Int.reduceMul, Int.reduceToNat, Int.reduceEq, Int.reduceBEq, Int.reduceBNe, Nat.reduceEqDiff, nCellsK, zc, l1, p2, r2]
    refine vk_call rfl (a_rd (k0 := 0) (k1 := 1) hi rfl rfl rfl rfl (by decide)) ?_
    simp (maxSteps := 4000000) (disch := omega) only [EW, Nat.reduceBEq, reduceIte, Nat.reduceAdd, Nat.reduceLeDiff, Nat.reduceLT, Nat.reduceSub, Nat.reduceMul, reduceCtorEq, Int.reduceNeg, Int.reduceSub, Int.reduceAdd, Int.reduceLE, Int.reduceLT, Int.reduceMul, Int.reduceToNat, Int.reduceEq, Int.reduceBEq, Int.reduceBNe, Nat.reduceEqDiff]
    exact ⟨_, rfl, ⟨[some 0, some 1], rfl, rfl, rfl, rfl, ⟨.same _ rfl, trivial⟩, ⟨⟨_, rfl, .box (.cons (.mapr rfl) (.cons (.same _ rfl) (.cons (.same _ rfl) (.cons (.same _ rfl) (.cons (.same _ rfl) (.cons (.same _ rfl) (.cons (.same _ rfl) (.cons (.same _ rfl) (.cons (.same _ rfl) .nil)))))))))⟩, ⟨⟨_, rfl, .map (SubE.refl _)⟩, trivial⟩⟩⟩⟩
  · by_cases hhi : 0 < at_
    · refine ⟨A, 4, VCall.intro ok77 (Nat.le_of_ble_eq_true rfl) (vk_start ?_)⟩
      simp (maxSteps := 4000000) (disch := omega) only [EW, Nat.reduceBEq, reduceIte, Nat.reduceAdd, Nat.reduceLeDiff, Nat.reduceLT, Nat.reduceSub, Nat.reduceMul, reduceCtorEq, Int.reduceNeg, Int.reduceSub, Int.reduceAdd, Int.reduceLE, Int.reduceLT, Int.reduceMul, Int.reduceToNat, Int.reduceEq, Int.reduceBEq, Int.reduceBNe, Nat.reduceEqDiff, vc77, rs77, aOb]
      refine vk_call rfl (c0 rfl rfl) ?_
      simp (maxSteps := 4000000) (disch := omega) only [EW, Nat.reduceBEq, reduceIte, Nat.reduceAdd, Nat.reduceLeDiff, Nat.reduceLT, Nat.reduceSub, Nat.reduceMul, reduceCtorEq, Int.reduceNeg, Int.reduceSub, Int.reduceAdd, Int.reduceLE, Int.reduceLT, Int.reduceMul, Int.reduceToNat, Int.reduceEq, Int.reduceBEq, Int.reduceBNe, Nat.reduceEqDiff, nCellsK, zr, l0, r2]
      refine vk_call rfl (c1 rfl rfl) ?_
      simp (maxSteps := 4000000) (disch := omega) only [EW, Nat.reduceBEq, reduceIte, Nat.reduceAdd, Nat.reduceLeDiff, Nat.reduceLT, Nat.reduceSub, Nat.reduceMul, reduceCtorEq, Int.reduceNeg, Int.reduceSub, Int.reduceAdd, Int.reduceLE, Int.reduceLT, Int.reduceMul, Int.reduceToNat, Int.reduceEq, Int.reduceBEq, Int.reduceBNe, Nat.reduceEqDiff, nCellsK, zc, l1, p2, r2]
      refine vk_call rfl (a_rd (k0 := 0) (k1 := 1) hi rfl rfl rfl rfl (by decide)) ?_
      simp (maxSteps := 4000000) (disch := omega) only [EW, Nat.reduceBEq, reduceIte, Nat.reduceAdd, Nat.reduceLeDiff, Nat.reduceLT, Nat.reduceSub, Nat.reduceMul, reduceCtorEq, Int.reduceNeg, Int.reduceSub, Int.reduceAdd, Int.reduceLE, Int.reduceLT, Int.reduceMul, Int.reduceToNat, Int.reduceEq, Int.reduceBEq, Int.reduceBNe, Nat.reduceEqDiff]
      exact ⟨_, rfl, ⟨[some 0, some 1], rfl, rfl, rfl, rfl, ⟨.same _ rfl, trivial⟩, ⟨⟨_, rfl, .box (.cons (.mapr rfl) (.cons (.same _ rfl) (.cons (.same _ rfl) (.cons (.same _ rfl) (.cons (.same _ rfl) (.cons (.same _ rfl) (.cons (.same _ rfl) (.cons (.same _ rfl) (.cons (.same _ rfl) .nil)))))))))⟩, ⟨⟨_, rfl, .map (SubE.refl _)⟩, trivial⟩⟩⟩⟩
    · obtain rfl : at_ = 0 := by omega
      refine ⟨A3, e3, VCall.intro ok77 (Nat.le_of_ble_eq_true rfl) (vk_start ?_)⟩
      simp (maxSteps := 4000000) (disch := omega) only [EW, Nat.reduceBEq, reduceIte, Nat.reduceAdd, Nat.reduceLeDiff, Nat.reduceLT, Nat.reduceSub, Nat.reduceMul, reduceCtorEq, Int.reduceNeg, Int.reduceSub, Int.reduceAdd, Int.reduceLE, Int.reduceLT, Int.reduceMul, Int.reduceToNat, Int.reduceEq, Int.reduceBEq, Int.reduceBNe, Nat.reduceEqDiff, vc77, rs77, aOb]
      refine vk_call rfl (c0 rfl rfl) ?_
      simp (maxSteps := 4000000) (disch := omega) only [EW, Nat.reduceBEq, reduceIte, Nat.reduceAdd, Nat.reduceLeDiff, Nat.reduceLT, Nat.reduceSub, Nat.reduceMul, reduceCtorEq, Int.reduceNeg, Int.reduceSub, Int.reduceAdd, Int.reduceLE, Int.reduceLT, Int.reduceMul, Int.reduceToNat, Int.reduceEq, Int.reduceBEq, Int.reduceBNe, Nat.reduceEqDiff, nCellsK, zr, l0, r2]
      refine vk_call rfl (c1 rfl rfl) ?_
      simp (maxSteps := 4000000) (disch := omega) only [EW, Nat.reduceBEq, reduceIte, Nat.reduceAdd, Nat.reduceLeDiff, Nat.reduceLT, Nat.reduceSub, Nat.reduceMul, reduceCtorEq, Int.reduceNeg, Int.reduceSub, Int.reduceAdd, Int.reduceLE, Int.reduceLT, Int.reduceMul, Int.reduceToNat, Int.reduceEq, Int.reduceBEq, Int.reduceBNe, Nat.reduceEqDiff, nCellsK, zc, l1, p2, r2]
      refine vk_call rfl (a_rd (k0 := 0) (k1 := 1) hi rfl rfl rfl rfl (by decide)) ?_
      simp (maxSteps := 4000000) (disch := omega) only [EW, Nat.reduceBEq, reduceIte, Nat.reduceAdd, Nat.reduceLeDiff, Nat.reduceLT, Nat.reduceSub, Nat.reduceMul, reduceCtorEq, Int.reduceNeg, Int.reduceSub, Int.reduceAdd, Int.reduceLE, Int.reduceLT, Int.reduceMul, Int.reduceToNat, Int.reduceEq, Int.reduceBEq, Int.reduceBNe, Nat.reduceEqDiff]
      refine vk_call rfl (insertAt [] 3 0 (.int .i64 1) (Nat.le_refl _) (by decide) _ 2 6 (by decide) rfl rfl) ?_
      simp (maxSteps := 4000000) (disch := omega) only [EW, Nat.reduceBEq, reduceIte, Nat.reduceAdd, Nat.reduceLeDiff, Nat.reduceLT, Nat.reduceSub, Nat.reduceMul, reduceCtorEq, Int.reduceNeg, Int.reduceSub, Int.reduceAdd, Int.reduceLE, Int.reduceLT, Int.reduceMul, Int.reduceToNat, Int.reduceEq, Int.reduceBEq, Int.reduceBNe, Nat.reduceEqDiff]
      simp only [nCellsK, z1, r2] at s1
      refine vk_call rfl (s1 (k2 := 7) rfl rfl rfl (by decide)) ?_
      simp (maxSteps := 4000000) (disch := omega) only [EW, Nat.reduceBEq, reduceIte, Nat.reduceAdd, Nat.reduceLeDiff, Nat.reduceLT, Nat.reduceSub, Nat.reduceMul, reduceCtorEq, Int.reduceNeg, Int.reduceSub, Int.reduceAdd, Int.reduceLE, Int.reduceLT, Int.reduceMul, Int.reduceToNat, Int.reduceEq, Int.reduceBEq, Int.reduceBNe, Nat.reduceEqDiff]
      simp only [nCellsK, zc, l1] at s2
      refine vk_call rfl (s2 (k2 := 4) rfl rfl rfl (by decide)) ?_
      simp (maxSteps := 4000000) (disch := omega) only [EW, Nat.reduceBEq, reduceIte, Nat.reduceAdd, Nat.reduceLeDiff, Nat.reduceLT, Nat.reduceSub, Nat.reduceMul, reduceCtorEq, Int.reduceNeg, Int.reduceSub, Int.reduceAdd, Int.reduceLE, Int.reduceLT, Int.reduceMul, Int.reduceToNat, Int.reduceEq, Int.reduceBEq, Int.reduceBNe, Nat.reduceEqDiff]
      exact ⟨_, rfl, ⟨[some 0, some 1], rfl, rfl, rfl, rfl, ⟨.same _ rfl, trivial⟩, ⟨⟨_, rfl, .box (.cons (.mapr rfl) (.cons (.same _ rfl) (.cons (.same _ rfl) (.cons (.same _ rfl) (.cons (.same _ rfl) (.cons (.same _ rfl) (.cons (.same _ rfl) (.cons (.same _ rfl) (.cons (.same _ rfl) .nil)))))))))⟩, ⟨⟨_, rfl, .map (SubE.refl _)⟩, trivial⟩⟩⟩⟩
end Go.Proofs.VL

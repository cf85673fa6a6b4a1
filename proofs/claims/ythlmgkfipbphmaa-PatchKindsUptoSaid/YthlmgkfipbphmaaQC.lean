/- Contracts of functions of the program, for what calls them, and the law that its name tells. -/
import Derived.Test.YthlmgkfipbphmaaQB
namespace Go.Proofs.VL
open Go Go.RowKit
set_option maxRecDepth 100000
set_option maxHeartbeats 8000000
set_option linter.unusedSimpArgs false
set_option linter.unusedVariables false
attribute [local irreducible] vwp vk

def aC4 (a : (List UInt8 × Runs) × (List UInt8 × Runs)) : List V := [.str a.1.1, .sl 2 (rws a.1.2), .str a.2.1, .sl 2 (rws a.2.2)]
theorem at_own {b : Nat} {a : (List UInt8 × Runs) × (List UInt8 × Runs)} (h : rawOk b a.1 ∧ rawOk b a.2) (hb : b ≤ 1000000000) : VFn Try.prog 104 [.agg (aC4 a)] (.agg (aC4 (fixA a))) := by
  refine VFn.intro ok104 (Nat.le_of_ble_eq_true rfl) (vk_start ?_)
  have g1 := fix_raw h.1 hb
  have g2 := fix_raw h.2 hb
  simp (maxSteps := 4000000) (disch := omega) only [EW, Nat.reduceBEq, reduceIte, Nat.reduceAdd, Nat.reduceLeDiff, Nat.reduceLT, Nat.reduceSub, Nat.reduceMul, reduceCtorEq, Int.reduceNeg, Int.reduceSub, Int.reduceAdd, Int.reduceLE, Int.reduceLT, Int.reduceMul, Int.reduceToNat, Int.reduceEq, Int.reduceBEq, Int.reduceBNe, Nat.reduceEqDiff, vc104, rs104, aC4]
  (refine vk_callR rfl ⟨_, .inl rfl, g1⟩ ?_; simp (maxSteps := 4000000) (disch := omega) only [EW, Nat.reduceBEq, reduceIte, Nat.reduceAdd, Nat.reduceLeDiff, Nat.reduceLT, Nat.reduceSub, Nat.reduceMul, reduceCtorEq, Int.reduceNeg, Int.reduceSub, Int.reduceAdd, Int.reduceLE, Int.reduceLT, Int.reduceMul, Int.reduceToNat, Int.reduceEq, Int.reduceBEq, Int.reduceBNe, Nat.reduceEqDiff])
  (refine vk_callR rfl ⟨_, .inl rfl, g2⟩ ?_; simp (maxSteps := 4000000) (disch := omega) only [EW, Nat.reduceBEq, reduceIte, Nat.reduceAdd, Nat.reduceLeDiff, Nat.reduceLT, Nat.reduceSub, Nat.reduceMul, reduceCtorEq, Int.reduceNeg, Int.reduceSub, Int.reduceAdd, Int.reduceLE, Int.reduceLT, Int.reduceMul, Int.reduceToNat, Int.reduceEq, Int.reduceBEq, Int.reduceBNe, Nat.reduceEqDiff])
  exact fin rfl
theorem at_all0 : VFn Try.prog 102 [.sl 4 []] .nils := runFV_sound tabP_ok 1000 60 (by kernel_rfl)
theorem at_place0 (nm : List UInt8) : VFn Try.prog 103 [.nils, .str nm] (.int .i64 (-1)) := runFV_sound tabP_ok 1000 60 (by kernel_rfl)
/-- Put into none. -/
theorem at_put0 {b : Nat} {a : (List UInt8 × Runs) × (List UInt8 × Runs)} (h : rawOk b a.1 ∧ rawOk b a.2) (hb : b ≤ 1000000000) : VFn Try.prog 81 [.sl 4 [], .agg (aC4 a)] (.sl 4 (aRows [fixA a])) := by
  refine VFn.intro ok81 (Nat.le_of_ble_eq_true rfl) (vk_start ?_)
  have g := at_own h hb
  have p := at_place0 a.1.1
  simp (maxSteps := 4000000) (disch := omega) only [EW, Nat.reduceBEq, reduceIte, Nat.reduceAdd, Nat.reduceLeDiff, Nat.reduceLT, Nat.reduceSub, Nat.reduceMul, reduceCtorEq, Int.reduceNeg, Int.reduceSub, Int.reduceAdd, Int.reduceLE, Int.reduceLT, Int.reduceMul, Int.reduceToNat, Int.reduceEq, Int.reduceBEq, Int.reduceBNe, Nat.reduceEqDiff, vc81, rs81, aC4]
  (refine vk_callR rfl ⟨_, .inl rfl, at_all0⟩ ?_; simp (maxSteps := 4000000) (disch := omega) only [EW, Nat.reduceBEq, reduceIte, Nat.reduceAdd, Nat.reduceLeDiff, Nat.reduceLT, Nat.reduceSub, Nat.reduceMul, reduceCtorEq, Int.reduceNeg, Int.reduceSub, Int.reduceAdd, Int.reduceLE, Int.reduceLT, Int.reduceMul, Int.reduceToNat, Int.reduceEq, Int.reduceBEq, Int.reduceBNe, Nat.reduceEqDiff])
  (refine vk_callR rfl ⟨_, .inl rfl, p⟩ ?_; simp (maxSteps := 4000000) (disch := omega) only [EW, Nat.reduceBEq, reduceIte, Nat.reduceAdd, Nat.reduceLeDiff, Nat.reduceLT, Nat.reduceSub, Nat.reduceMul, reduceCtorEq, Int.reduceNeg, Int.reduceSub, Int.reduceAdd, Int.reduceLE, Int.reduceLT, Int.reduceMul, Int.reduceToNat, Int.reduceEq, Int.reduceBEq, Int.reduceBNe, Nat.reduceEqDiff])
  (refine vk_callR rfl ⟨_, .inl rfl, g⟩ ?_; simp (maxSteps := 4000000) (disch := omega) only [EW, Nat.reduceBEq, reduceIte, Nat.reduceAdd, Nat.reduceLeDiff, Nat.reduceLT, Nat.reduceSub, Nat.reduceMul, reduceCtorEq, Int.reduceNeg, Int.reduceSub, Int.reduceAdd, Int.reduceLE, Int.reduceLT, Int.reduceMul, Int.reduceToNat, Int.reduceEq, Int.reduceBEq, Int.reduceBNe, Nat.reduceEqDiff, aC4])
  rw [vkA_some]
  refine ⟨⟨by simp, by simp⟩, ?_⟩
  simp (maxSteps := 4000000) (disch := omega) only [EW, Nat.reduceBEq, reduceIte, Nat.reduceAdd, Nat.reduceLeDiff, Nat.reduceLT, Nat.reduceSub, Nat.reduceMul, reduceCtorEq, Int.reduceNeg, Int.reduceSub, Int.reduceAdd, Int.reduceLE, Int.reduceLT, Int.reduceMul, Int.reduceToNat, Int.reduceEq, Int.reduceBEq, Int.reduceBNe, Nat.reduceEqDiff]
  exact fin rfl
/-- An attribute, set, of a node that has none. -/
theorem d_setAttr0 (a : (List UInt8 × Runs) × (List UInt8 × Runs)) (b : Nat) (hb : b ≤ 2000000) (h : rawOk b a.1 ∧ rawOk b a.2) :
    ∃ (A' : Ar) (r : Int), VCall Try.prog 54 [.ptr 0 0, .int .i64 0, .agg (aC4 a)] (aOb newA) (.int .i64 r) (aOb A') := by
  have hn : ∀ n, getN newA.es 0 = some n → n.ok (b + 10) := by
    intro n hg
    have : n = rootN := by
      have e : getN newA.es 0 = some rootN := rfl
      rw [e] at hg; injection hg with hg; exact hg.symm
    subst this
    exact ⟨⟨by show 3 ≤ b + 10; omega, by show 1 ≤ b + 10; omega⟩, ⟨Nat.zero_le _, Nat.zero_le _⟩, Nat.zero_le _, Nat.zero_le _, Nat.zero_le _, fun a h => by cases h⟩
  have h1 := d_of newA 0 1 (b + 10) (by omega) hn
  have hk := ofN_ok (kind := 1) hn
  have e1 : (ofN newA 0 1).2 = 0 := rfl
  have e2 : (ofN newA 0 1).1.attrs = [] := rfl
  have gp := at_put0 h (by omega)
  generalize ofN newA 0 1 = p at h1 hk e1 e2
  obtain ⟨n, e⟩ := p
  simp only at h1 hk e1 e2
  subst e1
  have hfa : ∀ x ∈ [fixA a], rawOk (b + 10) x.1 ∧ rawOk (b + 10) x.2 := by
    intro x hx
    simp at hx
    subst hx
    have q1 := fixR_ok h.1
    have q2 := fixR_ok h.2
    exact ⟨⟨Nat.le_trans q1.1 (by omega), Nat.le_trans q1.2 (by omega)⟩, ⟨Nat.le_trans q2.1 (by omega), Nat.le_trans q2.2 (by omega)⟩⟩
  have h2 := a_set newA { n with attrs := [fixA a] } (b + 10) (by omega) ⟨hk.tag, hk.text, hk.hooks, hk.kids, by show 1 ≤ b + 10; omega, hfa⟩
  refine ⟨(setA newA { n with attrs := [fixA a] }).1, (setA newA { n with attrs := [fixA a] }).2, ?_⟩
  refine VCall.intro ok54 (Nat.le_of_ble_eq_true rfl) (vk_start ?_)
  generalize setA newA { n with attrs := [fixA a] } = q at h2 ⊢
  have e3 : aRows n.attrs = [] := by rw [e2]; rfl
  simp (maxSteps := 4000000) (disch := omega) only [EW, Nat.reduceBEq, reduceIte, Nat.reduceAdd, Nat.reduceLeDiff, Nat.reduceLT, Nat.reduceSub, Nat.reduceMul, reduceCtorEq, Int.reduceNeg, Int.reduceSub, Int.reduceAdd, Int.reduceLE, Int.reduceLT, Int.reduceMul, Int.reduceToNat, Int.reduceEq, Int.reduceBEq, Int.reduceBNe, Nat.reduceEqDiff, vc54, rs54, aOb, aC4]
  refine vk_call rfl (a_rd (k0 := 0) (k1 := 1) h1 rfl (by simp only [nCells, wfL, wfV, Bool.and_self]) rfl rfl (by decide)) ?_
  simp only [aC4] at gp
  simp (maxSteps := 4000000) (disch := omega) only [EW, Nat.reduceBEq, reduceIte, Nat.reduceAdd, Nat.reduceLeDiff, Nat.reduceLT, Nat.reduceSub, Nat.reduceMul, reduceCtorEq, Int.reduceNeg, Int.reduceSub, Int.reduceAdd, Int.reduceLE, Int.reduceLT, Int.reduceMul, Int.reduceToNat, Int.reduceEq, Int.reduceBEq, Int.reduceBNe, Nat.reduceEqDiff, nCells, e3]
  (refine vk_callR rfl ⟨_, .inl rfl, gp⟩ ?_; simp (maxSteps := 4000000) (disch := omega) only [EW, Nat.reduceBEq, reduceIte, Nat.reduceAdd, Nat.reduceLeDiff, Nat.reduceLT, Nat.reduceSub, Nat.reduceMul, reduceCtorEq, Int.reduceNeg, Int.reduceSub, Int.reduceAdd, Int.reduceLE, Int.reduceLT, Int.reduceMul, Int.reduceToNat, Int.reduceEq, Int.reduceBEq, Int.reduceBNe, Nat.reduceEqDiff])
  simp only [nCells] at h2
  refine vk_call rfl (a_at (k0 := 0) (k1 := 1) h2 rfl rfl rfl rfl (by decide)) ?_
  simp (maxSteps := 4000000) (disch := omega) only [EW, Nat.reduceBEq, reduceIte, Nat.reduceAdd, Nat.reduceLeDiff, Nat.reduceLT, Nat.reduceSub, Nat.reduceMul, reduceCtorEq, Int.reduceNeg, Int.reduceSub, Int.reduceAdd, Int.reduceLE, Int.reduceLT, Int.reduceMul, Int.reduceToNat, Int.reduceEq, Int.reduceBEq, Int.reduceBNe, Nat.reduceEqDiff]
  exact ⟨_, rfl, ⟨[some 0, some 1], rfl, rfl, rfl, rfl, ⟨.same _ rfl, trivial⟩, ⟨⟨_, rfl, .box (.cons (.mapr rfl) (.cons (.same _ rfl) (.cons (.same _ rfl) (.cons (.same _ rfl) (.cons (.same _ rfl) (.cons (.same _ rfl) (.cons (.same _ rfl) (.cons (.same _ rfl) (.cons (.same _ rfl) .nil)))))))))⟩, ⟨⟨_, rfl, .map (SubE.refl _)⟩, trivial⟩⟩⟩⟩
end Go.Proofs.VL

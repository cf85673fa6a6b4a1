/- Contracts of functions of the program, for what calls them, and the law that its name tells. -/
import Derived.Test.YthlmgkfipbphmaaQE
namespace Go.Proofs.VL
open Go Go.RowKit
set_option maxRecDepth 100000
set_option maxHeartbeats 8000000
set_option linter.unusedSimpArgs false
set_option linter.unusedVariables false
attribute [local irreducible] vwp vk

theorem born0 (p : Pat) (b : Nat) (hb : b ≤ 2000000) (hp : p.parent = 0) (ht : rawOk b p.tag) :
    ∃ (A' : Ar) (r : Int), VCall Try.prog 51 [.ptr 0 0, .agg (pCells p)] (aOb newA) (.int .i64 r) (aOb A') := by
  have h1 := a_has newA 0
  have e1 : (getN newA.es 0).isSome = true := rfl
  rw [e1] at h1
  have h2 := a_make newA 0 p.kind p.tag p.key p.slot b newA_ok ht (by omega) (fun _ _ => rfl)
  have e2 : mkA newA 0 p.kind p.tag p.key p.slot = if p.kind < 1 ∨ 3 < p.kind then (newA, 0, 12) else (A1 p.kind p.tag p.key p.slot, 1, 0) := rfl
  rw [e2] at h2
  by_cases hk : p.kind < 1 ∨ 3 < p.kind
  · rw [if_pos hk] at h2
    refine ⟨newA, 12, VCall.intro ok51 (Nat.le_of_ble_eq_true rfl) (vk_start ?_)⟩
    simp (maxSteps := 4000000) (disch := omega) only [EW, Nat.reduceBEq, reduceIte, Nat.reduceAdd, Nat.reduceLeDiff, Nat.reduceLT, Nat.reduceSub, Nat.reduceMul, reduceCtorEq, Int.reduceNeg, Int.reduceSub, Int.reduceAdd, Int.reduceLE, Int.reduceLT, Int.reduceMul, Int.reduceToNat, Int.reduceEq, Int.reduceBEq, Int.reduceBNe, Nat.reduceEqDiff, vc51, rs51, aOb, PCp, hp]
    refine vk_call rfl (a_rd (k0 := 0) (k1 := 1) h1 rfl rfl rfl rfl (by decide)) ?_
    simp (maxSteps := 4000000) (disch := omega) only [EW, Nat.reduceBEq, reduceIte, Nat.reduceAdd, Nat.reduceLeDiff, Nat.reduceLT, Nat.reduceSub, Nat.reduceMul, reduceCtorEq, Int.reduceNeg, Int.reduceSub, Int.reduceAdd, Int.reduceLE, Int.reduceLT, Int.reduceMul, Int.reduceToNat, Int.reduceEq, Int.reduceBEq, Int.reduceBNe, Nat.reduceEqDiff, PCp]
    refine vk_call rfl (a_at (k0 := 0) (k1 := 1) h2 rfl rfl rfl rfl (by decide)) ?_
    simp (maxSteps := 4000000) (disch := omega) only [EW, Nat.reduceBEq, reduceIte, Nat.reduceAdd, Nat.reduceLeDiff, Nat.reduceLT, Nat.reduceSub, Nat.reduceMul, reduceCtorEq, Int.reduceNeg, Int.reduceSub, Int.reduceAdd, Int.reduceLE, Int.reduceLT, Int.reduceMul, Int.reduceToNat, Int.reduceEq, Int.reduceBEq, Int.reduceBNe, Nat.reduceEqDiff]
    exact ⟨_, rfl, ⟨[some 0, some 1], rfl, rfl, rfl, rfl, ⟨.same _ rfl, trivial⟩, ⟨⟨_, rfl, .box (.cons (.mapr rfl) (.cons (.same _ rfl) (.cons (.same _ rfl) (.cons (.same _ rfl) (.cons (.same _ rfl) (.cons (.same _ rfl) (.cons (.same _ rfl) (.cons (.same _ rfl) (.cons (.same _ rfl) .nil)))))))))⟩, ⟨⟨_, rfl, .map (SubE.refl _)⟩, trivial⟩⟩⟩⟩
  · rw [if_neg hk] at h2
    by_cases hn : p.node = 1
    · obtain ⟨A', r, h3⟩ := d_insert1 p.kind p.slot p.at_ p.tag p.key b hb ht
      refine ⟨A', r, VCall.intro ok51 (Nat.le_of_ble_eq_true rfl) (vk_start ?_)⟩
      simp (maxSteps := 4000000) (disch := omega) only [EW, Nat.reduceBEq, reduceIte, Nat.reduceAdd, Nat.reduceLeDiff, Nat.reduceLT, Nat.reduceSub, Nat.reduceMul, reduceCtorEq, Int.reduceNeg, Int.reduceSub, Int.reduceAdd, Int.reduceLE, Int.reduceLT, Int.reduceMul, Int.reduceToNat, Int.reduceEq, Int.reduceBEq, Int.reduceBNe, Nat.reduceEqDiff, vc51, rs51, aOb, PCp, hp]
      refine vk_call rfl (a_rd (k0 := 0) (k1 := 1) h1 rfl rfl rfl rfl (by decide)) ?_
      simp (maxSteps := 4000000) (disch := omega) only [EW, Nat.reduceBEq, reduceIte, Nat.reduceAdd, Nat.reduceLeDiff, Nat.reduceLT, Nat.reduceSub, Nat.reduceMul, reduceCtorEq, Int.reduceNeg, Int.reduceSub, Int.reduceAdd, Int.reduceLE, Int.reduceLT, Int.reduceMul, Int.reduceToNat, Int.reduceEq, Int.reduceBEq, Int.reduceBNe, Nat.reduceEqDiff, PCp]
      refine vk_call rfl (a_at (k0 := 0) (k1 := 1) h2 rfl rfl rfl rfl (by decide)) ?_
      simp (maxSteps := 4000000) (disch := omega) only [EW, Nat.reduceBEq, reduceIte, Nat.reduceAdd, Nat.reduceLeDiff, Nat.reduceLT, Nat.reduceSub, Nat.reduceMul, reduceCtorEq, Int.reduceNeg, Int.reduceSub, Int.reduceAdd, Int.reduceLE, Int.reduceLT, Int.reduceMul, Int.reduceToNat, Int.reduceEq, Int.reduceBEq, Int.reduceBNe, Nat.reduceEqDiff, PCp, hn, hp]
      refine vk_call rfl (a_at (k0 := 0) (k1 := 1) h3 rfl rfl rfl rfl (by decide)) ?_
      simp (maxSteps := 4000000) (disch := omega) only [EW, Nat.reduceBEq, reduceIte, Nat.reduceAdd, Nat.reduceLeDiff, Nat.reduceLT, Nat.reduceSub, Nat.reduceMul, reduceCtorEq, Int.reduceNeg, Int.reduceSub, Int.reduceAdd, Int.reduceLE, Int.reduceLT, Int.reduceMul, Int.reduceToNat, Int.reduceEq, Int.reduceBEq, Int.reduceBNe, Nat.reduceEqDiff]
      exact ⟨_, rfl, ⟨[some 0, some 1], rfl, rfl, rfl, rfl, ⟨.same _ rfl, trivial⟩, ⟨⟨_, rfl, .box (.cons (.mapr rfl) (.cons (.same _ rfl) (.cons (.same _ rfl) (.cons (.same _ rfl) (.cons (.same _ rfl) (.cons (.same _ rfl) (.cons (.same _ rfl) (.cons (.same _ rfl) (.cons (.same _ rfl) .nil)))))))))⟩, ⟨⟨_, rfl, .map (SubE.refl _)⟩, trivial⟩⟩⟩⟩
    · refine ⟨A1 p.kind p.tag p.key p.slot, 9, VCall.intro ok51 (Nat.le_of_ble_eq_true rfl) (vk_start ?_)⟩
      simp (maxSteps := 4000000) (disch := omega) only [EW, Nat.reduceBEq, reduceIte, Nat.reduceAdd, Nat.reduceLeDiff, Nat.reduceLT, Nat.reduceSub, Nat.reduceMul, reduceCtorEq, Int.reduceNeg, Int.reduceSub, Int.reduceAdd, Int.reduceLE, Int.reduceLT, Int.reduceMul, Int.reduceToNat, Int.reduceEq, Int.reduceBEq, Int.reduceBNe, Nat.reduceEqDiff, vc51, rs51, aOb, PCp, hp]
      refine vk_call rfl (a_rd (k0 := 0) (k1 := 1) h1 rfl rfl rfl rfl (by decide)) ?_
      simp (maxSteps := 4000000) (disch := omega) only [EW, Nat.reduceBEq, reduceIte, Nat.reduceAdd, Nat.reduceLeDiff, Nat.reduceLT, Nat.reduceSub, Nat.reduceMul, reduceCtorEq, Int.reduceNeg, Int.reduceSub, Int.reduceAdd, Int.reduceLE, Int.reduceLT, Int.reduceMul, Int.reduceToNat, Int.reduceEq, Int.reduceBEq, Int.reduceBNe, Nat.reduceEqDiff, PCp]
      refine vk_call rfl (a_at (k0 := 0) (k1 := 1) h2 rfl rfl rfl rfl (by decide)) ?_
      simp (maxSteps := 4000000) (disch := omega) only [EW, Nat.reduceBEq, reduceIte, Nat.reduceAdd, Nat.reduceLeDiff, Nat.reduceLT, Nat.reduceSub, Nat.reduceMul, reduceCtorEq, Int.reduceNeg, Int.reduceSub, Int.reduceAdd, Int.reduceLE, Int.reduceLT, Int.reduceMul, Int.reduceToNat, Int.reduceEq, Int.reduceBEq, Int.reduceBNe, Nat.reduceEqDiff, PCp, hn]
      exact ⟨_, rfl, ⟨[some 0, some 1], rfl, rfl, rfl, rfl, ⟨.same _ rfl, trivial⟩, ⟨⟨_, rfl, .box (.cons (.mapr rfl) (.cons (.same _ rfl) (.cons (.same _ rfl) (.cons (.same _ rfl) (.cons (.same _ rfl) (.cons (.same _ rfl) (.cons (.same _ rfl) (.cons (.same _ rfl) (.cons (.same _ rfl) .nil)))))))))⟩, ⟨⟨_, rfl, .map (SubE.refl _)⟩, trivial⟩⟩⟩⟩

theorem drop2 {f : FuncId} {args : List V} {r : Int} {A' : Ar} (h : VCall Try.prog f args (aOb newA) (.int .i64 r) (aOb A')) : VCall Try.prog f args (aOb newA) (.int .i64 r) [none, none] := forget2 h rfl
theorem one1z (p : Pat) (b : Nat) (hb : b ≤ 2000000) (ho : p.op = 1) (hp : p.parent = 0) (ht : rawOk b p.tag) : ∃ r, oneR p r := by
  obtain ⟨A', r, h⟩ := born0 p b hb hp ht
  refine ⟨r, drop2 (A' := A') (VCall.intro ok27 (Nat.le_of_ble_eq_true rfl) (vk_start ?_))⟩
  simp (maxSteps := 4000000) (disch := omega) only [EW, Nat.reduceBEq, reduceIte, Nat.reduceAdd, Nat.reduceLeDiff, Nat.reduceLT, Nat.reduceSub, Nat.reduceMul, reduceCtorEq, Int.reduceNeg, Int.reduceSub, Int.reduceAdd, Int.reduceLE, Int.reduceLT, Int.reduceMul, Int.reduceToNat, Int.reduceEq, Int.reduceBEq, Int.reduceBNe, Nat.reduceEqDiff, vc27, rs27, aOb, PCp, ho]
  refine vk_call rfl (a_at (k0 := 0) (k1 := 1) h rfl rfl rfl rfl (by decide)) ?_
  simp (maxSteps := 4000000) (disch := omega) only [EW, Nat.reduceBEq, reduceIte, Nat.reduceAdd, Nat.reduceLeDiff, Nat.reduceLT, Nat.reduceSub, Nat.reduceMul, reduceCtorEq, Int.reduceNeg, Int.reduceSub, Int.reduceAdd, Int.reduceLE, Int.reduceLT, Int.reduceMul, Int.reduceToNat, Int.reduceEq, Int.reduceBEq, Int.reduceBNe, Nat.reduceEqDiff]
  exact ⟨_, rfl, ⟨[some 0, some 1], rfl, rfl, rfl, rfl, ⟨.same _ rfl, trivial⟩, ⟨⟨_, rfl, .box (.cons (.mapr rfl) (.cons (.same _ rfl) (.cons (.same _ rfl) (.cons (.same _ rfl) (.cons (.same _ rfl) (.cons (.same _ rfl) (.cons (.same _ rfl) (.cons (.same _ rfl) (.cons (.same _ rfl) .nil)))))))))⟩, ⟨⟨_, rfl, .map (SubE.refl _)⟩, trivial⟩⟩⟩⟩
theorem one4z (p : Pat) (b : Nat) (hb : b ≤ 2000000) (ho : p.op = 4) (hp : p.node = 0) (ht : rawOk b p.name ∧ rawOk b p.value) : ∃ r, oneR p r := by
  obtain ⟨A', r, h⟩ := d_setAttr0 (p.name, p.value) b hb ht
  refine ⟨r, drop2 (A' := A') (VCall.intro ok27 (Nat.le_of_ble_eq_true rfl) (vk_start ?_))⟩
  have e : List.take 4 (List.drop 9 (pCells p)) = aC4 (p.name, p.value) := rfl
  simp (maxSteps := 4000000) (disch := omega) only [EW, Nat.reduceBEq, reduceIte, Nat.reduceAdd, Nat.reduceLeDiff, Nat.reduceLT, Nat.reduceSub, Nat.reduceMul, reduceCtorEq, Int.reduceNeg, Int.reduceSub, Int.reduceAdd, Int.reduceLE, Int.reduceLT, Int.reduceMul, Int.reduceToNat, Int.reduceEq, Int.reduceBEq, Int.reduceBNe, Nat.reduceEqDiff, vc27, rs27, aOb, PCp, ho, hp, e]
  refine vk_call rfl (a_at (k0 := 0) (k1 := 1) h rfl rfl rfl rfl (by decide)) ?_
  simp (maxSteps := 4000000) (disch := omega) only [EW, Nat.reduceBEq, reduceIte, Nat.reduceAdd, Nat.reduceLeDiff, Nat.reduceLT, Nat.reduceSub, Nat.reduceMul, reduceCtorEq, Int.reduceNeg, Int.reduceSub, Int.reduceAdd, Int.reduceLE, Int.reduceLT, Int.reduceMul, Int.reduceToNat, Int.reduceEq, Int.reduceBEq, Int.reduceBNe, Nat.reduceEqDiff]
  exact ⟨_, rfl, ⟨[some 0, some 1], rfl, rfl, rfl, rfl, ⟨.same _ rfl, trivial⟩, ⟨⟨_, rfl, .box (.cons (.mapr rfl) (.cons (.same _ rfl) (.cons (.same _ rfl) (.cons (.same _ rfl) (.cons (.same _ rfl) (.cons (.same _ rfl) (.cons (.same _ rfl) (.cons (.same _ rfl) (.cons (.same _ rfl) .nil)))))))))⟩, ⟨⟨_, rfl, .map (SubE.refl _)⟩, trivial⟩⟩⟩⟩
theorem one7z (p : Pat) (b : Nat) (hb : b ≤ 2000000) (h3 : 3 ≤ b) (ho : p.op = 7) (hp : p.node = 0) (hl : p.hooks.length ≤ b) : ∃ r, oneR p r := by
  have h := d_setHooks newA 0 p.hooks b (by omega) (fun n hg => by
    have e : getN newA.es 0 = some rootN := rfl
    rw [e] at hg; injection hg with hg; subst hg
    exact root_ok h3) hl
  generalize setHooksA newA 0 p.hooks = q at h
  obtain ⟨A', r⟩ := q
  refine ⟨r, drop2 (A' := A') (VCall.intro ok27 (Nat.le_of_ble_eq_true rfl) (vk_start ?_))⟩
  simp (maxSteps := 4000000) (disch := omega) only [EW, Nat.reduceBEq, reduceIte, Nat.reduceAdd, Nat.reduceLeDiff, Nat.reduceLT, Nat.reduceSub, Nat.reduceMul, reduceCtorEq, Int.reduceNeg, Int.reduceSub, Int.reduceAdd, Int.reduceLE, Int.reduceLT, Int.reduceMul, Int.reduceToNat, Int.reduceEq, Int.reduceBEq, Int.reduceBNe, Nat.reduceEqDiff, vc27, rs27, aOb, PCp, ho, hp]
  refine vk_call rfl (a_at (k0 := 0) (k1 := 1) h rfl rfl rfl rfl (by decide)) ?_
  simp (maxSteps := 4000000) (disch := omega) only [EW, Nat.reduceBEq, reduceIte, Nat.reduceAdd, Nat.reduceLeDiff, Nat.reduceLT, Nat.reduceSub, Nat.reduceMul, reduceCtorEq, Int.reduceNeg, Int.reduceSub, Int.reduceAdd, Int.reduceLE, Int.reduceLT, Int.reduceMul, Int.reduceToNat, Int.reduceEq, Int.reduceBEq, Int.reduceBNe, Nat.reduceEqDiff]
  exact ⟨_, rfl, ⟨[some 0, some 1], rfl, rfl, rfl, rfl, ⟨.same _ rfl, trivial⟩, ⟨⟨_, rfl, .box (.cons (.mapr rfl) (.cons (.same _ rfl) (.cons (.same _ rfl) (.cons (.same _ rfl) (.cons (.same _ rfl) (.cons (.same _ rfl) (.cons (.same _ rfl) (.cons (.same _ rfl) (.cons (.same _ rfl) .nil)))))))))⟩, ⟨⟨_, rfl, .map (SubE.refl _)⟩, trivial⟩⟩⟩⟩
theorem one_bad (p : Pat) (ho : p.op < 1 ∨ 7 < p.op) : oneR p 12 := by
  refine drop2 (A' := newA) (VCall.intro ok27 (Nat.le_of_ble_eq_true rfl) (vk_start ?_))
  simp (maxSteps := 4000000) (disch := omega) only [EW, Nat.reduceBEq, reduceIte, Nat.reduceAdd, Nat.reduceLeDiff, Nat.reduceLT, Nat.reduceSub, Nat.reduceMul, reduceCtorEq, Int.reduceNeg, Int.reduceSub, Int.reduceAdd, Int.reduceLE, Int.reduceLT, Int.reduceMul, Int.reduceToNat, Int.reduceEq, Int.reduceBEq, Int.reduceBNe, Nat.reduceEqDiff, vc27, rs27, aOb, PCp]
  exact ⟨_, rfl, ⟨[some 0, some 1], rfl, rfl, rfl, rfl, ⟨.same _ rfl, trivial⟩, ⟨⟨_, rfl, .box (.cons (.mapr rfl) (.cons (.same _ rfl) (.cons (.same _ rfl) (.cons (.same _ rfl) (.cons (.same _ rfl) (.cons (.same _ rfl) (.cons (.same _ rfl) (.cons (.same _ rfl) (.cons (.same _ rfl) .nil)))))))))⟩, ⟨⟨_, rfl, .map (SubE.refl _)⟩, trivial⟩⟩⟩⟩
/-- Whatever a patch is, it comes to a number. -/
theorem one_any (p : Pat) (b : Nat) (hb : b ≤ 2000000) (h3 : 3 ≤ b) (ho : 1 ≤ p.op ∧ p.op ≤ 7) (ht : rawOk b p.tag) (ha : rawOk b p.name ∧ rawOk b p.value) (hl : p.hooks.length ≤ b) : ∃ r, oneR p r := by
  obtain ⟨op, nd, pa, at_, ki, tag, key, sl, na, va, hs, tx⟩ := p
  simp only at ho ht ha hl
  obtain rfl | rfl | rfl | rfl | rfl | rfl | rfl : op = 1 ∨ op = 2 ∨ op = 3 ∨ op = 4 ∨ op = 5 ∨ op = 6 ∨ op = 7 := by omega
  · rcases pa with (_ | n) | n
    · exact one1z _ b hb rfl rfl ht
    · exact ⟨_, one1p _ _ _ _ _ _ _ _ _ _ _⟩
    · exact ⟨_, one1n _ _ _ _ _ _ _ _ _ _ _⟩
  · rcases nd with (_ | n) | n
    · exact ⟨_, one2z _ _ _ _ _ _ _ _ _ _⟩
    · exact ⟨_, one2p _ _ _ _ _ _ _ _ _ _ _⟩
    · exact ⟨_, one2n _ _ _ _ _ _ _ _ _ _ _⟩
  · rcases nd with (_ | n) | n
    · exact ⟨_, one3z _ _ _ _ _ _ _ _ _ _⟩
    · exact ⟨_, one3p _ _ _ _ _ _ _ _ _ _ _⟩
    · exact ⟨_, one3n _ _ _ _ _ _ _ _ _ _ _⟩
  · rcases nd with (_ | n) | n
    · exact one4z _ b hb rfl rfl ha
    · exact ⟨_, one4p _ _ _ _ _ _ _ _ _ _ _⟩
    · exact ⟨_, one4n _ _ _ _ _ _ _ _ _ _ _⟩
  · rcases nd with (_ | n) | n
    · exact ⟨_, one5z _ _ _ _ _ _ _ _ _ _⟩
    · exact ⟨_, one5p _ _ _ _ _ _ _ _ _ _ _⟩
    · exact ⟨_, one5n _ _ _ _ _ _ _ _ _ _ _⟩
  · rcases nd with (_ | n) | n
    · exact ⟨_, one6z _ _ _ _ _ _ _ _ _ _⟩
    · exact ⟨_, one6p _ _ _ _ _ _ _ _ _ _ _⟩
    · exact ⟨_, one6n _ _ _ _ _ _ _ _ _ _ _⟩
  · rcases nd with (_ | n) | n
    · exact one7z _ b hb h3 rfl rfl hl
    · exact ⟨_, one7p _ _ _ _ _ _ _ _ _ _ _⟩
    · exact ⟨_, one7n _ _ _ _ _ _ _ _ _ _ _⟩
end Go.Proofs.VL

/- Contracts of functions of the program, for what calls them, and the law that its name tells. -/
import Derived.Test.YthlmgkfipbphmaaQA
import Derived.Test.YthlmgkfipbphmaaAN
namespace Go.Proofs.VL
open Go Go.RowKit
set_option maxRecDepth 100000
set_option maxHeartbeats 8000000
set_option linter.unusedSimpArgs false
set_option linter.unusedVariables false
attribute [local irreducible] vwp vk

/-- A node of a kind. -/
def ofN (A : Ar) (id kind : Int) : Nd × Int := match getN A.es id with
  | none => (zNd, 14)
  | some n => if n.kind = kind then (ownN n, 0) else (zNd, 12)
theorem d_of (A : Ar) (id kind : Int) (b : Nat) (hb : b ≤ 1000000000) (hn : ∀ n, getN A.es id = some n → n.ok b) :
    VCall Try.prog 80 [.ptr 0 0, .int .i64 id, .int .i64 kind] (aOb A) (.tup [.agg (nCells (ofN A id kind).1), .int .i64 (ofN A id kind).2]) (aOb A) := by
  refine VCall.intro ok80 (Nat.le_of_ble_eq_true rfl) (vk_start ?_)
  have h1 := a_getS A id b hb hn
  unfold ofN
  unfold gotN at h1
  cases hg : getN A.es id with
  | none =>
    rw [hg] at h1
    simp (maxSteps := 4000000) (disch := omega) only [EW, Nat.reduceBEq, reduceIte, Nat.reduceAdd, Nat.reduceLeDiff, Nat.reduceLT, Nat.reduceSub, Nat.reduceMul, reduceCtorEq, Int.reduceNeg, Int.reduceSub, Int.reduceAdd, Int.reduceLE, Int.reduceLT, Int.reduceMul, Int.reduceToNat, Int.reduceEq, Int.reduceBEq, Int.reduceBNe, Nat.reduceEqDiff, vc80, rs80, aOb]
    refine vk_call rfl (a_rd (k0 := 0) (k1 := 1) h1 rfl (wf_n _ _) rfl rfl (by decide)) ?_
    simp (maxSteps := 4000000) (disch := omega) only [EW, Nat.reduceBEq, reduceIte, Nat.reduceAdd, Nat.reduceLeDiff, Nat.reduceLT, Nat.reduceSub, Nat.reduceMul, reduceCtorEq, Int.reduceNeg, Int.reduceSub, Int.reduceAdd, Int.reduceLE, Int.reduceLT, Int.reduceMul, Int.reduceToNat, Int.reduceEq, Int.reduceBEq, Int.reduceBNe, Nat.reduceEqDiff, nCells, zNd]
    exact ⟨_, rfl, ⟨[some 0, some 1], rfl, rfl, rfl, rfl, ⟨.tup (.cons (.agg (.cons (.same _ rfl) (.cons (.same _ rfl) (.cons (.same _ rfl) (.cons (.same _ rfl) (.cons (.same _ rfl) (.cons (.nil _) (.cons (.same _ rfl) (.cons (.same _ rfl) (.cons (.nil _) (.cons (.nil _) (.cons (.nil _) (.cons (.same _ rfl) (.cons (.nil _) .nil)))))))))))))) (.cons (.same _ rfl) .nil)), trivial⟩, ⟨⟨_, rfl, .box (.cons (.mapr rfl) (.cons (.same _ rfl) (.cons (.same _ rfl) (.cons (.same _ rfl) (.cons (.same _ rfl) (.cons (.same _ rfl) (.cons (.same _ rfl) (.cons (.same _ rfl) (.cons (.same _ rfl) .nil)))))))))⟩, ⟨⟨_, rfl, .map (SubE.refl _)⟩, trivial⟩⟩⟩⟩
  | some n =>
    rw [hg] at h1
    have hk : (ownN n).kind = n.kind := rfl
    by_cases hq : n.kind = kind
    · simp only [if_pos hq]
      simp (maxSteps := 4000000) (disch := omega) only [EW, Nat.reduceBEq, reduceIte, Nat.reduceAdd, Nat.reduceLeDiff, Nat.reduceLT, Nat.reduceSub, Nat.reduceMul, reduceCtorEq, Int.reduceNeg, Int.reduceSub, Int.reduceAdd, Int.reduceLE, Int.reduceLT, Int.reduceMul, Int.reduceToNat, Int.reduceEq, Int.reduceBEq, Int.reduceBNe, Nat.reduceEqDiff, vc80, rs80, aOb]
      refine vk_call rfl (a_rd (k0 := 0) (k1 := 1) h1 rfl (wf_n _ _) rfl rfl (by decide)) ?_
      simp (maxSteps := 4000000) (disch := omega) only [EW, Nat.reduceBEq, reduceIte, Nat.reduceAdd, Nat.reduceLeDiff, Nat.reduceLT, Nat.reduceSub, Nat.reduceMul, reduceCtorEq, Int.reduceNeg, Int.reduceSub, Int.reduceAdd, Int.reduceLE, Int.reduceLT, Int.reduceMul, Int.reduceToNat, Int.reduceEq, Int.reduceBEq, Int.reduceBNe, Nat.reduceEqDiff, nCells, hk, hq]
      exact ⟨_, rfl, ⟨[some 0, some 1], rfl, rfl, rfl, rfl, ⟨.tup (.cons (.agg (.cons (.same _ rfl) (.cons (.same _ rfl) (.cons (.same _ rfl) (.cons (.same _ rfl) (.cons (.same _ rfl) (.cons (.same _ rfl) (.cons (.same _ rfl) (.cons (.same _ rfl) (.cons (.same _ rfl) (.cons (.same _ rfl) (.cons (.same _ rfl) (.cons (.same _ rfl) (.cons (.same _ rfl) .nil)))))))))))))) (.cons (.same _ rfl) .nil)), trivial⟩, ⟨⟨_, rfl, .box (.cons (.mapr rfl) (.cons (.same _ rfl) (.cons (.same _ rfl) (.cons (.same _ rfl) (.cons (.same _ rfl) (.cons (.same _ rfl) (.cons (.same _ rfl) (.cons (.same _ rfl) (.cons (.same _ rfl) .nil)))))))))⟩, ⟨⟨_, rfl, .map (SubE.refl _)⟩, trivial⟩⟩⟩⟩
    · simp only [if_neg hq]
      simp (maxSteps := 4000000) (disch := omega) only [EW, Nat.reduceBEq, reduceIte, Nat.reduceAdd, Nat.reduceLeDiff, Nat.reduceLT, Nat.reduceSub, Nat.reduceMul, reduceCtorEq, Int.reduceNeg, Int.reduceSub, Int.reduceAdd, Int.reduceLE, Int.reduceLT, Int.reduceMul, Int.reduceToNat, Int.reduceEq, Int.reduceBEq, Int.reduceBNe, Nat.reduceEqDiff, vc80, rs80, aOb]
      refine vk_call rfl (a_rd (k0 := 0) (k1 := 1) h1 rfl (wf_n _ _) rfl rfl (by decide)) ?_
      simp (maxSteps := 4000000) (disch := omega) only [EW, Nat.reduceBEq, reduceIte, Nat.reduceAdd, Nat.reduceLeDiff, Nat.reduceLT, Nat.reduceSub, Nat.reduceMul, reduceCtorEq, Int.reduceNeg, Int.reduceSub, Int.reduceAdd, Int.reduceLE, Int.reduceLT, Int.reduceMul, Int.reduceToNat, Int.reduceEq, Int.reduceBEq, Int.reduceBNe, Nat.reduceEqDiff, nCells, hk, hq]
      exact ⟨_, rfl, ⟨[some 0, some 1], rfl, rfl, rfl, rfl, ⟨.tup (.cons (.agg (.cons (.same _ rfl) (.cons (.same _ rfl) (.cons (.same _ rfl) (.cons (.same _ rfl) (.cons (.same _ rfl) (.cons (.nil _) (.cons (.same _ rfl) (.cons (.same _ rfl) (.cons (.nil _) (.cons (.nil _) (.cons (.nil _) (.cons (.same _ rfl) (.cons (.nil _) .nil)))))))))))))) (.cons (.same _ rfl) .nil)), trivial⟩, ⟨⟨_, rfl, .box (.cons (.mapr rfl) (.cons (.same _ rfl) (.cons (.same _ rfl) (.cons (.same _ rfl) (.cons (.same _ rfl) (.cons (.same _ rfl) (.cons (.same _ rfl) (.cons (.same _ rfl) (.cons (.same _ rfl) .nil)))))))))⟩, ⟨⟨_, rfl, .map (SubE.refl _)⟩, trivial⟩⟩⟩⟩
/-- Hooks, set. -/
def setHooksA (A : Ar) (id : Int) (hs : List (Int × Bool × Int)) : Ar × Int :=
  if (ofN A id 1).2 = 0 then setA A { (ofN A id 1).1 with hooks := hs } else (A, (ofN A id 1).2)
theorem ofN_ok {A : Ar} {id kind : Int} {b : Nat} (hn : ∀ n, getN A.es id = some n → n.ok b) : (ofN A id kind).1.ok b := by
  have hz : zNd.ok b := ⟨⟨Nat.zero_le _, Nat.zero_le _⟩, ⟨Nat.zero_le _, Nat.zero_le _⟩, Nat.zero_le _, Nat.zero_le _, Nat.zero_le _, fun a h => by cases h⟩
  unfold ofN
  cases hg : getN A.es id with
  | none => exact hz
  | some n =>
    by_cases hq : n.kind = kind
    · simp only [hq, if_true]; exact ownN_ok (hn n hg)
    · simp only [hq, if_false]; exact hz
theorem d_setHooks (A : Ar) (id : Int) (hs : List (Int × Bool × Int)) (b : Nat) (hb : b ≤ 1000000000) (hn : ∀ n, getN A.es id = some n → n.ok b) (hl : hs.length ≤ b) :
    VCall Try.prog 57 [.ptr 0 0, .int .i64 id, .sl 3 (hRows hs)] (aOb A) (.int .i64 (setHooksA A id hs).2) (aOb (setHooksA A id hs).1) := by
  refine VCall.intro ok57 (Nat.le_of_ble_eq_true rfl) (vk_start ?_)
  have h1 := d_of A id 1 b hb hn
  have hk := ofN_ok (kind := 1) hn
  have hc := hook_clone (hRows hs) (by rw [hRows_length]; omega)
  unfold setHooksA
  generalize ofN A id 1 = p at h1 hk
  obtain ⟨n, e⟩ := p
  simp only at h1 hk
  have h2 := a_set A { n with hooks := hs } b hb ⟨hk.tag, hk.text, hl, hk.kids, hk.attrs, hk.each⟩
  by_cases he : e = 0
  · subst he
    simp only [if_true]
    simp (maxSteps := 4000000) (disch := omega) only [EW, Nat.reduceBEq, reduceIte, Nat.reduceAdd, Nat.reduceLeDiff, Nat.reduceLT, Nat.reduceSub, Nat.reduceMul, reduceCtorEq, Int.reduceNeg, Int.reduceSub, Int.reduceAdd, Int.reduceLE, Int.reduceLT, Int.reduceMul, Int.reduceToNat, Int.reduceEq, Int.reduceBEq, Int.reduceBNe, Nat.reduceEqDiff, vc57, rs57, aOb]
    refine vk_call rfl (a_rd (k0 := 0) (k1 := 1) h1 rfl (by simp only [nCells, wfL, wfV, Bool.and_self]) rfl rfl (by decide)) ?_
    simp (maxSteps := 4000000) (disch := omega) only [EW, Nat.reduceBEq, reduceIte, Nat.reduceAdd, Nat.reduceLeDiff, Nat.reduceLT, Nat.reduceSub, Nat.reduceMul, reduceCtorEq, Int.reduceNeg, Int.reduceSub, Int.reduceAdd, Int.reduceLE, Int.reduceLT, Int.reduceMul, Int.reduceToNat, Int.reduceEq, Int.reduceBEq, Int.reduceBNe, Nat.reduceEqDiff, nCells]
    (refine vk_callR rfl ⟨_, .inl rfl, hc⟩ ?_; simp (maxSteps := 4000000) (disch := omega) only [EW, Nat.reduceBEq, reduceIte, Nat.reduceAdd, Nat.reduceLeDiff, Nat.reduceLT, Nat.reduceSub, Nat.reduceMul, reduceCtorEq, Int.reduceNeg, Int.reduceSub, Int.reduceAdd, Int.reduceLE, Int.reduceLT, Int.reduceMul, Int.reduceToNat, Int.reduceEq, Int.reduceBEq, Int.reduceBNe, Nat.reduceEqDiff])
    simp only [nCells] at h2
    refine vk_call rfl (a_at (k0 := 0) (k1 := 1) h2 rfl rfl rfl rfl (by decide)) ?_
    simp (maxSteps := 4000000) (disch := omega) only [EW, Nat.reduceBEq, reduceIte, Nat.reduceAdd, Nat.reduceLeDiff, Nat.reduceLT, Nat.reduceSub, Nat.reduceMul, reduceCtorEq, Int.reduceNeg, Int.reduceSub, Int.reduceAdd, Int.reduceLE, Int.reduceLT, Int.reduceMul, Int.reduceToNat, Int.reduceEq, Int.reduceBEq, Int.reduceBNe, Nat.reduceEqDiff]
    exact ⟨_, rfl, ⟨[some 0, some 1], rfl, rfl, rfl, rfl, ⟨.same _ rfl, trivial⟩, ⟨⟨_, rfl, .box (.cons (.mapr rfl) (.cons (.same _ rfl) (.cons (.same _ rfl) (.cons (.same _ rfl) (.cons (.same _ rfl) (.cons (.same _ rfl) (.cons (.same _ rfl) (.cons (.same _ rfl) (.cons (.same _ rfl) .nil)))))))))⟩, ⟨⟨_, rfl, .map (SubE.refl _)⟩, trivial⟩⟩⟩⟩
  · simp only [he, if_false]
    simp (maxSteps := 4000000) (disch := omega) only [EW, Nat.reduceBEq, reduceIte, Nat.reduceAdd, Nat.reduceLeDiff, Nat.reduceLT, Nat.reduceSub, Nat.reduceMul, reduceCtorEq, Int.reduceNeg, Int.reduceSub, Int.reduceAdd, Int.reduceLE, Int.reduceLT, Int.reduceMul, Int.reduceToNat, Int.reduceEq, Int.reduceBEq, Int.reduceBNe, Nat.reduceEqDiff, vc57, rs57, aOb]
    refine vk_call rfl (a_rd (k0 := 0) (k1 := 1) h1 rfl (by simp only [nCells, wfL, wfV, Bool.and_self]) rfl rfl (by decide)) ?_
    simp (maxSteps := 4000000) (disch := omega) only [EW, Nat.reduceBEq, reduceIte, Nat.reduceAdd, Nat.reduceLeDiff, Nat.reduceLT, Nat.reduceSub, Nat.reduceMul, reduceCtorEq, Int.reduceNeg, Int.reduceSub, Int.reduceAdd, Int.reduceLE, Int.reduceLT, Int.reduceMul, Int.reduceToNat, Int.reduceEq, Int.reduceBEq, Int.reduceBNe, Nat.reduceEqDiff, nCells, he]
    exact ⟨_, rfl, ⟨[some 0, some 1], rfl, rfl, rfl, rfl, ⟨.same _ rfl, trivial⟩, ⟨⟨_, rfl, .box (.cons (.mapr rfl) (.cons (.same _ rfl) (.cons (.same _ rfl) (.cons (.same _ rfl) (.cons (.same _ rfl) (.cons (.same _ rfl) (.cons (.same _ rfl) (.cons (.same _ rfl) (.cons (.same _ rfl) .nil)))))))))⟩, ⟨⟨_, rfl, .map (SubE.refl _)⟩, trivial⟩⟩⟩⟩
end Go.Proofs.VL

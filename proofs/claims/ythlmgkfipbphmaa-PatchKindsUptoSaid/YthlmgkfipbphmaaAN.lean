/- Contracts of functions of the program, for what calls them, and the law that its name tells. -/
import Derived.Test.YthlmgkfipbphmaaAM
import Derived.Test.YthlmgkfipbphmaaCglazierlaw19
namespace Go.Proofs.VL
open Go Go.RowKit
set_option maxRecDepth 100000
set_option maxHeartbeats 8000000
set_option linter.unusedSimpArgs false
set_option linter.unusedVariables false
attribute [local irreducible] vwp vk

theorem wf_n (n : Nd) (b : Bool) : wfV 0 (.tup [.agg (nCells n), .bool b]) = true := by simp only [nCells, wfL, wfV, Bool.and_self]
theorem a_setK_at (A : Ar) (n : Nd) (b e : Nat) (hb : b ≤ 1000000000) (hn : n.ok b) {B : List (Option VObj)} {k0 k1 k2 : Nat}
    (h0 : B[k0]? = some (some (.box (aCells k1 A)))) (h1 : B[k1]? = some (some (.map (mV A.es) A.clock))) (h2 : B[k2]? = some (some (.arr e 1 (iRows n.kids)))) (hne : k0 ≠ k1 ∧ k0 ≠ k2 ∧ k1 ≠ k2) :
    VCall Try.prog 17 [.ptr k0 0, .agg (nCellsK n (.ref k2 n.kids.length))] B (.int .i64 (setA A n).2) (((B.set k0 (some (.box (aCells k1 (setA A n).1)))).set k1 (some (.map (mV (setA A n).1.es) (setA A n).1.clock))).set k2 (some (.arr e 1 (iRows n.kids)))) := by
  have hf := VCall.frame (a_setK A n b e hb hn) [k0, k1, k2] B ⟨rfl, by simp [hne], fun i j hj => by
    match i, hj with
    | 0, hj => simp at hj; subst hj; exact ⟨getElem?_lt h0, fun o' ho => by simp [aOb] at ho; subst ho; exact h0⟩
    | 1, hj => simp at hj; subst hj; exact ⟨getElem?_lt h1, fun o' ho => by simp [aOb] at ho; subst ho; exact h1⟩
    | 2, hj => simp at hj; subst hj; exact ⟨getElem?_lt h2, fun o' ho => by simp [aOb] at ho; subst ho; exact h2⟩
    | i + 3, hj => simp at hj⟩ (by simp only [nCellsK, wfL, wfV, Bool.and_self, Bool.and_true, Bool.true_and]; rfl) rfl rfl rfl (Nat.le_refl _)
  have e2 : putObs (nameOf [k0, k1, k2] B.length) B [k0, k1, k2] (aOb (setA A n).1 ++ [some (.arr e 1 (iRows n.kids))]) = ((B.set k0 (some (.box (aCells k1 (setA A n).1)))).set k1 (some (.map (mV (setA A n).1.es) (setA A n).1.clock))).set k2 (some (.arr e 1 (iRows n.kids))) := by
    simp [putObs, aOb, aCells, renO, renL, renV, nameOf]
  rw [e2] at hf
  simpa [renL, renV, nameOf, nCellsK] using hf
theorem a_free0 (A : Ar) (id : Int) (h : id = 0 ∨ getN A.es id = none) : VCall Try.prog 18 [.ptr 0 0, .int .i64 id] (aOb A) (.int .i64 0) (aOb A) := by
  refine VCall.intro ok18 (Nat.le_of_ble_eq_true rfl) (vk_start ?_)
  have h1 := a_has A id
  cases hg : getN A.es id with
  | none =>
    rw [hg] at h1
    simp (maxSteps := 4000000) (disch := omega) only [EW, Nat.reduceBEq, reduceIte, Nat.reduceAdd, Nat.reduceLeDiff, Nat.reduceLT, Nat.reduceSub, Nat.reduceMul, reduceCtorEq, Int.reduceNeg, Int.reduceSub, Int.reduceAdd, Int.reduceLE, Int.reduceLT, Int.reduceMul, Int.reduceToNat, Int.reduceEq, Int.reduceBEq, Int.reduceBNe, Nat.reduceEqDiff, vc18, rs18]
    refine vk_call rfl h1 ?_
    simp (maxSteps := 4000000) (disch := omega) only [EW, Nat.reduceBEq, reduceIte, Nat.reduceAdd, Nat.reduceLeDiff, Nat.reduceLT, Nat.reduceSub, Nat.reduceMul, reduceCtorEq, Int.reduceNeg, Int.reduceSub, Int.reduceAdd, Int.reduceLE, Int.reduceLT, Int.reduceMul, Int.reduceToNat, Int.reduceEq, Int.reduceBEq, Int.reduceBNe, Nat.reduceEqDiff]
    exact ⟨_, rfl, ⟨[some 0, some 1], rfl, rfl, rfl, rfl, ⟨.same _ rfl, trivial⟩, ⟨⟨_, rfl, .box (.cons (.mapr rfl) (.cons (.same _ rfl) (.cons (.same _ rfl) (.cons (.same _ rfl) (.cons (.same _ rfl) (.cons (.same _ rfl) (.cons (.same _ rfl) (.cons (.same _ rfl) (.cons (.same _ rfl) .nil)))))))))⟩, ⟨⟨_, rfl, .map (SubE.refl _)⟩, trivial⟩⟩⟩⟩
  | some x =>
    have e : id = 0 := by rcases h with h | h; exact h; rw [hg] at h; cases h
    subst e
    rw [hg] at h1
    simp (maxSteps := 4000000) (disch := omega) only [EW, Nat.reduceBEq, reduceIte, Nat.reduceAdd, Nat.reduceLeDiff, Nat.reduceLT, Nat.reduceSub, Nat.reduceMul, reduceCtorEq, Int.reduceNeg, Int.reduceSub, Int.reduceAdd, Int.reduceLE, Int.reduceLT, Int.reduceMul, Int.reduceToNat, Int.reduceEq, Int.reduceBEq, Int.reduceBNe, Nat.reduceEqDiff, vc18, rs18]
    refine vk_call rfl h1 ?_
    simp (maxSteps := 4000000) (disch := omega) only [EW, Nat.reduceBEq, reduceIte, Nat.reduceAdd, Nat.reduceLeDiff, Nat.reduceLT, Nat.reduceSub, Nat.reduceMul, reduceCtorEq, Int.reduceNeg, Int.reduceSub, Int.reduceAdd, Int.reduceLE, Int.reduceLT, Int.reduceMul, Int.reduceToNat, Int.reduceEq, Int.reduceBEq, Int.reduceBNe, Nat.reduceEqDiff]
    exact ⟨_, rfl, ⟨[some 0, some 1], rfl, rfl, rfl, rfl, ⟨.same _ rfl, trivial⟩, ⟨⟨_, rfl, .box (.cons (.mapr rfl) (.cons (.same _ rfl) (.cons (.same _ rfl) (.cons (.same _ rfl) (.cons (.same _ rfl) (.cons (.same _ rfl) (.cons (.same _ rfl) (.cons (.same _ rfl) (.cons (.same _ rfl) .nil)))))))))⟩, ⟨⟨_, rfl, .map (SubE.refl _)⟩, trivial⟩⟩⟩⟩
def n3 (k : Nat) (tx : List UInt8) (rs : Runs) (sl : Int) : Nd := { ownN (n0 k tx rs sl) with attrs := (n4 k tx rs sl).attrs.map fixA, hooks := (n4 k tx rs sl).hooks, kids := [7], text := fixR (n4 k tx rs sl).text, parent := (n4 k tx rs sl).parent }
theorem n3_ok {k b : Nat} {tx : List UInt8} {rs : Runs} {sl : Int} (hb : 1000 ≤ b) (h : rawOk b (tx, rs)) : (n3 k tx rs sl).ok b :=
  have h4 := ownN_ok (n4_ok (k := k) (sl := sl) hb h)
  ⟨(ownN_ok (n0_ok h)).tag, h4.text, h4.hooks, h4.kids, h4.attrs, h4.each⟩
theorem apart_facts2 (k : Nat) (hk : k < 4) (tx : List UInt8) (rs : Runs) (sl : Int) :
    getN (setA (cloneA (a1 k tx rs sl)) (n4 k tx rs sl)).1.es ((k : Int) * 1048576 + 1) = some (n3 k tx rs sl) ∧ gotN (setA (cloneA (a1 k tx rs sl)) (n4 k tx rs sl)).1 ((k : Int) * 1048576 + 1) = (ownN (n3 k tx rs sl), true) ∧ getN (a1 k tx rs sl).es 99 = none := by
  match k, hk with
  | 0, _ => exact ⟨rfl, rfl, rfl⟩
  | 1, _ => exact ⟨rfl, rfl, rfl⟩
  | 2, _ => exact ⟨rfl, rfl, rfl⟩
  | 3, _ => exact ⟨rfl, rfl, rfl⟩
theorem arenaApart (tx : List UInt8) (o sl : Int) (ht : tx.length ≤ 2000000) : VFn Try.prog 3 [.str tx, .int .i64 o, .int .i64 sl] (.bool true) := by
  refine VFn.intro ok3 (Nat.le_of_ble_eq_true rfl) (vk_start ?_)
  obtain ⟨k, hk, ho, ho1, ho2⟩ := owner4 o
  have hm := mark_of tx 0 (by omega)
  have hx := mark_of_at [120] 0 [(1, 0)] (by decide) (by decide)
  generalize hrs : rle (List.replicate tx.length (nearI 0)) = rs at hm
  have hrl : rs.length ≤ tx.length := by
    have := rle_len (List.replicate tx.length (nearI 0))
    rw [hrs, List.length_replicate] at this; exact this
  have hro : rawOk 2000000 (tx, rs) := ⟨ht, by show rs.length ≤ 2000000; omega⟩
  clear hrs
  obtain ⟨f1, f2, f3, f4, f5, f6, f7, f8, f9, f10⟩ := apart_facts k hk tx rs sl
  have c1 := a_next newA k newA_ok
  have c2 := a_make newA k 1 (tx, rs) tx sl 2000000 newA_ok hro (by decide) (fun _ _ => f3)
  have c3 := a_clone (a1 k tx rs sl) 2000000 (by decide) (cok_a1 hk (by decide) hro)
  rw [f2] at c1
  rw [f1] at c2
  have g1 := a_getS (cloneA (a1 k tx rs sl)) ((k : Int) * 1048576 + 1) 2000000 (by decide) (by rw [f6]; intro n hn; cases hn; exact ownN_ok (n0_ok hro))
  have g2 := a_getS (a1 k tx rs sl) ((k : Int) * 1048576 + 1) 2000000 (by decide) (by rw [f7]; intro n hn; cases hn; exact n0_ok hro)
  rw [f4] at g1
  rw [f5] at g2
  have hlen : (k : Int) * 1048576 + 1 < 10000000 := by omega
  simp only [rawV] at hm hx
  simp (maxSteps := 4000000) (disch := omega) only [EW, Nat.reduceBEq, reduceIte, Nat.reduceAdd, Nat.reduceLeDiff, Nat.reduceLT, Nat.reduceSub, Nat.reduceMul, reduceCtorEq, Int.reduceNeg, Int.reduceSub, Int.reduceAdd, Int.reduceLE, Int.reduceLT, Int.reduceMul, Int.reduceToNat, Int.reduceEq, Int.reduceBEq, Int.reduceBNe, Nat.reduceEqDiff, vc3, rs3]
  (refine vk_callR rfl ⟨_, .inl rfl, alive19⟩ ?_; simp (maxSteps := 4000000) (disch := omega) only [EW, Nat.reduceBEq, reduceIte, Nat.reduceAdd, Nat.reduceLeDiff, Nat.reduceLT, Nat.reduceSub, Nat.reduceMul, reduceCtorEq, Int.reduceNeg, Int.reduceSub, Int.reduceAdd, Int.reduceLE, Int.reduceLT, Int.reduceMul, Int.reduceToNat, Int.reduceEq, Int.reduceBEq, Int.reduceBNe, Nat.reduceEqDiff])
  rw [ho]
  refine vk_call rfl a_new ?_
  simp (maxSteps := 4000000) (disch := omega) only [EW, Nat.reduceBEq, reduceIte, Nat.reduceAdd, Nat.reduceLeDiff, Nat.reduceLT, Nat.reduceSub, Nat.reduceMul, reduceCtorEq, Int.reduceNeg, Int.reduceSub, Int.reduceAdd, Int.reduceLE, Int.reduceLT, Int.reduceMul, Int.reduceToNat, Int.reduceEq, Int.reduceBEq, Int.reduceBNe, Nat.reduceEqDiff]
  refine vk_call rfl c1 ?_
  simp (maxSteps := 4000000) (disch := omega) only [EW, Nat.reduceBEq, reduceIte, Nat.reduceAdd, Nat.reduceLeDiff, Nat.reduceLT, Nat.reduceSub, Nat.reduceMul, reduceCtorEq, Int.reduceNeg, Int.reduceSub, Int.reduceAdd, Int.reduceLE, Int.reduceLT, Int.reduceMul, Int.reduceToNat, Int.reduceEq, Int.reduceBEq, Int.reduceBNe, Nat.reduceEqDiff]
  (refine vk_callR rfl ⟨_, .inl rfl, hm⟩ ?_; simp (maxSteps := 4000000) (disch := omega) only [EW, Nat.reduceBEq, reduceIte, Nat.reduceAdd, Nat.reduceLeDiff, Nat.reduceLT, Nat.reduceSub, Nat.reduceMul, reduceCtorEq, Int.reduceNeg, Int.reduceSub, Int.reduceAdd, Int.reduceLE, Int.reduceLT, Int.reduceMul, Int.reduceToNat, Int.reduceEq, Int.reduceBEq, Int.reduceBNe, Nat.reduceEqDiff])
  refine vk_call rfl c2 ?_
  simp (maxSteps := 4000000) (disch := omega) only [EW, Nat.reduceBEq, reduceIte, Nat.reduceAdd, Nat.reduceLeDiff, Nat.reduceLT, Nat.reduceSub, Nat.reduceMul, reduceCtorEq, Int.reduceNeg, Int.reduceSub, Int.reduceAdd, Int.reduceLE, Int.reduceLT, Int.reduceMul, Int.reduceToNat, Int.reduceEq, Int.reduceBEq, Int.reduceBNe, Nat.reduceEqDiff]
  refine vk_call rfl c3 ?_
  simp (maxSteps := 4000000) (disch := omega) only [EW, Nat.reduceBEq, reduceIte, Nat.reduceAdd, Nat.reduceLeDiff, Nat.reduceLT, Nat.reduceSub, Nat.reduceMul, reduceCtorEq, Int.reduceNeg, Int.reduceSub, Int.reduceAdd, Int.reduceLE, Int.reduceLT, Int.reduceMul, Int.reduceToNat, Int.reduceEq, Int.reduceBEq, Int.reduceBNe, Nat.reduceEqDiff, aOb]
  refine vk_call rfl (a_rd (k0 := 2) (k1 := 3) g1 rfl (wf_n _ _) rfl rfl (by decide)) ?_
  have z1 : (n0 k tx rs sl).slot = sl := rfl
  have z2 : (n0 k tx rs sl).key = tx := rfl
  have z3 : (n0 k tx rs sl).parent = -1 := rfl
  have z4 : (n0 k tx rs sl).kids = [] := rfl
  have z5 : (n0 k tx rs sl).attrs = [] := rfl
  have z6 : iRows [] = [] := rfl
  have z7 : aRows [] = [] := rfl
  simp (maxSteps := 4000000) (disch := omega) only [EW, Nat.reduceBEq, reduceIte, Nat.reduceAdd, Nat.reduceLeDiff, Nat.reduceLT, Nat.reduceSub, Nat.reduceMul, reduceCtorEq, Int.reduceNeg, Int.reduceSub, Int.reduceAdd, Int.reduceLE, Int.reduceLT, Int.reduceMul, Int.reduceToNat, Int.reduceEq, Int.reduceBEq, Int.reduceBNe, Nat.reduceEqDiff, nCells, ownN]
  (refine vk_callR rfl ⟨_, .inl rfl, hx⟩ ?_; simp (maxSteps := 4000000) (disch := omega) only [EW, Nat.reduceBEq, reduceIte, Nat.reduceAdd, Nat.reduceLeDiff, Nat.reduceLT, Nat.reduceSub, Nat.reduceMul, reduceCtorEq, Int.reduceNeg, Int.reduceSub, Int.reduceAdd, Int.reduceLE, Int.reduceLT, Int.reduceMul, Int.reduceToNat, Int.reduceEq, Int.reduceBEq, Int.reduceBNe, Nat.reduceEqDiff])
  refine vk_call rfl (a_rd (k0 := 0) (k1 := 1) g2 rfl (wf_n _ _) rfl rfl (by decide)) ?_
  simp (maxSteps := 4000000) (disch := omega) only [EW, Nat.reduceBEq, reduceIte, Nat.reduceAdd, Nat.reduceLeDiff, Nat.reduceLT, Nat.reduceSub, Nat.reduceMul, reduceCtorEq, Int.reduceNeg, Int.reduceSub, Int.reduceAdd, Int.reduceLE, Int.reduceLT, Int.reduceMul, Int.reduceToNat, Int.reduceEq, Int.reduceBEq, Int.reduceBNe, Nat.reduceEqDiff, nCells, ownN, z1, z2, z3, z4, z5, z6, z7, List.map_nil]
  obtain ⟨f11, f12, f13⟩ := apart_facts2 k hk tx rs sl
  have g3 := a_getS (setA (cloneA (a1 k tx rs sl)) (n4 k tx rs sl)).1 ((k : Int) * 1048576 + 1) 2000000 (by decide) (by rw [f11]; intro n hn; cases hn; exact n3_ok (by decide) hro)
  rw [f12] at g3
  have v1 := a_free0 (setA (cloneA (a1 k tx rs sl)) (n4 k tx rs sl)).1 0 (.inl rfl)
  have v2 := a_free0 (a1 k tx rs sl) 99 (.inr f13)
  have z8 : (ownN (n3 k tx rs sl)).kids = [7] := rfl
  have z9 : iRows [7] = [[.int .i64 7]] := rfl
  have z11 : (n4 k tx rs sl).kids = [7] := rfl
  have z10 : (ownN (n0 k tx rs sl)).kids = [] := rfl
  refine vk_call rfl (VCall.sub (args := [.ptr 2 0, .agg (nCellsK (n4 k tx rs sl) (.ref 5 (n4 k tx rs sl).kids.length))]) (a_setK_at (k0 := 2) (k1 := 3) (k2 := 5) (cloneA (a1 k tx rs sl)) (n4 k tx rs sl) 2000000 3 (by decide) (n4_ok (by decide) hro) rfl rfl rfl (by decide)) (.cons (.refl _) (.cons (.agg (.cons (.refl _) (.cons (.refl _) (.cons (.refl _) (.cons (.refl _) (.cons (.refl _) (.cons (.refl _) (.cons (.refl _) (.cons (.refl _) (.cons (.sl (.cons (.cons (.refl _) (.cons (.refl _) (.cons (.refl _) (.cons (.nil _) .nil)))) .nil)) (.cons (.refl _) (.cons (.refl _) (.cons (.refl _) (.cons (.refl _) .nil)))))))))))))) .nil)) (.refl _)) ?_
  simp (maxSteps := 4000000) (disch := omega) only [EW, Nat.reduceBEq, reduceIte, Nat.reduceAdd, Nat.reduceLeDiff, Nat.reduceLT, Nat.reduceSub, Nat.reduceMul, reduceCtorEq, Int.reduceNeg, Int.reduceSub, Int.reduceAdd, Int.reduceLE, Int.reduceLT, Int.reduceMul, Int.reduceToNat, Int.reduceEq, Int.reduceBEq, Int.reduceBNe, Nat.reduceEqDiff, z9, z11]
  refine vk_call rfl (a_rd (k0 := 2) (k1 := 3) g3 rfl (wf_n _ _) rfl rfl (by decide)) ?_
  simp (maxSteps := 4000000) (disch := omega) only [EW, Nat.reduceBEq, reduceIte, Nat.reduceAdd, Nat.reduceLeDiff, Nat.reduceLT, Nat.reduceSub, Nat.reduceMul, reduceCtorEq, Int.reduceNeg, Int.reduceSub, Int.reduceAdd, Int.reduceLE, Int.reduceLT, Int.reduceMul, Int.reduceToNat, Int.reduceEq, Int.reduceBEq, Int.reduceBNe, Nat.reduceEqDiff, nCells, z8, z9]
  refine vk_call rfl (a_rd (k0 := 0) (k1 := 1) g2 rfl (wf_n _ _) rfl rfl (by decide)) ?_
  simp (maxSteps := 4000000) (disch := omega) only [EW, Nat.reduceBEq, reduceIte, Nat.reduceAdd, Nat.reduceLeDiff, Nat.reduceLT, Nat.reduceSub, Nat.reduceMul, reduceCtorEq, Int.reduceNeg, Int.reduceSub, Int.reduceAdd, Int.reduceLE, Int.reduceLT, Int.reduceMul, Int.reduceToNat, Int.reduceEq, Int.reduceBEq, Int.reduceBNe, Nat.reduceEqDiff, nCells, z8, z9, z10, z6]
  refine vk_call rfl (a_rd (k0 := 2) (k1 := 3) v1 rfl rfl rfl rfl (by decide)) ?_
  simp (maxSteps := 4000000) (disch := omega) only [EW, Nat.reduceBEq, reduceIte, Nat.reduceAdd, Nat.reduceLeDiff, Nat.reduceLT, Nat.reduceSub, Nat.reduceMul, reduceCtorEq, Int.reduceNeg, Int.reduceSub, Int.reduceAdd, Int.reduceLE, Int.reduceLT, Int.reduceMul, Int.reduceToNat, Int.reduceEq, Int.reduceBEq, Int.reduceBNe, Nat.reduceEqDiff]
  refine vk_call rfl (a_rd (k0 := 0) (k1 := 1) v2 rfl rfl rfl rfl (by decide)) ?_
  simp (maxSteps := 4000000) (disch := omega) only [EW, Nat.reduceBEq, reduceIte, Nat.reduceAdd, Nat.reduceLeDiff, Nat.reduceLT, Nat.reduceSub, Nat.reduceMul, reduceCtorEq, Int.reduceNeg, Int.reduceSub, Int.reduceAdd, Int.reduceLE, Int.reduceLT, Int.reduceMul, Int.reduceToNat, Int.reduceEq, Int.reduceBEq, Int.reduceBNe, Nat.reduceEqDiff]
  exact fin rfl
end Go.Proofs.VL

/- Contracts of functions of the program, for what calls them, and the law that its name tells. -/
import Derived.Test.YthlmgkfipbphmaaGreatKC
namespace Go.Proofs.VL
open Go Go.RowKit
set_option maxRecDepth 100000
set_option maxHeartbeats 8000000
set_option linter.unusedSimpArgs false
set_option linter.unusedVariables false
attribute [local irreducible] vwp vk

theorem lend_own {ob : List (Option VObj)} {k n e sz : Nat} {rows : List (List V)} (h : ob[k]? = some (some (.arr e sz rows))) (hn : n = rows.length) : lendL ob [.ref k n] = some [.sl sz rows] := by
  subst hn
  simp only [lendL, lendV, objRows, h, Nat.le_refl, if_true, List.take_length]
theorem script_runBad (e : Nat) (ks : List Int) (hl : ks.length ≤ 256) (hb : ks.all kindB = false) : VCall Tryz.prog 33 [.ref 0 ks.length] [some (.arr e 14 (ks.map stp))] (.tup [.nils, .nilp, .int .i64 12]) [some (.arr e 14 (ks.map stp))] := by
  refine VCall.intro ok33 (Nat.le_of_ble_eq_true rfl) (vk_start ?_)
  have hc := script_check ks hl
  rw [hb] at hc
  simp (maxSteps := 4000000) (disch := omega) only [EW, Nat.reduceBEq, reduceIte, Nat.reduceAdd, Nat.reduceLeDiff, Nat.reduceLT, Nat.reduceSub, Nat.reduceMul, reduceCtorEq, Int.reduceNeg, Int.reduceSub, Int.reduceAdd, Int.reduceLE, Int.reduceLT, Int.reduceMul, Int.reduceToNat, Int.reduceEq, Int.reduceBEq, Int.reduceBNe, Nat.reduceEqDiff, vc33, rs33]
  refine vk_callR rfl ⟨_, .inr ⟨lend_own rfl (List.length_map ..).symm, rfl⟩, hc⟩ ?_
  simp (maxSteps := 4000000) (disch := omega) only [EW, Nat.reduceBEq, reduceIte, Nat.reduceAdd, Nat.reduceLeDiff, Nat.reduceLT, Nat.reduceSub, Nat.reduceMul, reduceCtorEq, Int.reduceNeg, Int.reduceSub, Int.reduceAdd, Int.reduceLE, Int.reduceLT, Int.reduceMul, Int.reduceToNat, Int.reduceEq, Int.reduceBEq, Int.reduceBNe, Nat.reduceEqDiff]
  exact ⟨_, rfl, ⟨[some 0], rfl, rfl, rfl, rfl, ⟨.tup (.cons (.same _ rfl) (.cons (.same _ rfl) (.cons (.same _ rfl) .nil))), trivial⟩, ⟨⟨_, rfl, .arr (.refl _)⟩, trivial⟩⟩⟩

def rowsI (i n : Nat) : List (List V) := List.replicate i (stp 3) ++ List.replicate (n - i) (stp 0)
theorem rowsI_len {i n : Nat} (h : i ≤ n) : (rowsI i n).length = n := by simp [rowsI]; omega
theorem rowsI_get {i n : Nat} (h : i < n) : (rowsI i n)[i]? = some (stp 0) := by
  unfold rowsI
  rw [List.getElem?_append_right (by simp), List.length_replicate, Nat.sub_self, List.getElem?_replicate, if_pos (by omega)]
theorem rowsI_set {i n : Nat} (h : i < n) : (rowsI i n).set i (stp 3) = rowsI (i + 1) n := by
  unfold rowsI
  rw [List.set_append_right _ _ (by simp)]
  obtain ⟨d, hd⟩ : ∃ d, n - i = d + 1 := ⟨n - i - 1, by omega⟩
  have hd2 : n - (i + 1) = d := by omega
  rw [hd, hd2, List.length_replicate, Nat.sub_self, List.replicate_succ, List.set_cons_zero, List.replicate_succ', List.append_assoc]
  rfl
theorem rowsI_last {n : Nat} (k : Int) : (rowsI (n + 1) (n + 1)).set n (stp k) = (List.replicate n 3 ++ [k]).map stp := by
  unfold rowsI
  rw [Nat.sub_self, List.replicate_zero, List.append_nil, List.replicate_succ', List.set_append_right _ _ (by simp)]
  simp
theorem rowsI_at {n : Nat} : (rowsI (n + 1) (n + 1))[n]? = some (stp 3) := by
  unfold rowsI
  simp
theorem mod3 (m : Int) : ∃ k : Nat, k < 3 ∧ (m.tmod 3 + 3).tmod 3 = k ∧ -2 ≤ m.tmod 3 ∧ m.tmod 3 ≤ 2 := by
  have hb : -2 ≤ m.tmod 3 ∧ m.tmod 3 ≤ 2 := by
    rcases Int.le_total 0 m with h | h
    · rw [Int.tmod_eq_emod_of_nonneg h]; omega
    · have e : m.tmod 3 = -((-m).tmod 3) := by rw [Int.neg_tmod, Int.neg_neg]
      rw [e, Int.tmod_eq_emod_of_nonneg (by omega)]; omega
  refine ⟨((m.tmod 3 + 3) % 3).toNat, by omega, ?_, hb⟩
  rw [Int.tmod_eq_emod_of_nonneg (by omega)]; omega
end Go.Proofs.VL

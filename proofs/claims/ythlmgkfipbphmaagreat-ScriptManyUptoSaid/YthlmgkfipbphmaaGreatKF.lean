/- Contracts of functions of the program, for what calls them, and the law that its name tells. -/
import Derived.Test.YthlmgkfipbphmaaGreatKD
import Derived.Test.YthlmgkfipbphmaaGreatKE
namespace Go.Proofs.VL
open Go Go.RowKit
set_option maxRecDepth 100000
set_option maxHeartbeats 8000000
set_option linter.unusedSimpArgs false
set_option linter.unusedVariables false
attribute [local irreducible] vwp vk

theorem stepsAt {n : Nat} {kind : Int} {i : Nat} (h : i < n) : ((List.replicate n (3 : Int) ++ [kind]).map stp)[i]? = some (stp 3) := by
  rw [List.getElem?_map, List.getElem?_append_left (by simpa using h), List.getElem?_replicate, if_pos h]; rfl
theorem stepsEnd {n : Nat} {kind : Int} : ((List.replicate n (3 : Int) ++ [kind]).map stp)[n]? = some (stp kind) := by
  rw [List.getElem?_map, List.getElem?_append_right (by simp)]; simp
theorem do3At (X : List (List V)) (rows : List (List V)) (c : List V) : VCall Tryz.prog 38 [.ptr 3 0, .agg (stp 3)] (obA X ++ [some (.arr 82 4 rows), some (.box c)]) (.agg oc4) (obA X ++ [some (.arr 82 4 rows), some (.box c)]) :=
  inFrame (do3 X) rfl rfl rfl rfl _ rfl rfl rfl rfl
theorem doLastAt (k : Int) (hk : 1 ≤ k) (hk3 : k ≤ 3) (X : List (List V)) (rows : List (List V)) (c : List V) : VCall Tryz.prog 38 [.ptr 3 0, .agg (stp k)] (obA X ++ [some (.arr 82 4 rows), some (.box c)]) (.agg (ocK k)) (obN X ++ [some (.arr 82 4 rows), some (.box c)]) := by
  have hd := do_last k hk hk3 X
  obtain rfl | rfl | rfl : k = 1 ∨ k = 2 ∨ k = 3 := by omega
  · exact inFrame hd rfl rfl rfl rfl _ rfl rfl rfl rfl
  · exact inFrame hd rfl rfl rfl rfl _ rfl rfl rfl rfl
  · exact inFrame hd rfl rfl rfl rfl _ rfl rfl rfl rfl
theorem ocK_facts (k : Int) : (ocK k).length = 4 ∧ (ocK k).all idFree = true ∧ putCells [.int .i64 0, .int .i64 0, .nils, .nils] 0 (ocK k) = ocK k := by
  unfold ocK
  split <;> exact ⟨rfl, rfl, rfl⟩
theorem script_run (n : Nat) (kind : Int) (hn : n + 1 ≤ 256) (hk : 1 ≤ kind) (hk3 : kind ≤ 3) :
    VCall Tryz.prog 33 [.ref 0 (n + 1)] [some (.arr 70 14 ((List.replicate n (3 : Int) ++ [kind]).map stp))] (.tup [.ref 1 (n + 1), .junk, .int .i64 0]) [some (.arr 70 14 ((List.replicate n (3 : Int) ++ [kind]).map stp)), some (.arr 82 4 (List.replicate n oc4 ++ [ocK kind]))] := by
  refine VCall.intro ok33 (Nat.le_of_ble_eq_true rfl) (vk_start ?_)
  have hln : (List.replicate n (3 : Int) ++ [kind]).length = n + 1 := by simp
  have hlm : ((List.replicate n (3 : Int) ++ [kind]).map stp).length = n + 1 := by rw [List.length_map]; exact hln
  have hc := script_check (List.replicate n (3 : Int) ++ [kind]) (by omega)
  have ha : (List.replicate n (3 : Int) ++ [kind]).all kindB = true := by
    rw [List.all_append]
    have h1 : kindB kind = true := by
      unfold kindB
      rw [decide_eq_true hk, decide_eq_true hk3]; rfl
    have h3 : kindB 3 = true := rfl
    simp [h1, h3]
  rw [ha] at hc
  have hAt := fun i (h : i < n) => stepsAt (kind := kind) h
  have hEnd := stepsEnd (n := n) (kind := kind)
  generalize ((List.replicate n (3 : Int) ++ [kind]).map stp) = X at hlm hc hAt hEnd
  obtain ⟨o1, o2, o3⟩ := ocK_facts kind
  simp (maxSteps := 4000000) (disch := omega) only [EW, Nat.reduceBEq, reduceIte, Nat.reduceAdd, Nat.reduceLeDiff, Nat.reduceLT, Nat.reduceSub, Nat.reduceMul, reduceCtorEq, Int.reduceNeg, Int.reduceSub, Int.reduceAdd, Int.reduceLE, Int.reduceLT, Int.reduceMul, Int.reduceToNat, Int.reduceEq, Int.reduceBEq, Int.reduceBNe, Nat.reduceEqDiff, vc33, rs33]
  refine vk_callR rfl ⟨_, .inr ⟨lend_own rfl hlm.symm, rfl⟩, hc⟩ ?_
  simp (maxSteps := 4000000) (disch := omega) only [EW, Nat.reduceBEq, reduceIte, Nat.reduceAdd, Nat.reduceLeDiff, Nat.reduceLT, Nat.reduceSub, Nat.reduceMul, reduceCtorEq, Int.reduceNeg, Int.reduceSub, Int.reduceAdd, Int.reduceLE, Int.reduceLT, Int.reduceMul, Int.reduceToNat, Int.reduceEq, Int.reduceBEq, Int.reduceBNe, Nat.reduceEqDiff]
  refine vk_call rfl (new_app X) ?_
  simp (maxSteps := 4000000) (disch := omega) only [EW, Nat.reduceBEq, reduceIte, Nat.reduceAdd, Nat.reduceLeDiff, Nat.reduceLT, Nat.reduceSub, Nat.reduceMul, reduceCtorEq, Int.reduceNeg, Int.reduceSub, Int.reduceAdd, Int.reduceLE, Int.reduceLT, Int.reduceMul, Int.reduceToNat, Int.reduceEq, Int.reduceBEq, Int.reduceBNe, Nat.reduceEqDiff, obA, obR]
  refine vk_loopR (γ := Option Nat) (fun g => match g with
      | some i => { tm := [(6, .ptr 3 0), (7, .ref 7 i), (16, .ref 0 (n + 1)), (17, .int .i64 ((n : Int) + 1)), (18, .int .i64 i)], ob := obA X ++ [some (.arr 82 4 (List.replicate i oc4))], base := 1 }
      | none => { tm := [(6, .junk), (7, .ref 1 (n + 1)), (16, .ref 0 (n + 1)), (17, .int .i64 ((n : Int) + 1)), (18, .int .i64 ((n : Int) + 1))], ob := [some (.arr 70 14 X), some (.arr 82 4 (List.replicate n oc4 ++ [ocK kind]))], base := 1 })
    (fun g => match g with | some i => i ≤ n | none => True) (fun g => match g with | some i => n + 2 - i | none => 0) (some 0) (Nat.zero_le _) ?_ ?_
  · have e : ((n + 1 : Nat) : Int) = (n : Int) + 1 := by omega
    simp only [obA, obR, List.cons_append, List.nil_append, List.replicate_zero]
    exact ⟨[some 0, some 1, some 2, some 3, some 4, some 5, some 6, none], rfl, rfl, rfl, rfl, ⟨.ptr rfl, .nref rfl, .ref rfl, .same _ rfl, .same _ rfl, trivial⟩, ⟨⟨_, rfl, .arr (.refl _)⟩, ⟨⟨_, rfl, .map (SubE.refl _)⟩, ⟨⟨_, rfl, .box (.cons (.mapr rfl) (.cons (.same _ rfl) (.cons (.same _ rfl) (.cons (.same _ rfl) (.cons (.same _ rfl) (.cons (.same _ rfl) (.cons (.same _ rfl) (.cons (.same _ rfl) (.cons (.same _ rfl) .nil)))))))))⟩, ⟨⟨_, rfl, .box (.cons (.ptr rfl) (.cons (.same _ rfl) (.cons (.ptr rfl) (.cons (.ptr rfl) (.cons (.ptr rfl) (.cons (.same _ rfl) .nil))))))⟩, ⟨⟨_, rfl, .box (.cons (.same _ rfl) (.cons (.same _ rfl) .nil))⟩, ⟨⟨_, rfl, .box (.cons (.same _ rfl) (.cons (.same _ rfl) .nil))⟩, ⟨⟨_, rfl, .box (.cons (.same _ rfl) (.cons (.same _ rfl) .nil))⟩, ⟨⟨_, _, rfl⟩, trivial⟩⟩⟩⟩⟩⟩⟩⟩⟩
  · rintro g hg R hN hE hR
    match g, hg with
    | none, _ =>
      simp (maxSteps := 4000000) (disch := omega) only [EW, Nat.reduceBEq, reduceIte, Nat.reduceAdd, Nat.reduceLeDiff, Nat.reduceLT, Nat.reduceSub, Nat.reduceMul, reduceCtorEq, Int.reduceNeg, Int.reduceSub, Int.reduceAdd, Int.reduceLE, Int.reduceLT, Int.reduceMul, Int.reduceToNat, Int.reduceEq, Int.reduceBEq, Int.reduceBNe, Nat.reduceEqDiff]
      refine hE _ _ ?_
      simp (maxSteps := 4000000) (disch := omega) only [EW, Nat.reduceBEq, reduceIte, Nat.reduceAdd, Nat.reduceLeDiff, Nat.reduceLT, Nat.reduceSub, Nat.reduceMul, reduceCtorEq, Int.reduceNeg, Int.reduceSub, Int.reduceAdd, Int.reduceLE, Int.reduceLT, Int.reduceMul, Int.reduceToNat, Int.reduceEq, Int.reduceBEq, Int.reduceBNe, Nat.reduceEqDiff]
      exact ⟨_, rfl, ⟨[some 0, some 1], rfl, rfl, rfl, rfl, ⟨.tup (.cons (.ref rfl) (.cons (.junk _) (.cons (.same _ rfl) .nil))), trivial⟩, ⟨⟨_, rfl, .arr (.refl _)⟩, ⟨⟨_, rfl, .arr (.refl _)⟩, trivial⟩⟩⟩⟩
    | some i, (hi : i ≤ n) =>
      have htk : List.take i (List.replicate i [V.int .i64 4, V.int .i64 0, V.nils, V.nils]) = List.replicate i [V.int .i64 4, V.int .i64 0, V.nils, V.nils] := List.take_of_length_le (by simp)
      rcases Nat.lt_or_ge i n with hlt | hge
      · have hr := hAt i hlt
        have hsn : List.replicate i [V.int .i64 4, V.int .i64 0, V.nils, V.nils] ++ [[V.int .i64 4, V.int .i64 0, V.nils, V.nils]] = List.replicate (i + 1) [V.int .i64 4, V.int .i64 0, V.nils, V.nils] := by rw [List.replicate_succ']
        simp (maxSteps := 4000000) (disch := omega) only [EW, Nat.reduceBEq, reduceIte, Nat.reduceAdd, Nat.reduceLeDiff, Nat.reduceLT, Nat.reduceSub, Nat.reduceMul, reduceCtorEq, Int.reduceNeg, Int.reduceSub, Int.reduceAdd, Int.reduceLE, Int.reduceLT, Int.reduceMul, Int.reduceToNat, Int.reduceEq, Int.reduceBEq, Int.reduceBNe, Nat.reduceEqDiff, obA, obR, hr, stp]
        refine vk_call rfl (do3At X _ _) ?_
        simp (maxSteps := 4000000) (disch := omega) only [EW, Nat.reduceBEq, reduceIte, Nat.reduceAdd, Nat.reduceLeDiff, Nat.reduceLT, Nat.reduceSub, Nat.reduceMul, reduceCtorEq, Int.reduceNeg, Int.reduceSub, Int.reduceAdd, Int.reduceLE, Int.reduceLT, Int.reduceMul, Int.reduceToNat, Int.reduceEq, Int.reduceBEq, Int.reduceBNe, Nat.reduceEqDiff, obA, obR, oc4, htk, hsn, List.length_replicate]
        rw [vkA_some]
        refine ⟨⟨by simp; omega, by simp; omega⟩, ?_⟩
        simp (maxSteps := 4000000) (disch := omega) only [EW, Nat.reduceBEq, reduceIte, Nat.reduceAdd, Nat.reduceLeDiff, Nat.reduceLT, Nat.reduceSub, Nat.reduceMul, reduceCtorEq, Int.reduceNeg, Int.reduceSub, Int.reduceAdd, Int.reduceLE, Int.reduceLT, Int.reduceMul, Int.reduceToNat, Int.reduceEq, Int.reduceBEq, Int.reduceBNe, Nat.reduceEqDiff, hsn, List.length_replicate]
        refine hN _ (some (i + 1)) hlt (by show n + 2 - (i + 1) < n + 2 - i; omega) ?_
        simp only [obA, obR, List.cons_append, List.nil_append]
        exact ⟨[some 0, some 1, some 2, some 3, some 4, some 5, some 6, some 9], rfl, rfl, rfl, rfl, ⟨.ptr rfl, .ref rfl, .ref rfl, .same _ rfl, .same _ rfl, trivial⟩, ⟨⟨_, rfl, .arr (.refl _)⟩, ⟨⟨_, rfl, .map (SubE.refl _)⟩, ⟨⟨_, rfl, .box (.cons (.mapr rfl) (.cons (.same _ rfl) (.cons (.same _ rfl) (.cons (.same _ rfl) (.cons (.same _ rfl) (.cons (.same _ rfl) (.cons (.same _ rfl) (.cons (.same _ rfl) (.cons (.same _ rfl) .nil)))))))))⟩, ⟨⟨_, rfl, .box (.cons (.ptr rfl) (.cons (.same _ rfl) (.cons (.ptr rfl) (.cons (.ptr rfl) (.cons (.ptr rfl) (.cons (.same _ rfl) .nil))))))⟩, ⟨⟨_, rfl, .box (.cons (.same _ rfl) (.cons (.same _ rfl) .nil))⟩, ⟨⟨_, rfl, .box (.cons (.same _ rfl) (.cons (.same _ rfl) .nil))⟩, ⟨⟨_, rfl, .box (.cons (.same _ rfl) (.cons (.same _ rfl) .nil))⟩, ⟨⟨_, rfl, .arr (.refl _)⟩, trivial⟩⟩⟩⟩⟩⟩⟩⟩⟩
      · have e : i = n := by omega
        subst e
        simp (maxSteps := 4000000) (disch := omega) only [EW, Nat.reduceBEq, reduceIte, Nat.reduceAdd, Nat.reduceLeDiff, Nat.reduceLT, Nat.reduceSub, Nat.reduceMul, reduceCtorEq, Int.reduceNeg, Int.reduceSub, Int.reduceAdd, Int.reduceLE, Int.reduceLT, Int.reduceMul, Int.reduceToNat, Int.reduceEq, Int.reduceBEq, Int.reduceBNe, Nat.reduceEqDiff, obA, obR, hEnd, stp]
        refine vk_call rfl (doLastAt kind hk hk3 X _ _) ?_
        simp (maxSteps := 4000000) (disch := omega) only [EW, Nat.reduceBEq, reduceIte, Nat.reduceAdd, Nat.reduceLeDiff, Nat.reduceLT, Nat.reduceSub, Nat.reduceMul, reduceCtorEq, Int.reduceNeg, Int.reduceSub, Int.reduceAdd, Int.reduceLE, Int.reduceLT, Int.reduceMul, Int.reduceToNat, Int.reduceEq, Int.reduceBEq, Int.reduceBNe, Nat.reduceEqDiff, obN, oc4, htk, o1, o2, o3, List.length_replicate]
        rw [vkA_some]
        refine ⟨⟨by simp; omega, by simp; omega⟩, ?_⟩
        simp (maxSteps := 4000000) (disch := omega) only [EW, Nat.reduceBEq, reduceIte, Nat.reduceAdd, Nat.reduceLeDiff, Nat.reduceLT, Nat.reduceSub, Nat.reduceMul, reduceCtorEq, Int.reduceNeg, Int.reduceSub, Int.reduceAdd, Int.reduceLE, Int.reduceLT, Int.reduceMul, Int.reduceToNat, Int.reduceEq, Int.reduceBEq, Int.reduceBNe, Nat.reduceEqDiff, List.length_replicate]
        refine hN _ none trivial (by show 0 < i + 2 - i; omega) ?_
        exact ⟨[some 0, some 9], rfl, rfl, rfl, rfl, ⟨.junk _, .ref rfl, .ref rfl, .same _ rfl, .same _ rfl, trivial⟩, ⟨⟨_, rfl, .arr (.refl _)⟩, ⟨⟨_, rfl, .arr (.refl _)⟩, trivial⟩⟩⟩
end Go.Proofs.VL

/- Contracts of functions of the program, for what calls them, and the law that its name tells. -/
import Derived.Test.YthlmgkfipbphmaaAI
import Derived.Test.YthlmgkfipbphmaaAF
import Derived.Test.YthlmgkfipbphmaaAH
namespace Go.Proofs.VL
open Go Go.RowKit
set_option maxRecDepth 100000
set_option maxHeartbeats 8000000
set_option linter.unusedSimpArgs false
set_option linter.unusedVariables false
attribute [local irreducible] vwp vk

theorem int_cloneK (e : Nat) (rows : List (List V)) (hl : rows.length ≤ 10000000000) : VCall Try.prog 67 [.ref 0 rows.length] [some (.arr e 1 rows)] (.ref 1 rows.length) [some (.arr e 1 rows), some (.arr 3 1 rows)] := by
  refine VCall.intro ok67 (Nat.le_of_ble_eq_true rfl) (vk_start ?_)
  cases rows with
  | nil =>
    simp (maxSteps := 4000000) (disch := omega) only [EW, Nat.reduceBEq, reduceIte, Nat.reduceAdd, Nat.reduceLeDiff, Nat.reduceLT, Nat.reduceSub, Nat.reduceMul, reduceCtorEq, Int.reduceNeg, Int.reduceSub, Int.reduceAdd, Int.reduceLE, Int.reduceLT, Int.reduceMul, Int.reduceToNat, Int.reduceEq, Int.reduceBEq, Int.reduceBNe, Nat.reduceEqDiff, vc67, rs67]
    exact ⟨⟨_, rfl, ⟨[some 0, none], rfl, rfl, rfl, rfl, ⟨.nref rfl, trivial⟩, ⟨⟨_, rfl, .arr (.refl _)⟩, ⟨⟨_, _, rfl⟩, trivial⟩⟩⟩⟩, ⟨_, rfl, ⟨[some 0, some 2], rfl, rfl, rfl, rfl, ⟨.ref rfl, trivial⟩, ⟨⟨_, rfl, .arr (.refl _)⟩, ⟨⟨_, rfl, .arr (.refl _)⟩, trivial⟩⟩⟩⟩⟩
  | cons r rows =>
    have hl2 : (r :: rows).length = rows.length + 1 := rfl
    simp (maxSteps := 4000000) (disch := omega) only [EW, Nat.reduceBEq, reduceIte, Nat.reduceAdd, Nat.reduceLeDiff, Nat.reduceLT, Nat.reduceSub, Nat.reduceMul, reduceCtorEq, Int.reduceNeg, Int.reduceSub, Int.reduceAdd, Int.reduceLE, Int.reduceLT, Int.reduceMul, Int.reduceToNat, Int.reduceEq, Int.reduceBEq, Int.reduceBNe, Nat.reduceEqDiff, vc67, rs67, List.take_length]
    exact ⟨_, rfl, ⟨[some 0, some 2], rfl, rfl, rfl, rfl, ⟨.ref rfl, trivial⟩, ⟨⟨_, rfl, .arr (.refl _)⟩, ⟨⟨_, rfl, .arr (.refl _)⟩, trivial⟩⟩⟩⟩
theorem clone_at (e : Nat) (rows : List (List V)) (hl : rows.length ≤ 10000000000) (B : List (Option VObj)) (k : Nat) (h0 : B[k]? = some (some (.arr e 1 rows))) : VCall Try.prog 67 [.ref k rows.length] B (.ref B.length rows.length) (B ++ [some (.arr 3 1 rows)]) := by
  have hf := VCall.frame (int_cloneK e rows hl) [k] B ⟨rfl, by simp, fun i j hj => by
    match i, hj with
    | 0, hj => simp at hj; subst hj; exact ⟨getElem?_lt h0, fun o' ho => by simp at ho; subst ho; exact h0⟩
    | i + 1, hj => simp at hj⟩ rfl rfl rfl rfl (Nat.le_succ 1)
  have e2 : putObs (nameOf [k] B.length) B [k] [some (.arr e 1 rows), some (.arr 3 1 rows)] = B ++ [some (.arr 3 1 rows)] := by
    simp [putObs, renO, nameOf, set_same h0]
  rw [e2] at hf
  simpa [renL, renV, nameOf] using hf

theorem a_ownK (b e0 : Nat) (n : Nd) (hb : b ≤ 1000000000) (h : n.ok b) : VCall Try.prog 44 [.agg (nCellsK n (.ref 0 n.kids.length))] [some (.arr e0 1 (iRows n.kids))] (.agg (nCellsK (ownN n) (.ref 1 n.kids.length))) [some (.arr e0 1 (iRows n.kids)), some (.arr 3 1 (iRows n.kids))] := by
  refine VCall.intro ok44 (Nat.le_of_ble_eq_true rfl) (vk_start ?_)
  have f1 := fix_raw h.tag hb
  have f2 := fix_raw h.text hb
  have hk := h.hooks
  have kk := h.kids
  have c1 := hook_clone (hRows n.hooks) (by rw [hRows_length]; omega)
  have c2 := clone_at e0 (iRows n.kids) (by rw [iRows_length]; omega)
  simp only [iRows_length] at c2
  simp (maxSteps := 4000000) (disch := omega) only [EW, Nat.reduceBEq, reduceIte, Nat.reduceAdd, Nat.reduceLeDiff, Nat.reduceLT, Nat.reduceSub, Nat.reduceMul, reduceCtorEq, Int.reduceNeg, Int.reduceSub, Int.reduceAdd, Int.reduceLE, Int.reduceLT, Int.reduceMul, Int.reduceToNat, Int.reduceEq, Int.reduceBEq, Int.reduceBNe, Nat.reduceEqDiff, vc44, rs44, nCellsK]
  (refine vk_callR rfl ⟨_, .inl rfl, f1⟩ ?_; simp (maxSteps := 4000000) (disch := omega) only [EW, Nat.reduceBEq, reduceIte, Nat.reduceAdd, Nat.reduceLeDiff, Nat.reduceLT, Nat.reduceSub, Nat.reduceMul, reduceCtorEq, Int.reduceNeg, Int.reduceSub, Int.reduceAdd, Int.reduceLE, Int.reduceLT, Int.reduceMul, Int.reduceToNat, Int.reduceEq, Int.reduceBEq, Int.reduceBNe, Nat.reduceEqDiff])
  (refine vk_callR rfl ⟨_, .inl rfl, f2⟩ ?_; simp (maxSteps := 4000000) (disch := omega) only [EW, Nat.reduceBEq, reduceIte, Nat.reduceAdd, Nat.reduceLeDiff, Nat.reduceLT, Nat.reduceSub, Nat.reduceMul, reduceCtorEq, Int.reduceNeg, Int.reduceSub, Int.reduceAdd, Int.reduceLE, Int.reduceLT, Int.reduceMul, Int.reduceToNat, Int.reduceEq, Int.reduceBEq, Int.reduceBNe, Nat.reduceEqDiff])
  (refine vk_callR rfl ⟨_, .inl rfl, c1⟩ ?_; simp (maxSteps := 4000000) (disch := omega) only [EW, Nat.reduceBEq, reduceIte, Nat.reduceAdd, Nat.reduceLeDiff, Nat.reduceLT, Nat.reduceSub, Nat.reduceMul, reduceCtorEq, Int.reduceNeg, Int.reduceSub, Int.reduceAdd, Int.reduceLE, Int.reduceLT, Int.reduceMul, Int.reduceToNat, Int.reduceEq, Int.reduceBEq, Int.reduceBNe, Nat.reduceEqDiff])
  refine vk_callW rfl (c2 _ 0 rfl) (by simp) ?_
  have hal := aRows_length n.attrs
  have hba := h.attrs
  simp (maxSteps := 4000000) (disch := omega) only [EW, Nat.reduceBEq, reduceIte, Nat.reduceAdd, Nat.reduceLeDiff, Nat.reduceLT, Nat.reduceSub, Nat.reduceMul, reduceCtorEq, Int.reduceNeg, Int.reduceSub, Int.reduceAdd, Int.reduceLE, Int.reduceLT, Int.reduceMul, Int.reduceToNat, Int.reduceEq, Int.reduceBEq, Int.reduceBNe, Nat.reduceEqDiff, hal]
  refine vk_loopR (γ := Nat) (fun i => { tm := [(1, .ptr 1 0), (2, .ptr 2 0), (3, .ref 4 i), (23, .sl 4 (aRows n.attrs)), (24, .int .i64 n.attrs.length), (25, .int .i64 i)], ob := [some (.arr e0 1 (iRows n.kids)), some (.box [.int .i64 n.id, .int .i64 n.owner, .int .i64 n.parent, .int .i64 n.kind, .str (fixR n.tag).1, .sl 2 (rws (fixR n.tag).2), .str n.key, .int .i64 n.slot, .sl 4 (aRows n.attrs), .sl 3 (hRows n.hooks), .ref 3 n.kids.length, .str (fixR n.text).1, .sl 2 (rws (fixR n.text).2)]), some (.box zN), some (.arr 3 1 (iRows n.kids)), some (.arr 41 4 (aRows ((n.attrs.take i).map fixA)))], base := 1 })
    (fun i => i ≤ n.attrs.length) (fun i => n.attrs.length - i) 0 (Nat.zero_le _) ?_ ?_
  · exact ⟨[some 0, some 1, some 2, some 3, none], rfl, rfl, rfl, rfl, ⟨.ptr rfl, .ptr rfl, .nref rfl, .same _ rfl, .same _ rfl, .same _ rfl, trivial⟩, ⟨⟨_, rfl, .arr (.refl _)⟩, ⟨⟨_, rfl, .box (.cons (.same _ rfl) (.cons (.same _ rfl) (.cons (.same _ rfl) (.cons (.same _ rfl) (.cons (.same _ rfl) (.cons (.same _ rfl) (.cons (.same _ rfl) (.cons (.same _ rfl) (.cons (.same _ rfl) (.cons (.same _ rfl) (.cons (.ref rfl) (.cons (.same _ rfl) (.cons (.same _ rfl) .nil)))))))))))))⟩, ⟨⟨_, rfl, .box (SubML.same _ rfl)⟩, ⟨⟨_, rfl, .arr (.refl _)⟩, ⟨⟨_, _, rfl⟩, trivial⟩⟩⟩⟩⟩⟩
  · rintro i hi R hN hE hR
    rcases Nat.lt_or_ge i n.attrs.length with hlt | hge
    · obtain ⟨a, ha⟩ : ∃ a, n.attrs[i]? = some a := ⟨_, List.getElem?_eq_getElem hlt⟩
      have hrow := attrs_get ha
      have hea := h.each a (List.mem_of_getElem? ha)
      have g1 := fix_raw hea.1 hb
      have g2 := fix_raw hea.2 hb
      have htk : n.attrs.take (i + 1) = n.attrs.take i ++ [a] := by rw [List.take_add_one, ha]; rfl
      have hfin := fun s' hs => hN s' (i + 1) hlt (by omega) hs
      have hacc : (aRows ((n.attrs.take i).map fixA)).length = i := by rw [aRows_length, List.length_map, List.length_take]; omega
      have hat : List.take i (aRows ((n.attrs.take i).map fixA)) = aRows ((n.attrs.take i).map fixA) := List.take_of_length_le (by omega)
      have hsn : aRows ((n.attrs.take i).map fixA) ++ [[.str (fixR a.1).1, .sl 2 (rws (fixR a.1).2), .str (fixR a.2).1, .sl 2 (rws (fixR a.2).2)]] = aRows ((n.attrs.take i).map fixA ++ [fixA a]) := aRows_snoc ((n.attrs.take i).map fixA) (fixA a)
      have hm : (n.attrs.take (i + 1)).map fixA = (n.attrs.take i).map fixA ++ [fixA a] := by rw [htk]; simp
      have hlen2 : (aRows ((n.attrs.take i).map fixA ++ [fixA a])).length = i + 1 := by rw [aRows_length]; simp; omega
      simp only [hm] at hfin
      clear hN
      simp (maxSteps := 4000000) (disch := omega) only [EW, Nat.reduceBEq, reduceIte, Nat.reduceAdd, Nat.reduceLeDiff, Nat.reduceLT, Nat.reduceSub, Nat.reduceMul, reduceCtorEq, Int.reduceNeg, Int.reduceSub, Int.reduceAdd, Int.reduceLE, Int.reduceLT, Int.reduceMul, Int.reduceToNat, Int.reduceEq, Int.reduceBEq, Int.reduceBNe, Nat.reduceEqDiff, hrow, hal]
      (refine vk_callR rfl ⟨_, .inl rfl, g1⟩ ?_; simp (maxSteps := 4000000) (disch := omega) only [EW, Nat.reduceBEq, reduceIte, Nat.reduceAdd, Nat.reduceLeDiff, Nat.reduceLT, Nat.reduceSub, Nat.reduceMul, reduceCtorEq, Int.reduceNeg, Int.reduceSub, Int.reduceAdd, Int.reduceLE, Int.reduceLT, Int.reduceMul, Int.reduceToNat, Int.reduceEq, Int.reduceBEq, Int.reduceBNe, Nat.reduceEqDiff])
      (refine vk_callR rfl ⟨_, .inl rfl, g2⟩ ?_; simp (maxSteps := 4000000) (disch := omega) only [EW, Nat.reduceBEq, reduceIte, Nat.reduceAdd, Nat.reduceLeDiff, Nat.reduceLT, Nat.reduceSub, Nat.reduceMul, reduceCtorEq, Int.reduceNeg, Int.reduceSub, Int.reduceAdd, Int.reduceLE, Int.reduceLT, Int.reduceMul, Int.reduceToNat, Int.reduceEq, Int.reduceBEq, Int.reduceBNe, Nat.reduceEqDiff, hacc, hat, hsn])
      refine hfin _ ?_
      exact ⟨[some 0, some 1, some 2, some 3, some 6], rfl, rfl, rfl, rfl, ⟨.ptr rfl, .ptr rfl, (.refE rfl hlen2), .same _ rfl, .same _ rfl, .same _ rfl, trivial⟩, ⟨⟨_, rfl, .arr (.refl _)⟩, ⟨⟨_, rfl, .box (.cons (.same _ rfl) (.cons (.same _ rfl) (.cons (.same _ rfl) (.cons (.same _ rfl) (.cons (.same _ rfl) (.cons (.same _ rfl) (.cons (.same _ rfl) (.cons (.same _ rfl) (.cons (.same _ rfl) (.cons (.same _ rfl) (.cons (.ref rfl) (.cons (.same _ rfl) (.cons (.same _ rfl) .nil)))))))))))))⟩, ⟨⟨_, rfl, .box (SubML.same _ rfl)⟩, ⟨⟨_, rfl, .arr (.refl _)⟩, ⟨⟨_, rfl, .arr (.refl _)⟩, trivial⟩⟩⟩⟩⟩⟩
    · have e : i = n.attrs.length := by omega
      subst e
      rw [List.take_length]
      have hacc : (aRows (n.attrs.map fixA)).length = n.attrs.length := by rw [aRows_length, List.length_map]
      clear hN
      simp (maxSteps := 4000000) (disch := omega) only [EW, Nat.reduceBEq, reduceIte, Nat.reduceAdd, Nat.reduceLeDiff, Nat.reduceLT, Nat.reduceSub, Nat.reduceMul, reduceCtorEq, Int.reduceNeg, Int.reduceSub, Int.reduceAdd, Int.reduceLE, Int.reduceLT, Int.reduceMul, Int.reduceToNat, Int.reduceEq, Int.reduceBEq, Int.reduceBNe, Nat.reduceEqDiff, hal]
      refine hE _ _ ?_
      clear hE hR
      simp (maxSteps := 4000000) (disch := omega) only [EW, Nat.reduceBEq, reduceIte, Nat.reduceAdd, Nat.reduceLeDiff, Nat.reduceLT, Nat.reduceSub, Nat.reduceMul, reduceCtorEq, Int.reduceNeg, Int.reduceSub, Int.reduceAdd, Int.reduceLE, Int.reduceLT, Int.reduceMul, Int.reduceToNat, Int.reduceEq, Int.reduceBEq, Int.reduceBNe, Nat.reduceEqDiff, zN]
      exact ⟨_, rfl, ⟨[some 0, some 3], rfl, rfl, rfl, rfl, ⟨.agg (.cons (.same _ rfl) (.cons (.same _ rfl) (.cons (.same _ rfl) (.cons (.same _ rfl) (.cons (.same _ rfl) (.cons (.same _ rfl) (.cons (.same _ rfl) (.cons (.same _ rfl) (.cons ((.lentA rfl hacc.symm)) (.cons (.same _ rfl) (.cons (.ref rfl) (.cons (.same _ rfl) (.cons (.same _ rfl) .nil))))))))))))), trivial⟩, ⟨⟨_, rfl, .arr (.refl _)⟩, ⟨⟨_, rfl, .arr (.refl _)⟩, trivial⟩⟩⟩⟩
end Go.Proofs.VL

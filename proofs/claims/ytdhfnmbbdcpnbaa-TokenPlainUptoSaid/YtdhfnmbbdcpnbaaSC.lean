/- Contracts of functions of the program, for what calls them, and the law that its name tells. -/
import Derived.Test.YtdhfnmbbdcpnbaaSB
import Derived.Test.YtdhfnmbbdcpnbaaCmark
namespace Go.Proofs.VL
open Go Go.RowKit
set_option maxRecDepth 100000
set_option maxHeartbeats 1000000
set_option linter.unusedSimpArgs false
set_option linter.unusedVariables false

/-- A labelled text, as it came. -/
def rawV (t : List UInt8) (rs : Runs) : V := .agg [.str t, .sl 2 (rowsOf rs)]

theorem rowsOf_get (rs : Runs) (i : Nat) : (rowsOf rs)[i]? = (rs[i]?).map fun r => [.int .i64 r.1, .int .i64 r.2] := by simp [rowsOf]

theorem fix (t : List UInt8) (rs : Runs) (ht : t.length ≤ 1000000000) (hrs : rs.length ≤ 1000000000) : VFn Try.prog 61 [rawV t rs] (rawV t (rle (orig t.length rs))) := by
  refine VFn.intro ok61 (Nat.le_of_ble_eq_true rfl) (vk_start ?_)
  simp only [vc61, rs61, rawV, wrap64, EV0, Nat.reduceBEq, reduceIte, Nat.reduceAdd, Nat.reduceLeDiff, Nat.reduceLT, Nat.reduceSub, Nat.reduceMul, reduceCtorEq, Int.reduceNeg, Int.reduceSub, Int.reduceAdd, Int.reduceLE, Int.reduceLT, Int.reduceMul, Int.reduceToNat, Int.reduceEq, Int.reduceBEq, Int.reduceBNe, Nat.reduceEqDiff]
  refine vk_loopR (γ := Nat) (fun i => { tm := [(15, .sl 2 (rowsOf rs)), (16, .int .i64 rs.length), (17, .int .i64 i), (4, .int .i64 (takeR t.length (rs.take i)).2), (2, .ptr 1 0), (3, .ptr 2 0)], ob := [some (.box [.str t, .sl 2 (rowsOf rs)]), some (.box [.str [], .nils]), some (.box [.str t, .ref 3 (rle (takeR t.length (rs.take i)).1).length]), some (.arr 116 2 (rowsOf (rle (takeR t.length (rs.take i)).1)))], base := 0 }) (fun i => i ≤ rs.length) (fun i => rs.length - i) 0 (Nat.zero_le _) ?_ ?_
  · exact ⟨[some 0, some 1, some 2, none], rfl, rfl, rfl, rfl, ⟨.same _ rfl, .of_eq (by simp [St.get, List.lookup, rowsOf_length]) rfl, .same _ rfl, .same _ rfl, .ptr rfl, .ptr rfl, trivial⟩,
      ⟨⟨_, rfl, .box (.cons (.same _ rfl) (.cons (.same _ rfl) .nil))⟩, ⟨_, rfl, .box (.cons (.same _ rfl) (.cons (.same _ rfl) .nil))⟩, ⟨_, rfl, .box (.cons (.same _ rfl) (.cons (.nref rfl) .nil))⟩, ⟨⟨_, _, rfl⟩, trivial⟩⟩⟩
  · intro i hi R hN hE hR
    have c0 : (0 ≤ (i : Int)) = True := by simp
    have hlen := takeR_len t.length (rs.take i)
    have hrl := rle_len (takeR t.length (rs.take i)).1
    have hmem : ∀ r ∈ rle (takeR t.length (rs.take i)).1, 0 ≤ r.1 ∧ r.1 ≤ 4000000000 := fun r hr => by have := rle_mem hr; omega
    rcases Nat.lt_or_ge i rs.length with hlt | hge
    · have c1 : ((i : Int) < (rs.length : Int)) = True := by simp; omega
      obtain ⟨⟨n, o⟩, hr⟩ : ∃ r, rs[i]? = some r := ⟨_, List.getElem?_eq_getElem hlt⟩
      have hrow : (rowsOf rs)[i]? = some [.int .i64 n, .int .i64 o] := by rw [rowsOf_get, hr]; rfl
      have w1 : IntKind.i64.wrap ((i : Int) + 1) = i + 1 := wrap64 (by omega) (by omega)
      have htk : rs.take (i + 1) = rs.take i ++ [(n, o)] := by rw [List.take_add_one, hr]; rfl
      have hsn := takeR_snoc t.length (rs.take i) (n, o)
      rw [← htk] at hsn
      generalize hK : (takeR t.length (rs.take i)).2 = K at *
      generalize hA : (takeR t.length (rs.take i)).1 = A at *
      have hmm : (if (K : Int) < if n < 0 then 0 else n then (K : Int) else if n < 0 then 0 else n) = ((min n.toNat K : Nat) : Int) := by
        split <;> split at * <;> omega
      have w2 : IntKind.i64.wrap ((K : Int) - ((min n.toNat K : Nat) : Int)) = ((K - min n.toNat K : Nat) : Int) := by rw [wrap64 (by omega) (by omega)]; omega
      simp only [wrap64, EV0, e_condB, Nat.reduceBEq, reduceIte, Nat.reduceAdd, Nat.reduceLeDiff, Nat.reduceLT, Nat.reduceSub, Nat.reduceMul, reduceCtorEq, Int.reduceNeg, Int.reduceSub, Int.reduceAdd, Int.reduceLE, Int.reduceLT, Int.reduceMul, Int.reduceToNat, Int.reduceEq, Int.reduceBEq, Int.reduceBNe, Nat.reduceEqDiff, c0, c1, hrow, hK, hA, hmm]
      refine vk_callR rfl ⟨[.int .i64 o], .inl rfl, fn82 o⟩ ?_
      simp only [e_mv, e_pick, e_bin, e_eqb, e_eqn, e_eqa, e_un, e_cint, e_cstr, e_build, e_nilck, e_fadr, e_fld, e_iadr, e_iadrA, e_idxs, e_idxa, e_slcs, e_slc, e_ext, e_fn, e_lns, e_ln, e_mm, e_alloc, e_box, e_load, e_bslI, e_bslO, e_msl, e_b2s, e_s2b, e_store, e_app, e_apps, e_guardB, vkV_some, vkV_none, vkW_some, vkW_none, vkO_some, vkO_none, vkC_bool, vkG_bool, vkG_undef, vkM_int, vkA_some, vkAs_some, evPick, evBslI, evBslO, evEqb, evEqn, evEqa, eqCells, eqCell, isNil, evCint, evCstr, evNilck, evFadr, evFld, rowPtr, evIadr, evIadrA, byteV, evIdxs, evIdxa, evSlcs, evSlc, boundsV, asI, evExt, evLns, evLn, evMm, mmInt, evB2s, evS2b, evStore, VO.evW.isCell, evBin, evInt, evStr, evUn, fillV, putCells, fillRows, loadFrom, loadV, objRows, appRows, srcRows, dropOb, V.ok, V.cells, idFree, tagN, tagD, St.putO, St.put, St.x, St.get, St.init, List.lookup, Nat.reduceBEq, loopQ, joinQ, RetV, RetC, resV, resL, RV.get, lendV, lendL, Q0, Q1, Q2, Q3, Q4, Q5, Q6, Q7, Q8, Q9, Q10, Q11, Q12, Q13, Q14, Q15, Q16, Q17, reduceIte, Q18, Q19, Q20, Q21, Q22, Q23, Q24, Q25, Q26, Nat.reduceAdd, Nat.reduceLeDiff, Nat.reduceLT, Nat.reduceSub, Nat.reduceMul, Q27, Q28, Q29, Q30, Q31, Q32, Q33, Q34, Q35, Q36, Q37, Q38, Q39, Q40, Q41, Q42, Q43, Q44, Q45, Q46, Q47, Q48, Q49, Q50, Q51, Q52, Q53, Q54, Q55, Q56, Q57, Q58, Q59, Q60, reduceCtorEq, Q61, Q62, Q63, Q64, Int.reduceNeg, Int.reduceSub, Int.reduceAdd, Int.reduceLE, Int.reduceLT, Int.reduceMul, Int.reduceToNat, Int.reduceEq, Int.reduceBEq, Int.reduceBNe, Nat.reduceEqDiff, Q65, Q66, Q67]
      refine vk_callW rfl (put_at _ _ rfl (by omega) (by omega) hmem) (by simp) ?_
      simp only [wrap64, EV0, e_condB, Nat.reduceBEq, reduceIte, Nat.reduceAdd, Nat.reduceLeDiff, Nat.reduceLT, Nat.reduceSub, Nat.reduceMul, reduceCtorEq, Int.reduceNeg, Int.reduceSub, Int.reduceAdd, Int.reduceLE, Int.reduceLT, Int.reduceMul, Int.reduceToNat, Int.reduceEq, Int.reduceBEq, Int.reduceBNe, Nat.reduceEqDiff, w1, w2, rle_putI, Int.toNat_natCast]
      refine hN _ (i + 1) (by omega) (by omega) ?_
      simp only [hsn]
      exact ⟨[some 0, some 1, some 2, some 5], rfl, rfl, rfl, rfl, ⟨.same _ rfl, .same _ rfl, .same _ rfl, .same _ rfl, .ptr rfl, .ptr rfl, trivial⟩,
        ⟨⟨_, rfl, .box (.cons (.same _ rfl) (.cons (.same _ rfl) .nil))⟩, ⟨_, rfl, .box (.cons (.same _ rfl) (.cons (.same _ rfl) .nil))⟩, ⟨_, rfl, .box (.cons (.same _ rfl) (.cons (.ref rfl) .nil))⟩, ⟨_, rfl, .arr (.refl _)⟩, trivial⟩⟩
    · have c1 : ((i : Int) < (rs.length : Int)) = False := by simp; omega
      have htk : rs.take i = rs := List.take_of_length_le hge
      simp only [wrap64, EV0, e_condB, Nat.reduceBEq, reduceIte, Nat.reduceAdd, Nat.reduceLeDiff, Nat.reduceLT, Nat.reduceSub, Nat.reduceMul, reduceCtorEq, Int.reduceNeg, Int.reduceSub, Int.reduceAdd, Int.reduceLE, Int.reduceLT, Int.reduceMul, Int.reduceToNat, Int.reduceEq, Int.reduceBEq, Int.reduceBNe, Nat.reduceEqDiff, c0, c1]
      refine hE _ _ ?_
      simp only [wrap64, EV0, e_condB, Nat.reduceBEq, reduceIte, Nat.reduceAdd, Nat.reduceLeDiff, Nat.reduceLT, Nat.reduceSub, Nat.reduceMul, reduceCtorEq, Int.reduceNeg, Int.reduceSub, Int.reduceAdd, Int.reduceLE, Int.reduceLT, Int.reduceMul, Int.reduceToNat, Int.reduceEq, Int.reduceBEq, Int.reduceBNe, Nat.reduceEqDiff, c0, c1]
      refine vk_call rfl (put_at _ _ rfl (by omega) (by omega) hmem) ?_
      simp only [wrap64, EV0, e_condB, Nat.reduceBEq, reduceIte, Nat.reduceAdd, Nat.reduceLeDiff, Nat.reduceLT, Nat.reduceSub, Nat.reduceMul, reduceCtorEq, Int.reduceNeg, Int.reduceSub, Int.reduceAdd, Int.reduceLE, Int.reduceLT, Int.reduceMul, Int.reduceToNat, Int.reduceEq, Int.reduceBEq, Int.reduceBNe, Nat.reduceEqDiff, rle_putI, Int.toNat_natCast]
      rw [htk, ← takeR_orig]
      exact ⟨_, _, rfl, lend_str rfl rfl, .refl _⟩

/-- Of(text, origin). -/
theorem mark_of (t : List UInt8) (o : Int) (ht : t.length ≤ 1000000000) : VFn Try.prog 59 [.str t, .int .i64 o] (rawV t (rle (List.replicate t.length (nearI o)))) := by
  refine VFn.intro ok59 (Nat.le_of_ble_eq_true rfl) (vk_start ?_)
  simp only [vc59, rs59, rawV, wrap64, EV0, e_condB, Nat.reduceBEq, reduceIte, Nat.reduceAdd, Nat.reduceLeDiff, Nat.reduceLT, Nat.reduceSub, Nat.reduceMul, reduceCtorEq, Int.reduceNeg, Int.reduceSub, Int.reduceAdd, Int.reduceLE, Int.reduceLT, Int.reduceMul, Int.reduceToNat, Int.reduceEq, Int.reduceBEq, Int.reduceBNe, Nat.reduceEqDiff]
  refine vk_call rfl (CallR.call ⟨[.int .i64 o], .inl rfl, fn82 o⟩) ?_
  simp only [wrap64, EV0, e_condB, Nat.reduceBEq, reduceIte, Nat.reduceAdd, Nat.reduceLeDiff, Nat.reduceLT, Nat.reduceSub, Nat.reduceMul, reduceCtorEq, Int.reduceNeg, Int.reduceSub, Int.reduceAdd, Int.reduceLE, Int.reduceLT, Int.reduceMul, Int.reduceToNat, Int.reduceEq, Int.reduceBEq, Int.reduceBNe, Nat.reduceEqDiff]
  refine vk_call rfl (put_nil_at _ _ _) ?_
  have h := rle_put [] t.length (nearI o)
  simp only [rle_nil, List.nil_append] at h
  simp only [wrap64, EV0, e_condB, Nat.reduceBEq, reduceIte, Nat.reduceAdd, Nat.reduceLeDiff, Nat.reduceLT, Nat.reduceSub, Nat.reduceMul, reduceCtorEq, Int.reduceNeg, Int.reduceSub, Int.reduceAdd, Int.reduceLE, Int.reduceLT, Int.reduceMul, Int.reduceToNat, Int.reduceEq, Int.reduceBEq, Int.reduceBNe, Nat.reduceEqDiff, h]
  exact ⟨_, _, rfl, lend_str rfl rfl, .refl _⟩
end Go.Proofs.VL

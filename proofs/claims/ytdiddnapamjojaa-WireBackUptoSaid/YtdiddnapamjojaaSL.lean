/- Contracts of functions of the program, for what calls them, and the law that its name tells. -/
import Derived.Test.YtdiddnapamjojaaSK
namespace Go.Proofs.VL
open Go Go.RowKit
set_option maxRecDepth 100000
set_option maxHeartbeats 2000000
set_option linter.unusedSimpArgs false
set_option linter.unusedVariables false

theorem same_of {t : List UInt8} {rs : Runs} {t' : List UInt8} {rs' : Runs} {l l' : LT} (h : lab t rs = l) (h' : lab t' rs' = l') (ht : t.length ≤ 1000000000) (hrs : rs.length ≤ 1000000000) (ht' : t'.length ≤ 1000000000) (hrs' : rs'.length ≤ 1000000000) :
    VFn Try.prog 31 [rawV t rs, rawV t' rs'] (.bool (decide (l = l'))) := by
  have := mark_same t rs t' rs' ht hrs ht' hrs'
  unfold sameB at this
  rw [h, h'] at this
  exact this

/-- Same of two that are told. -/
theorem same_str {l l' : LT} (h : Near l) (h' : Near l') (hl : l.length ≤ 1000000000) (hl' : l'.length ≤ 1000000000) :
    VFn Try.prog 31 [rawV (rawOf l).1 (rawOf l).2, rawV (rawOf l').1 (rawOf l').2] (.bool (decide (l = l'))) := by
  have h1 := rawOf_len l
  have h2 := rawOf_len l'
  exact same_of (lab_rawOf h) (lab_rawOf h') (by omega) (by omega) (by omega) (by omega)

/-- Cat of two. -/
theorem cat2 {t : List UInt8} {rs : Runs} {t' : List UInt8} {rs' : Runs} {l l' : LT} (h : lab t rs = l) (h' : lab t' rs' = l') (hl : l.length + l'.length ≤ 1000000000) (hrs : rs.length ≤ 1000000000) (hrs' : rs'.length ≤ 1000000000) :
    VFn Try.prog 22 [.sl 2 (rawRows [(t, rs), (t', rs')])] (strV (l ++ l')) := by
  have e1 : t.length = l.length := by rw [← h, lab_length]
  have e2 : t'.length = l'.length := by rw [← h', lab_length]
  exact cat_of (by simp [labs, h, h']) (by simp) (by intro s hs; simp at hs; rcases hs with rfl | rfl <;> simp only <;> omega) (by simp [catT]; omega)

theorem cat2_str {l l' : LT} (h : Near l) (h' : Near l') (hl : l.length + l'.length ≤ 1000000000) : VFn Try.prog 22 [.sl 2 (rawRows [rawOf l, rawOf l'])] (strV (l ++ l')) := by
  have h1 := rawOf_len l
  have h2 := rawOf_len l'
  exact cat2 (t := (rawOf l).1) (rs := (rawOf l).2) (t' := (rawOf l').1) (rs' := (rawOf l').2) (lab_rawOf h) (lab_rawOf h') hl (by omega) (by omega)

theorem words_str {l : LT} (h : Near l) (hl : l.length ≤ 10000000) : VFn Try.prog 39 [rawV (rawOf l).1 (rawOf l).2] (strV (escL 4 l)) := by
  have h1 := rawOf_len l
  exact words_of (lab_rawOf h) hl (by omega)
theorem value_str {l : LT} (h : Near l) (hl : l.length ≤ 10000000) : VFn Try.prog 40 [rawV (rawOf l).1 (rawOf l).2] (strV (escL 5 l)) := by
  have h1 := rawOf_len l
  exact value_of (lab_rawOf h) hl (by omega)
theorem worst_str {l : LT} (h : Near l) (hl : l.length ≤ 1000000000) : VFn Try.prog 41 [rawV (rawOf l).1 (rawOf l).2] (.int .i64 (worstO l)) := by
  have h1 := rawOf_len l
  exact mark_worst (lab_rawOf h) (by omega) (by omega)

theorem escapeParts (t : List UInt8) (rs : Runs) (t' : List UInt8) (rs' : Runs) (ht : t.length ≤ 1100000) (hrs : rs.length ≤ 1100000) (ht' : t'.length ≤ 1100000) (hrs' : rs'.length ≤ 1100000) :
    VFn Try.prog 8 [rawV t rs, rawV t' rs'] (.bool true) := by
  refine VFn.intro ok8 (Nat.le_of_ble_eq_true rfl) (vk_start ?_)
  obtain ⟨l, hl⟩ : ∃ l, lab t rs = l := ⟨_, rfl⟩
  obtain ⟨l', hl'⟩ : ∃ l, lab t' rs' = l := ⟨_, rfl⟩
  have n1 : Near l := hl ▸ lab_near t rs
  have n2 : Near l' := hl' ▸ lab_near t' rs'
  have e1 : l.length = t.length := by rw [← hl, lab_length]
  have e2 : l'.length = t'.length := by rw [← hl', lab_length]
  have n3 := n1.append n2
  have e3 : (l ++ l').length ≤ 2200000 := by simp; omega
  have a1 := escL_len 4 l
  have a2 := escL_len 4 l'
  have a3 := escL_len 4 (l ++ l')
  have b1 := escL_len 5 l
  have b2 := escL_len 5 l'
  have b3 := escL_len 5 (l ++ l')
  simp only [vc8, rs8, rawV, wrap64, EV0, e_condB, Nat.reduceBEq, reduceIte, Nat.reduceAdd, Nat.reduceLeDiff, Nat.reduceLT, Nat.reduceSub, Nat.reduceMul, reduceCtorEq, Int.reduceNeg, Int.reduceSub, Int.reduceAdd, Int.reduceLE, Int.reduceLT, Int.reduceMul, Int.reduceToNat, Int.reduceEq, Int.reduceBEq, Int.reduceBNe, Nat.reduceEqDiff]
  refine vk_call rfl (CallR.call ⟨[], .inl rfl, alive09⟩) ?_
  simp only [wrap64, EV0, e_condB, Nat.reduceBEq, reduceIte, Nat.reduceAdd, Nat.reduceLeDiff, Nat.reduceLT, Nat.reduceSub, Nat.reduceMul, reduceCtorEq, Int.reduceNeg, Int.reduceSub, Int.reduceAdd, Int.reduceLE, Int.reduceLT, Int.reduceMul, Int.reduceToNat, Int.reduceEq, Int.reduceBEq, Int.reduceBNe, Nat.reduceEqDiff]
  refine vk_callR rfl ⟨_, .inl rfl, cat2 hl hl' (by omega) (by omega) (by omega)⟩ ?_
  simp only [wrap64, EV0, e_condB, Nat.reduceBEq, reduceIte, Nat.reduceAdd, Nat.reduceLeDiff, Nat.reduceLT, Nat.reduceSub, Nat.reduceMul, reduceCtorEq, Int.reduceNeg, Int.reduceSub, Int.reduceAdd, Int.reduceLE, Int.reduceLT, Int.reduceMul, Int.reduceToNat, Int.reduceEq, Int.reduceBEq, Int.reduceBNe, Nat.reduceEqDiff, strV_raw, rawV]
  refine vk_callR rfl ⟨_, .inl rfl, words_str n3 (by omega)⟩ ?_
  simp only [wrap64, EV0, e_condB, Nat.reduceBEq, reduceIte, Nat.reduceAdd, Nat.reduceLeDiff, Nat.reduceLT, Nat.reduceSub, Nat.reduceMul, reduceCtorEq, Int.reduceNeg, Int.reduceSub, Int.reduceAdd, Int.reduceLE, Int.reduceLT, Int.reduceMul, Int.reduceToNat, Int.reduceEq, Int.reduceBEq, Int.reduceBNe, Nat.reduceEqDiff, strV_raw, rawV]
  refine vk_callR rfl ⟨_, .inl rfl, cat2 hl hl' (by omega) (by omega) (by omega)⟩ ?_
  simp only [wrap64, EV0, e_condB, Nat.reduceBEq, reduceIte, Nat.reduceAdd, Nat.reduceLeDiff, Nat.reduceLT, Nat.reduceSub, Nat.reduceMul, reduceCtorEq, Int.reduceNeg, Int.reduceSub, Int.reduceAdd, Int.reduceLE, Int.reduceLT, Int.reduceMul, Int.reduceToNat, Int.reduceEq, Int.reduceBEq, Int.reduceBNe, Nat.reduceEqDiff, strV_raw, rawV]
  refine vk_callR rfl ⟨_, .inl rfl, value_str n3 (by omega)⟩ ?_
  simp only [wrap64, EV0, e_condB, Nat.reduceBEq, reduceIte, Nat.reduceAdd, Nat.reduceLeDiff, Nat.reduceLT, Nat.reduceSub, Nat.reduceMul, reduceCtorEq, Int.reduceNeg, Int.reduceSub, Int.reduceAdd, Int.reduceLE, Int.reduceLT, Int.reduceMul, Int.reduceToNat, Int.reduceEq, Int.reduceBEq, Int.reduceBNe, Nat.reduceEqDiff, strV_raw, rawV]
  refine vk_callR rfl ⟨_, .inl rfl, words_of hl (by omega) (by omega)⟩ ?_
  simp only [wrap64, EV0, e_condB, Nat.reduceBEq, reduceIte, Nat.reduceAdd, Nat.reduceLeDiff, Nat.reduceLT, Nat.reduceSub, Nat.reduceMul, reduceCtorEq, Int.reduceNeg, Int.reduceSub, Int.reduceAdd, Int.reduceLE, Int.reduceLT, Int.reduceMul, Int.reduceToNat, Int.reduceEq, Int.reduceBEq, Int.reduceBNe, Nat.reduceEqDiff, strV_raw, rawV]
  refine vk_callR rfl ⟨_, .inl rfl, words_of hl' (by omega) (by omega)⟩ ?_
  simp only [wrap64, EV0, e_condB, Nat.reduceBEq, reduceIte, Nat.reduceAdd, Nat.reduceLeDiff, Nat.reduceLT, Nat.reduceSub, Nat.reduceMul, reduceCtorEq, Int.reduceNeg, Int.reduceSub, Int.reduceAdd, Int.reduceLE, Int.reduceLT, Int.reduceMul, Int.reduceToNat, Int.reduceEq, Int.reduceBEq, Int.reduceBNe, Nat.reduceEqDiff, strV_raw, rawV]
  refine vk_callR rfl ⟨_, .inl rfl, cat2_str (escL_near n1) (escL_near n2) (by omega)⟩ ?_
  simp only [wrap64, EV0, e_condB, Nat.reduceBEq, reduceIte, Nat.reduceAdd, Nat.reduceLeDiff, Nat.reduceLT, Nat.reduceSub, Nat.reduceMul, reduceCtorEq, Int.reduceNeg, Int.reduceSub, Int.reduceAdd, Int.reduceLE, Int.reduceLT, Int.reduceMul, Int.reduceToNat, Int.reduceEq, Int.reduceBEq, Int.reduceBNe, Nat.reduceEqDiff, strV_raw, rawV]
  refine vk_callR rfl ⟨_, .inl rfl, same_str (escL_near n3) ((escL_near n1).append (escL_near n2)) (by omega) (by simp; omega)⟩ ?_
  have q1 : decide (escL 4 (l ++ l') = escL 4 l ++ escL 4 l') = true := by rw [decide_eq_true_eq]; exact escL_append 4 l l'
  simp only [wrap64, EV0, e_condB, Nat.reduceBEq, reduceIte, Nat.reduceAdd, Nat.reduceLeDiff, Nat.reduceLT, Nat.reduceSub, Nat.reduceMul, reduceCtorEq, Int.reduceNeg, Int.reduceSub, Int.reduceAdd, Int.reduceLE, Int.reduceLT, Int.reduceMul, Int.reduceToNat, Int.reduceEq, Int.reduceBEq, Int.reduceBNe, Nat.reduceEqDiff, q1]
  refine vk_callR rfl ⟨_, .inl rfl, value_of hl (by omega) (by omega)⟩ ?_
  simp only [wrap64, EV0, e_condB, Nat.reduceBEq, reduceIte, Nat.reduceAdd, Nat.reduceLeDiff, Nat.reduceLT, Nat.reduceSub, Nat.reduceMul, reduceCtorEq, Int.reduceNeg, Int.reduceSub, Int.reduceAdd, Int.reduceLE, Int.reduceLT, Int.reduceMul, Int.reduceToNat, Int.reduceEq, Int.reduceBEq, Int.reduceBNe, Nat.reduceEqDiff, strV_raw, rawV]
  refine vk_callR rfl ⟨_, .inl rfl, value_of hl' (by omega) (by omega)⟩ ?_
  simp only [wrap64, EV0, e_condB, Nat.reduceBEq, reduceIte, Nat.reduceAdd, Nat.reduceLeDiff, Nat.reduceLT, Nat.reduceSub, Nat.reduceMul, reduceCtorEq, Int.reduceNeg, Int.reduceSub, Int.reduceAdd, Int.reduceLE, Int.reduceLT, Int.reduceMul, Int.reduceToNat, Int.reduceEq, Int.reduceBEq, Int.reduceBNe, Nat.reduceEqDiff, strV_raw, rawV]
  refine vk_callR rfl ⟨_, .inl rfl, cat2_str (escL_near n1) (escL_near n2) (by omega)⟩ ?_
  simp only [wrap64, EV0, e_condB, Nat.reduceBEq, reduceIte, Nat.reduceAdd, Nat.reduceLeDiff, Nat.reduceLT, Nat.reduceSub, Nat.reduceMul, reduceCtorEq, Int.reduceNeg, Int.reduceSub, Int.reduceAdd, Int.reduceLE, Int.reduceLT, Int.reduceMul, Int.reduceToNat, Int.reduceEq, Int.reduceBEq, Int.reduceBNe, Nat.reduceEqDiff, strV_raw, rawV]
  refine vk_callR rfl ⟨_, .inl rfl, same_str (escL_near n3) ((escL_near n1).append (escL_near n2)) (by omega) (by simp; omega)⟩ ?_
  have q2 : decide (escL 5 (l ++ l') = escL 5 l ++ escL 5 l') = true := by rw [decide_eq_true_eq]; exact escL_append 5 l l'
  simp only [wrap64, EV0, e_condB, Nat.reduceBEq, reduceIte, Nat.reduceAdd, Nat.reduceLeDiff, Nat.reduceLT, Nat.reduceSub, Nat.reduceMul, reduceCtorEq, Int.reduceNeg, Int.reduceSub, Int.reduceAdd, Int.reduceLE, Int.reduceLT, Int.reduceMul, Int.reduceToNat, Int.reduceEq, Int.reduceBEq, Int.reduceBNe, Nat.reduceEqDiff, q2]
  refine vk_callR rfl ⟨_, .inl rfl, worst_str (escL_near n3) (by omega)⟩ ?_
  simp only [wrap64, EV0, e_condB, Nat.reduceBEq, reduceIte, Nat.reduceAdd, Nat.reduceLeDiff, Nat.reduceLT, Nat.reduceSub, Nat.reduceMul, reduceCtorEq, Int.reduceNeg, Int.reduceSub, Int.reduceAdd, Int.reduceLE, Int.reduceLT, Int.reduceMul, Int.reduceToNat, Int.reduceEq, Int.reduceBEq, Int.reduceBNe, Nat.reduceEqDiff]
  refine vk_callR rfl ⟨_, .inl rfl, cat2 hl hl' (by omega) (by omega) (by omega)⟩ ?_
  simp only [wrap64, EV0, e_condB, Nat.reduceBEq, reduceIte, Nat.reduceAdd, Nat.reduceLeDiff, Nat.reduceLT, Nat.reduceSub, Nat.reduceMul, reduceCtorEq, Int.reduceNeg, Int.reduceSub, Int.reduceAdd, Int.reduceLE, Int.reduceLT, Int.reduceMul, Int.reduceToNat, Int.reduceEq, Int.reduceBEq, Int.reduceBNe, Nat.reduceEqDiff, strV_raw, rawV]
  refine vk_callR rfl ⟨_, .inl rfl, worst_str n3 (by omega)⟩ ?_
  simp only [wrap64, EV0, e_condB, Nat.reduceBEq, reduceIte, Nat.reduceAdd, Nat.reduceLeDiff, Nat.reduceLT, Nat.reduceSub, Nat.reduceMul, reduceCtorEq, Int.reduceNeg, Int.reduceSub, Int.reduceAdd, Int.reduceLE, Int.reduceLT, Int.reduceMul, Int.reduceToNat, Int.reduceEq, Int.reduceBEq, Int.reduceBNe, Nat.reduceEqDiff, worst_esc]
  exact ⟨_, _, rfl, rfl, .refl _⟩
end Go.Proofs.VL

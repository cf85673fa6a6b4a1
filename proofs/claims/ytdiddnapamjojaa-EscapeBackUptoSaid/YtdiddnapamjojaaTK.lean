/- Contracts of functions of the program, for what calls them, and the law that its name tells. -/
import Derived.Test.YtdiddnapamjojaaTJ
namespace Go.Proofs.VL
open Go Go.RowKit
set_option maxRecDepth 100000
set_option maxHeartbeats 2000000
set_option linter.unusedSimpArgs false
set_option linter.unusedVariables false
attribute [local irreducible] vwp vk

theorem escapeBack (t : List UInt8) (rs : Runs) (ht : t.length ≤ 1100000) (hrs : rs.length ≤ 1100000) :
    VFn Try.prog 16 [rawV t rs] (.bool true) := by
  refine VFn.intro ok16 (Nat.le_of_ble_eq_true rfl) (vk_start ?_)
  obtain ⟨l, hl⟩ : ∃ l, lab t rs = l := ⟨_, rfl⟩
  have n1 : Near l := hl ▸ lab_near t rs
  have e1 : l.length = t.length := by rw [← hl, lab_length]
  have hw := words_of hl (by omega) (by omega)
  have hv := value_of hl (by omega) (by omega)
  have nw := escL_near (n := 4) n1
  have nv := escL_near (n := 5) n1
  have lw := escL_len 4 l
  have lv := escL_len 5 l
  have dw := dec_esc (n := 4) (by decide) n1
  have dv := dec_esc (n := 5) (by decide) n1
  have rw' := rawOf_len (escL 4 l)
  have rv' := rawOf_len (escL 5 l)
  have dhw := u_decode (lab_rawOf nw) (by omega) (by omega)
  have dhv := u_decode (lab_rawOf nv) (by omega) (by omega)
  rw [dw] at dhw
  rw [dv] at dhv
  have hsame := same_of (lab_rawOf n1) hl (by rw [(rawOf_len l).1]; omega) (by have := (rawOf_len l).2; omega) (by omega) (by omega)
  rw [show decide (l = l) = true by simp] at hsame
  have i1 := seek_index1 (rawOf (escL 4 l)).1 (rawOf (escL 4 l)).2 60 (by omega)
  have i2 := seek_index1 (rawOf (escL 4 l)).1 (rawOf (escL 4 l)).2 62 (by omega)
  have q1 : (60 : UInt8) ∉ (rawOf (escL 4 l)).1 := esc_free (fun b => (esc_lt 4 (by decide) b).1)
  have q2 : (62 : UInt8) ∉ (rawOf (escL 4 l)).1 := esc_free (fun b => (esc_lt 4 (by decide) b).2.1)
  rw [index_none q1] at i1
  rw [index_none q2] at i2
  have p1 : (60 : UInt8) ∉ (rawOf (escL 5 l)).1 := esc_free (fun b => (esc_lt 5 (by decide) b).1)
  have p2 : (62 : UInt8) ∉ (rawOf (escL 5 l)).1 := esc_free (fun b => (esc_lt 5 (by decide) b).2.1)
  have p3 : (13 : UInt8) ∉ (rawOf (escL 5 l)).1 := esc_free (fun b => (esc_lt 5 (by decide) b).2.2.1)
  have p4 : (34 : UInt8) ∉ (rawOf (escL 5 l)).1 := esc_free (fun b => (esc_lt 5 (by decide) b).2.2.2 (by decide))
  generalize escL 4 l = W at *
  generalize escL 5 l = U at *
  simp (disch := omega) only [EW, Nat.reduceBEq, reduceIte, Nat.reduceAdd, Nat.reduceLeDiff, Nat.reduceLT, Nat.reduceSub, Nat.reduceMul, reduceCtorEq, Int.reduceNeg, Int.reduceSub, Int.reduceAdd, Int.reduceLE, Int.reduceLT, Int.reduceMul, Int.reduceToNat, Int.reduceEq, Int.reduceBEq, Int.reduceBNe, Nat.reduceEqDiff, vc16, rs16, rawV]
  (refine vk_callR rfl ⟨_, .inl rfl, alive09⟩ ?_; simp (disch := omega) only [EW, Nat.reduceBEq, reduceIte, Nat.reduceAdd, Nat.reduceLeDiff, Nat.reduceLT, Nat.reduceSub, Nat.reduceMul, reduceCtorEq, Int.reduceNeg, Int.reduceSub, Int.reduceAdd, Int.reduceLE, Int.reduceLT, Int.reduceMul, Int.reduceToNat, Int.reduceEq, Int.reduceBEq, Int.reduceBNe, Nat.reduceEqDiff])
  (refine vk_callR rfl ⟨_, .inl rfl, hw⟩ ?_; simp (disch := omega) only [EW, Nat.reduceBEq, reduceIte, Nat.reduceAdd, Nat.reduceLeDiff, Nat.reduceLT, Nat.reduceSub, Nat.reduceMul, reduceCtorEq, Int.reduceNeg, Int.reduceSub, Int.reduceAdd, Int.reduceLE, Int.reduceLT, Int.reduceMul, Int.reduceToNat, Int.reduceEq, Int.reduceBEq, Int.reduceBNe, Nat.reduceEqDiff, strV_raw, rawV])
  (refine vk_callR rfl ⟨_, .inl rfl, hv⟩ ?_; simp (disch := omega) only [EW, Nat.reduceBEq, reduceIte, Nat.reduceAdd, Nat.reduceLeDiff, Nat.reduceLT, Nat.reduceSub, Nat.reduceMul, reduceCtorEq, Int.reduceNeg, Int.reduceSub, Int.reduceAdd, Int.reduceLE, Int.reduceLT, Int.reduceMul, Int.reduceToNat, Int.reduceEq, Int.reduceBEq, Int.reduceBNe, Nat.reduceEqDiff, strV_raw, rawV])
  refine vk_loopR (γ := Nat) (fun i => { tm := [(1, .ptr 0 0), (3, .ptr 1 0), (4, .ptr 2 0), (5, .int .i64 i)], ob := [some (.box [.str t, .sl 2 (rowsOf rs)]), some (.box [.str (rawOf W).1, .sl 2 (rowsOf (rawOf W).2)]), some (.box [.str (rawOf U).1, .sl 2 (rowsOf (rawOf U).2)])], base := 0 })
    (fun i => i ≤ (rawOf U).1.length) (fun i => (rawOf U).1.length - i) 0 (Nat.zero_le _) ?_ ?_
  · exact ⟨[some 0, some 1, some 2], rfl, rfl, rfl, rfl, ⟨.ptr rfl, .ptr rfl, .ptr rfl, .same _ rfl, trivial⟩, ⟨⟨_, rfl, .box (.cons (.same _ rfl) (.cons (.same _ rfl) .nil))⟩, ⟨⟨_, rfl, .box (.cons (.same _ rfl) (.cons (.same _ rfl) .nil))⟩, ⟨⟨_, rfl, .box (.cons (.same _ rfl) (.cons (.same _ rfl) .nil))⟩, trivial⟩⟩⟩⟩
  · rintro i hi R hN hE hR
    rcases Nat.lt_or_ge i (rawOf U).1.length with hlt | hge
    · obtain ⟨c, hc⟩ : ∃ x, (rawOf U).1[i]? = some x := ⟨_, List.getElem?_eq_getElem hlt⟩
      have hm := List.mem_of_getElem? hc
      have hin := ref01_in c [60, 62, 13, 34] (by decide)
      have hf : ([60, 62, 13, 34] : List UInt8).contains c = false := by
        simp only [List.contains_eq_mem, decide_eq_false_iff_not, List.mem_cons, List.not_mem_nil, or_false, not_or]
        refine ⟨?_, ?_, ?_, ?_⟩ <;> (rintro rfl; first | exact p1 hm | exact p2 hm | exact p3 hm | exact p4 hm)
      rw [hf] at hin
      simp (disch := omega) only [EW, Nat.reduceBEq, reduceIte, Nat.reduceAdd, Nat.reduceLeDiff, Nat.reduceLT, Nat.reduceSub, Nat.reduceMul, reduceCtorEq, Int.reduceNeg, Int.reduceSub, Int.reduceAdd, Int.reduceLE, Int.reduceLT, Int.reduceMul, Int.reduceToNat, Int.reduceEq, Int.reduceBEq, Int.reduceBNe, Nat.reduceEqDiff, hc]
      (refine vk_callR rfl ⟨_, .inl rfl, hin⟩ ?_; simp (disch := omega) only [EW, Nat.reduceBEq, reduceIte, Nat.reduceAdd, Nat.reduceLeDiff, Nat.reduceLT, Nat.reduceSub, Nat.reduceMul, reduceCtorEq, Int.reduceNeg, Int.reduceSub, Int.reduceAdd, Int.reduceLE, Int.reduceLT, Int.reduceMul, Int.reduceToNat, Int.reduceEq, Int.reduceBEq, Int.reduceBNe, Nat.reduceEqDiff])
      refine hN _ (i + 1) hlt (by omega) ?_
      exact ⟨[some 0, some 1, some 2], rfl, rfl, rfl, rfl, ⟨.ptr rfl, .ptr rfl, .ptr rfl, .same _ rfl, trivial⟩, ⟨⟨_, rfl, .box (.cons (.same _ rfl) (.cons (.same _ rfl) .nil))⟩, ⟨⟨_, rfl, .box (.cons (.same _ rfl) (.cons (.same _ rfl) .nil))⟩, ⟨⟨_, rfl, .box (.cons (.same _ rfl) (.cons (.same _ rfl) .nil))⟩, trivial⟩⟩⟩⟩
    · simp (disch := omega) only [EW, Nat.reduceBEq, reduceIte, Nat.reduceAdd, Nat.reduceLeDiff, Nat.reduceLT, Nat.reduceSub, Nat.reduceMul, reduceCtorEq, Int.reduceNeg, Int.reduceSub, Int.reduceAdd, Int.reduceLE, Int.reduceLT, Int.reduceMul, Int.reduceToNat, Int.reduceEq, Int.reduceBEq, Int.reduceBNe, Nat.reduceEqDiff]
      refine hE _ _ ?_
      simp (disch := omega) only [EW, Nat.reduceBEq, reduceIte, Nat.reduceAdd, Nat.reduceLeDiff, Nat.reduceLT, Nat.reduceSub, Nat.reduceMul, reduceCtorEq, Int.reduceNeg, Int.reduceSub, Int.reduceAdd, Int.reduceLE, Int.reduceLT, Int.reduceMul, Int.reduceToNat, Int.reduceEq, Int.reduceBEq, Int.reduceBNe, Nat.reduceEqDiff]
      (refine vk_callR rfl ⟨_, .inl rfl, dhw⟩ ?_; simp (disch := omega) only [EW, Nat.reduceBEq, reduceIte, Nat.reduceAdd, Nat.reduceLeDiff, Nat.reduceLT, Nat.reduceSub, Nat.reduceMul, reduceCtorEq, Int.reduceNeg, Int.reduceSub, Int.reduceAdd, Int.reduceLE, Int.reduceLT, Int.reduceMul, Int.reduceToNat, Int.reduceEq, Int.reduceBEq, Int.reduceBNe, Nat.reduceEqDiff, strV_raw, rawV])
      (refine vk_callR rfl ⟨_, .inl rfl, hsame⟩ ?_; simp (disch := omega) only [EW, Nat.reduceBEq, reduceIte, Nat.reduceAdd, Nat.reduceLeDiff, Nat.reduceLT, Nat.reduceSub, Nat.reduceMul, reduceCtorEq, Int.reduceNeg, Int.reduceSub, Int.reduceAdd, Int.reduceLE, Int.reduceLT, Int.reduceMul, Int.reduceToNat, Int.reduceEq, Int.reduceBEq, Int.reduceBNe, Nat.reduceEqDiff])
      (refine vk_callR rfl ⟨_, .inl rfl, dhv⟩ ?_; simp (disch := omega) only [EW, Nat.reduceBEq, reduceIte, Nat.reduceAdd, Nat.reduceLeDiff, Nat.reduceLT, Nat.reduceSub, Nat.reduceMul, reduceCtorEq, Int.reduceNeg, Int.reduceSub, Int.reduceAdd, Int.reduceLE, Int.reduceLT, Int.reduceMul, Int.reduceToNat, Int.reduceEq, Int.reduceBEq, Int.reduceBNe, Nat.reduceEqDiff, strV_raw, rawV])
      (refine vk_callR rfl ⟨_, .inl rfl, hsame⟩ ?_; simp (disch := omega) only [EW, Nat.reduceBEq, reduceIte, Nat.reduceAdd, Nat.reduceLeDiff, Nat.reduceLT, Nat.reduceSub, Nat.reduceMul, reduceCtorEq, Int.reduceNeg, Int.reduceSub, Int.reduceAdd, Int.reduceLE, Int.reduceLT, Int.reduceMul, Int.reduceToNat, Int.reduceEq, Int.reduceBEq, Int.reduceBNe, Nat.reduceEqDiff])
      (refine vk_callR rfl ⟨_, .inl rfl, i1⟩ ?_; simp (disch := omega) only [EW, Nat.reduceBEq, reduceIte, Nat.reduceAdd, Nat.reduceLeDiff, Nat.reduceLT, Nat.reduceSub, Nat.reduceMul, reduceCtorEq, Int.reduceNeg, Int.reduceSub, Int.reduceAdd, Int.reduceLE, Int.reduceLT, Int.reduceMul, Int.reduceToNat, Int.reduceEq, Int.reduceBEq, Int.reduceBNe, Nat.reduceEqDiff])
      (refine vk_callR rfl ⟨_, .inl rfl, i2⟩ ?_; simp (disch := omega) only [EW, Nat.reduceBEq, reduceIte, Nat.reduceAdd, Nat.reduceLeDiff, Nat.reduceLT, Nat.reduceSub, Nat.reduceMul, reduceCtorEq, Int.reduceNeg, Int.reduceSub, Int.reduceAdd, Int.reduceLE, Int.reduceLT, Int.reduceMul, Int.reduceToNat, Int.reduceEq, Int.reduceBEq, Int.reduceBNe, Nat.reduceEqDiff])
      exact fin rfl
end Go.Proofs.VL

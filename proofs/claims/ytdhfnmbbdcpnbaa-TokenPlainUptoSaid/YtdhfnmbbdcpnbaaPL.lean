/- Contracts of functions of the program, for what calls them, and the law that its name tells. -/
import Derived.Test.YtdhfnmbbdcpnbaaPK
import Derived.Test.YtdhfnmbbdcpnbaaPO
namespace Go.Proofs.VL
open Go Go.RowKit
set_option maxRecDepth 100000
set_option maxHeartbeats 4000000
set_option linter.unusedSimpArgs false
set_option linter.unusedVariables false
attribute [local irreducible] vwp vk

/-- A token of data. -/
def dataC (l : LT) : List V := [.int .i64 3, .str [], .nils, .nils, .bool false, .str (rawOf l).1, .sl 2 (rowsOf (rawOf l).2)]

theorem mk_text0 (t : List UInt8) (rs : Runs) (a : Int) (l : LT) (hl : l ≠ []) :
    VCall Try.prog 76 [.ptr 0 0, strV l] [some (.box (mkC t rs a .nils))] (.tup []) [some (.box (mkC t rs a (.ref 1 1))), some (.arr 70 7 [dataC l])] := by
  refine VCall.intro ok76 (Nat.le_of_ble_eq_true rfl) (vk_start ?_)
  have b1 : ((rawOf l).1 == []) = false := by
    cases l with
    | nil => exact absurd rfl hl
    | cons c r => rfl
  simp (maxSteps := 4000000) (disch := omega) only [EW, Nat.reduceBEq, reduceIte, Nat.reduceAdd, Nat.reduceLeDiff, Nat.reduceLT, Nat.reduceSub, Nat.reduceMul, reduceCtorEq, Int.reduceNeg, Int.reduceSub, Int.reduceAdd, Int.reduceLE, Int.reduceLT, Int.reduceMul, Int.reduceToNat, Int.reduceEq, Int.reduceBEq, Int.reduceBNe, Nat.reduceEqDiff, vc76, rs76, mkC, strV_raw, rawV, b1]
  rw [vkA_some]
  refine ⟨⟨by simp only [List.length_nil, List.length_cons]; decide, by simp only [List.length_nil, List.length_cons]; decide⟩, ?_⟩
  simp (maxSteps := 4000000) (disch := omega) only [EW, Nat.reduceBEq, reduceIte, Nat.reduceAdd, Nat.reduceLeDiff, Nat.reduceLT, Nat.reduceSub, Nat.reduceMul, reduceCtorEq, Int.reduceNeg, Int.reduceSub, Int.reduceAdd, Int.reduceLE, Int.reduceLT, Int.reduceMul, Int.reduceToNat, Int.reduceEq, Int.reduceBEq, Int.reduceBNe, Nat.reduceEqDiff, dataC]
  exact ⟨_, rfl, ⟨[some 0, some 2], rfl, rfl, rfl, rfl, ⟨.same _ rfl, trivial⟩, ⟨⟨_, rfl, .box (.cons (.same _ rfl) (.cons (.same _ rfl) (.cons (.same _ rfl) (.cons (.ref rfl) .nil))))⟩, ⟨⟨_, rfl, .arr (.refl _)⟩, trivial⟩⟩⟩⟩

theorem tokens_plain (l : LT) (hn : Near l) (hp : ∀ c ∈ l, c.1 ≠ 60 ∧ c.1 ≠ 38) (hl : l.length ≤ 100000000) : VFn Try.prog 27 [strV l] (.sl 7 (if l = [] then [] else [dataC l])) := by
  refine VFn.intro ok27 (Nat.le_of_ble_eq_true rfl) (vk_start ?_)
  have hlab : lab (rawOf l).1 (rawOf l).2 = l := lab_str hn
  obtain ⟨q1, q2⟩ := rawOf_len l
  have hraw : (rawOf l).1 = l.map (·.1) := rfl
  have htake := rd_take (rawOf l).1 (rawOf l).2 l hlab [60] 0 (rawOf l).1.length (Nat.zero_le _) (Nat.le_refl _) (fun i c _ _ hc => by
      rw [hraw] at hc
      obtain ⟨x, hx, rfl⟩ := List.mem_map.1 (List.mem_of_getElem? hc)
      have := (hp x hx).1
      rw [List.contains_cons, List.contains_nil, Bool.or_false, beq_eq_false_iff_ne]; exact this) (fun c hc => by rw [List.getElem?_eq_none (Nat.le_refl _)] at hc; cases hc) (by omega) (by omega)
  rw [q1, List.take_length, List.drop_zero] at htake
  have hdec : VFn Try.prog 77 [strV l] (strV l) := decode_plain (rawOf l).1 (rawOf l).2 l hlab (fun c hc => by
      rw [hraw] at hc
      obtain ⟨x, hx, rfl⟩ := List.mem_map.1 hc
      exact (hp x hx).2) (by omega) (by omega)
  simp (maxSteps := 4000000) (disch := omega) only [EW, Nat.reduceBEq, reduceIte, Nat.reduceAdd, Nat.reduceLeDiff, Nat.reduceLT, Nat.reduceSub, Nat.reduceMul, reduceCtorEq, Int.reduceNeg, Int.reduceSub, Int.reduceAdd, Int.reduceLE, Int.reduceLT, Int.reduceMul, Int.reduceToNat, Int.reduceEq, Int.reduceBEq, Int.reduceBNe, Nat.reduceEqDiff, vc27, rs27, strV_raw, rawV]
  refine vk_loopR (γ := Bool) (fun b => match b with
      | false => { tm := [(3, .ptr 1 0)], ob := [none, some (.box (mkC (rawOf l).1 (rawOf l).2 0 .nils))], base := 0 }
      | true => { tm := [(3, .ptr 1 0)], ob := [none, some (.box (mkC (rawOf l).1 (rawOf l).2 l.length (.ref 2 1))), some (.arr 70 7 [dataC l])], base := 0 })
    (fun b => b = true → l ≠ []) (fun b => match b with | false => 1 | true => 0) false (fun h => by cases h) ?_ ?_
  · exact ⟨[some 0, some 1], rfl, rfl, rfl, rfl, ⟨.ptr rfl, trivial⟩, ⟨⟨_, rfl, .box (.cons (.same _ rfl) (.cons (.same _ rfl) (.cons (.same _ rfl) (.cons (.same _ rfl) .nil))))⟩, trivial⟩⟩
  · rintro b hb R hN hE hR
    cases b with
    | false =>
      by_cases hl0 : l = []
      · subst hl0
        simp (maxSteps := 4000000) (disch := omega) only [EW, Nat.reduceBEq, reduceIte, Nat.reduceAdd, Nat.reduceLeDiff, Nat.reduceLT, Nat.reduceSub, Nat.reduceMul, reduceCtorEq, Int.reduceNeg, Int.reduceSub, Int.reduceAdd, Int.reduceLE, Int.reduceLT, Int.reduceMul, Int.reduceToNat, Int.reduceEq, Int.reduceBEq, Int.reduceBNe, Nat.reduceEqDiff]
        refine vk_call rfl (rd_done (t := (rawOf []).1) (rs := (rawOf []).2) (a := 0) (x := .nils) rfl) ?_
        have hd : decide (((rawOf []).1.length : Int) ≤ 0) = true := rfl
        simp (maxSteps := 4000000) (disch := omega) only [EW, Nat.reduceBEq, reduceIte, Nat.reduceAdd, Nat.reduceLeDiff, Nat.reduceLT, Nat.reduceSub, Nat.reduceMul, reduceCtorEq, Int.reduceNeg, Int.reduceSub, Int.reduceAdd, Int.reduceLE, Int.reduceLT, Int.reduceMul, Int.reduceToNat, Int.reduceEq, Int.reduceBEq, Int.reduceBNe, Nat.reduceEqDiff, hd]
        refine hE _ _ ?_
        simp (maxSteps := 4000000) (disch := omega) only [EW, Nat.reduceBEq, reduceIte, Nat.reduceAdd, Nat.reduceLeDiff, Nat.reduceLT, Nat.reduceSub, Nat.reduceMul, reduceCtorEq, Int.reduceNeg, Int.reduceSub, Int.reduceAdd, Int.reduceLE, Int.reduceLT, Int.reduceMul, Int.reduceToNat, Int.reduceEq, Int.reduceBEq, Int.reduceBNe, Nat.reduceEqDiff, mkC]
        exact ⟨_, .nils, rfl, rfl, .nil _⟩
      · simp (maxSteps := 4000000) (disch := omega) only [EW, Nat.reduceBEq, reduceIte, Nat.reduceAdd, Nat.reduceLeDiff, Nat.reduceLT, Nat.reduceSub, Nat.reduceMul, reduceCtorEq, Int.reduceNeg, Int.reduceSub, Int.reduceAdd, Int.reduceLE, Int.reduceLT, Int.reduceMul, Int.reduceToNat, Int.reduceEq, Int.reduceBEq, Int.reduceBNe, Nat.reduceEqDiff]
        refine vk_call rfl (rd_done (t := (rawOf l).1) (rs := (rawOf l).2) (a := 0) (x := .nils) rfl) ?_
        have hlp : 0 < l.length := List.length_pos_iff.2 hl0
        have hd : decide (((rawOf l).1.length : Int) ≤ 0) = false := by rw [q1]; simp; omega
        simp (maxSteps := 4000000) (disch := omega) only [EW, Nat.reduceBEq, reduceIte, Nat.reduceAdd, Nat.reduceLeDiff, Nat.reduceLT, Nat.reduceSub, Nat.reduceMul, reduceCtorEq, Int.reduceNeg, Int.reduceSub, Int.reduceAdd, Int.reduceLE, Int.reduceLT, Int.reduceMul, Int.reduceToNat, Int.reduceEq, Int.reduceBEq, Int.reduceBNe, Nat.reduceEqDiff, hd]
        refine vk_call rfl (box_at htake rfl rfl rfl rfl rfl) ?_
        simp (maxSteps := 4000000) (disch := omega) only [EW, Nat.reduceBEq, reduceIte, Nat.reduceAdd, Nat.reduceLeDiff, Nat.reduceLT, Nat.reduceSub, Nat.reduceMul, reduceCtorEq, Int.reduceNeg, Int.reduceSub, Int.reduceAdd, Int.reduceLE, Int.reduceLT, Int.reduceMul, Int.reduceToNat, Int.reduceEq, Int.reduceBEq, Int.reduceBNe, Nat.reduceEqDiff]
        refine vk_callR rfl ⟨[strV l], .inl rfl, hdec⟩ ?_
        have htx := mk_text0 (rawOf l).1 (rawOf l).2 l.length l hl0
        have htf := VCall.frame htx [1] [none, some (.box (mkC (rawOf l).1 (rawOf l).2 l.length .nils))] ⟨rfl, by simp, fun i j hj => by
          match i, hj with
          | 0, hj => simp at hj; subst hj; exact ⟨by simp, fun o' ho => by simp at ho; subst ho; rfl⟩
          | i + 1, hj => simp at hj⟩ rfl rfl rfl rfl (by simp)
        have htg : VCall Try.prog 76 [.ptr 1 0, strV l] [none, some (.box (mkC (rawOf l).1 (rawOf l).2 l.length .nils))] (.tup []) [none, some (.box (mkC (rawOf l).1 (rawOf l).2 l.length (.ref 2 1))), some (.arr 70 7 [dataC l])] := by
          simpa [putObs, renO, nameOf, renL, renV, mkC, dataC, strV_raw, rawV] using htf
        simp (maxSteps := 4000000) (disch := omega) only [EW, Nat.reduceBEq, reduceIte, Nat.reduceAdd, Nat.reduceLeDiff, Nat.reduceLT, Nat.reduceSub, Nat.reduceMul, reduceCtorEq, Int.reduceNeg, Int.reduceSub, Int.reduceAdd, Int.reduceLE, Int.reduceLT, Int.reduceMul, Int.reduceToNat, Int.reduceEq, Int.reduceBEq, Int.reduceBNe, Nat.reduceEqDiff]
        refine vk_call rfl htg ?_
        simp (maxSteps := 4000000) (disch := omega) only [EW, Nat.reduceBEq, reduceIte, Nat.reduceAdd, Nat.reduceLeDiff, Nat.reduceLT, Nat.reduceSub, Nat.reduceMul, reduceCtorEq, Int.reduceNeg, Int.reduceSub, Int.reduceAdd, Int.reduceLE, Int.reduceLT, Int.reduceMul, Int.reduceToNat, Int.reduceEq, Int.reduceBEq, Int.reduceBNe, Nat.reduceEqDiff]
        refine vk_call rfl (rd_done (t := (rawOf l).1) (rs := (rawOf l).2) (a := l.length) (x := .ref 2 1) rfl) ?_
        have hd2 : decide (((rawOf l).1.length : Int) ≤ (l.length : Int)) = true := by rw [q1]; simp
        simp (maxSteps := 4000000) (disch := omega) only [EW, Nat.reduceBEq, reduceIte, Nat.reduceAdd, Nat.reduceLeDiff, Nat.reduceLT, Nat.reduceSub, Nat.reduceMul, reduceCtorEq, Int.reduceNeg, Int.reduceSub, Int.reduceAdd, Int.reduceLE, Int.reduceLT, Int.reduceMul, Int.reduceToNat, Int.reduceEq, Int.reduceBEq, Int.reduceBNe, Nat.reduceEqDiff, hd2]
        refine hN _ true (fun _ => hl0) (by show 0 < 1; omega) ?_
        exact ⟨[some 0, some 1, some 2], rfl, rfl, rfl, rfl, ⟨.ptr rfl, trivial⟩, ⟨⟨_, rfl, .box (.cons (.same _ rfl) (.cons (.same _ rfl) (.cons (.same _ rfl) (.cons (.ref rfl) .nil))))⟩, ⟨⟨_, rfl, .arr (.refl _)⟩, trivial⟩⟩⟩
    | true =>
      have hl0 := hb rfl
      simp (maxSteps := 4000000) (disch := omega) only [EW, Nat.reduceBEq, reduceIte, Nat.reduceAdd, Nat.reduceLeDiff, Nat.reduceLT, Nat.reduceSub, Nat.reduceMul, reduceCtorEq, Int.reduceNeg, Int.reduceSub, Int.reduceAdd, Int.reduceLE, Int.reduceLT, Int.reduceMul, Int.reduceToNat, Int.reduceEq, Int.reduceBEq, Int.reduceBNe, Nat.reduceEqDiff]
      refine vk_call rfl (rd_done (t := (rawOf l).1) (rs := (rawOf l).2) (a := l.length) (x := .ref 2 1) rfl) ?_
      have hd : decide (((rawOf l).1.length : Int) ≤ (l.length : Int)) = true := by rw [q1]; simp
      simp (maxSteps := 4000000) (disch := omega) only [EW, Nat.reduceBEq, reduceIte, Nat.reduceAdd, Nat.reduceLeDiff, Nat.reduceLT, Nat.reduceSub, Nat.reduceMul, reduceCtorEq, Int.reduceNeg, Int.reduceSub, Int.reduceAdd, Int.reduceLE, Int.reduceLT, Int.reduceMul, Int.reduceToNat, Int.reduceEq, Int.reduceBEq, Int.reduceBNe, Nat.reduceEqDiff, hd]
      refine hE _ _ ?_
      simp (maxSteps := 4000000) (disch := omega) only [EW, Nat.reduceBEq, reduceIte, Nat.reduceAdd, Nat.reduceLeDiff, Nat.reduceLT, Nat.reduceSub, Nat.reduceMul, reduceCtorEq, Int.reduceNeg, Int.reduceSub, Int.reduceAdd, Int.reduceLE, Int.reduceLT, Int.reduceMul, Int.reduceToNat, Int.reduceEq, Int.reduceBEq, Int.reduceBNe, Nat.reduceEqDiff, mkC]
      exact ⟨_, .sl 7 [dataC l], rfl, rfl, .refl _⟩

theorem tk_israw (t : List UInt8) : VFn Try.prog 30 [.str t] (.bool (t == [115, 99, 114, 105, 112, 116] || t == [115, 116, 121, 108, 101])) := by
  refine VFn.intro ok30 (Nat.le_of_ble_eq_true rfl) (vk_start ?_)
  cases h : t == [115, 99, 114, 105, 112, 116] with
  | true =>
    simp (maxSteps := 4000000) (disch := omega) only [EW, Nat.reduceBEq, reduceIte, Nat.reduceAdd, Nat.reduceLeDiff, Nat.reduceLT, Nat.reduceSub, Nat.reduceMul, reduceCtorEq, Int.reduceNeg, Int.reduceSub, Int.reduceAdd, Int.reduceLE, Int.reduceLT, Int.reduceMul, Int.reduceToNat, Int.reduceEq, Int.reduceBEq, Int.reduceBNe, Nat.reduceEqDiff, vc30, rs30, h]
    exact fin rfl
  | false =>
    simp (maxSteps := 4000000) (disch := omega) only [EW, Nat.reduceBEq, reduceIte, Nat.reduceAdd, Nat.reduceLeDiff, Nat.reduceLT, Nat.reduceSub, Nat.reduceMul, reduceCtorEq, Int.reduceNeg, Int.reduceSub, Int.reduceAdd, Int.reduceLE, Int.reduceLT, Int.reduceMul, Int.reduceToNat, Int.reduceEq, Int.reduceBEq, Int.reduceBNe, Nat.reduceEqDiff, vc30, rs30, h]
    exact fin rfl

theorem tokenPlain (t : List UInt8) (rs : Runs) (nm : List UInt8) (ht : t.length ≤ 10000000) (hrs : rs.length ≤ 10000000) : VFn Try.prog 7 [rawV t rs, .str nm] (.bool true) := by
  refine VFn.intro ok7 (Nat.le_of_ble_eq_true rfl) (vk_start ?_)
  simp (maxSteps := 4000000) (disch := omega) only [EW, Nat.reduceBEq, reduceIte, Nat.reduceAdd, Nat.reduceLeDiff, Nat.reduceLT, Nat.reduceSub, Nat.reduceMul, reduceCtorEq, Int.reduceNeg, Int.reduceSub, Int.reduceAdd, Int.reduceLE, Int.reduceLT, Int.reduceMul, Int.reduceToNat, Int.reduceEq, Int.reduceBEq, Int.reduceBNe, Nat.reduceEqDiff, vc7, rs7, rawV]
  refine vk_callR rfl ⟨[], .inl rfl, alive13⟩ ?_
  simp (maxSteps := 4000000) (disch := omega) only [EW, Nat.reduceBEq, reduceIte, Nat.reduceAdd, Nat.reduceLeDiff, Nat.reduceLT, Nat.reduceSub, Nat.reduceMul, reduceCtorEq, Int.reduceNeg, Int.reduceSub, Int.reduceAdd, Int.reduceLE, Int.reduceLT, Int.reduceMul, Int.reduceToNat, Int.reduceEq, Int.reduceBEq, Int.reduceBNe, Nat.reduceEqDiff]
  refine vk_callR rfl ⟨[rawV t rs], .inl rfl, ref_of t rs (by omega) (by omega)⟩ ?_
  have hL := lab_length t rs
  have hn := lab_near t rs
  generalize hl : lab t rs = l at *
  have hw := ref_without l [60, 38] (by omega) (by decide)
  have hml := outL_len [60, 38] l
  have hmn : Near (outL [60, 38] l) := fun c hc => hn c (List.mem_filter.1 hc).1
  have hmp : ∀ c ∈ outL [60, 38] l, c.1 ≠ 60 ∧ c.1 ≠ 38 := by
    intro c hc
    have h1 := (List.mem_filter.1 hc).2
    constructor <;> (rintro h2; rw [h2] at h1; revert h1; decide)
  generalize outL [60, 38] l = m at *
  have htk := tokens_plain m hmn hmp (by omega)
  simp (maxSteps := 4000000) (disch := omega) only [EW, Nat.reduceBEq, reduceIte, Nat.reduceAdd, Nat.reduceLeDiff, Nat.reduceLT, Nat.reduceSub, Nat.reduceMul, reduceCtorEq, Int.reduceNeg, Int.reduceSub, Int.reduceAdd, Int.reduceLE, Int.reduceLT, Int.reduceMul, Int.reduceToNat, Int.reduceEq, Int.reduceBEq, Int.reduceBNe, Nat.reduceEqDiff]
  refine vk_callR rfl ⟨_, .inl rfl, hw⟩ ?_
  simp (maxSteps := 4000000) (disch := omega) only [EW, Nat.reduceBEq, reduceIte, Nat.reduceAdd, Nat.reduceLeDiff, Nat.reduceLT, Nat.reduceSub, Nat.reduceMul, reduceCtorEq, Int.reduceNeg, Int.reduceSub, Int.reduceAdd, Int.reduceLE, Int.reduceLT, Int.reduceMul, Int.reduceToNat, Int.reduceEq, Int.reduceBEq, Int.reduceBNe, Nat.reduceEqDiff]
  refine vk_callR rfl ⟨_, .inl rfl, ref_str m (by omega)⟩ ?_
  simp (maxSteps := 4000000) (disch := omega) only [EW, Nat.reduceBEq, reduceIte, Nat.reduceAdd, Nat.reduceLeDiff, Nat.reduceLT, Nat.reduceSub, Nat.reduceMul, reduceCtorEq, Int.reduceNeg, Int.reduceSub, Int.reduceAdd, Int.reduceLE, Int.reduceLT, Int.reduceMul, Int.reduceToNat, Int.reduceEq, Int.reduceBEq, Int.reduceBNe, Nat.reduceEqDiff]
  refine vk_callR rfl ⟨[strV m], .inl rfl, htk⟩ ?_
  by_cases hm : m = []
  · subst hm
    have hc0 : cRows [] = [] := rfl
    simp (maxSteps := 4000000) (disch := omega) only [EW, Nat.reduceBEq, reduceIte, Nat.reduceAdd, Nat.reduceLeDiff, Nat.reduceLT, Nat.reduceSub, Nat.reduceMul, reduceCtorEq, Int.reduceNeg, Int.reduceSub, Int.reduceAdd, Int.reduceLE, Int.reduceLT, Int.reduceMul, Int.reduceToNat, Int.reduceEq, Int.reduceBEq, Int.reduceBNe, Nat.reduceEqDiff, hc0]
    exact fin rfl
  · have hmn0 : ((m.length : Int) == 0) = false := by
      have := List.length_pos_iff.2 hm
      simp; omega
    rw [if_neg hm]
    simp (maxSteps := 4000000) (disch := omega) only [EW, Nat.reduceBEq, reduceIte, Nat.reduceAdd, Nat.reduceLeDiff, Nat.reduceLT, Nat.reduceSub, Nat.reduceMul, reduceCtorEq, Int.reduceNeg, Int.reduceSub, Int.reduceAdd, Int.reduceLE, Int.reduceLT, Int.reduceMul, Int.reduceToNat, Int.reduceEq, Int.reduceBEq, Int.reduceBNe, Nat.reduceEqDiff, cRows_length, hmn0, dataC]
    refine vk_callR rfl ⟨[strV m, .sl 2 (cRows m)], .inl rfl, is_of (by omega)⟩ ?_
    simp (maxSteps := 4000000) (disch := omega) only [EW, Nat.reduceBEq, reduceIte, Nat.reduceAdd, Nat.reduceLeDiff, Nat.reduceLT, Nat.reduceSub, Nat.reduceMul, reduceCtorEq, Int.reduceNeg, Int.reduceSub, Int.reduceAdd, Int.reduceLE, Int.reduceLT, Int.reduceMul, Int.reduceToNat, Int.reduceEq, Int.reduceBEq, Int.reduceBNe, Nat.reduceEqDiff]
    refine vk_callR rfl ⟨_, .inl rfl, tk_israw nm⟩ ?_
    cases h1 : nm == [115, 99, 114, 105, 112, 116] with
    | true =>
      simp (maxSteps := 4000000) (disch := omega) only [EW, Nat.reduceBEq, reduceIte, Nat.reduceAdd, Nat.reduceLeDiff, Nat.reduceLT, Nat.reduceSub, Nat.reduceMul, reduceCtorEq, Int.reduceNeg, Int.reduceSub, Int.reduceAdd, Int.reduceLE, Int.reduceLT, Int.reduceMul, Int.reduceToNat, Int.reduceEq, Int.reduceBEq, Int.reduceBNe, Nat.reduceEqDiff, h1]
      exact fin rfl
    | false =>
      simp (maxSteps := 4000000) (disch := omega) only [EW, Nat.reduceBEq, reduceIte, Nat.reduceAdd, Nat.reduceLeDiff, Nat.reduceLT, Nat.reduceSub, Nat.reduceMul, reduceCtorEq, Int.reduceNeg, Int.reduceSub, Int.reduceAdd, Int.reduceLE, Int.reduceLT, Int.reduceMul, Int.reduceToNat, Int.reduceEq, Int.reduceBEq, Int.reduceBNe, Nat.reduceEqDiff, h1]
      first | exact fin rfl | (cases h2 : nm == [115, 116, 121, 108, 101] <;> (first | exact fin rfl | simp [h2, lendV]))
end Go.Proofs.VL

/- Contracts of functions of the program, for what calls them, and the law that its name tells. -/
import Derived.Test.YtdiddnapamjojaaTB
namespace Go.Proofs.VL
open Go Go.RowKit
set_option maxRecDepth 100000
set_option maxHeartbeats 2000000
set_option linter.unusedSimpArgs false
set_option linter.unusedVariables false
attribute [local irreducible] vwp vk

def idxF (T : List UInt8) (i : Nat) : Int := if Lib.indexByte (T.drop i) 59 = -1 then -1 else Lib.indexByte (T.drop i) 59 + i
theorem idxF_zero (T : List UInt8) : idxF T 0 = Lib.indexByte T 59 := by
  unfold idxF; rw [List.drop_zero]; split <;> simp_all
theorem idxF_end {T : List UInt8} {i : Nat} (h : T.length ≤ i) : idxF T i = -1 := by
  unfold idxF; rw [List.drop_eq_nil_of_le h]; rfl
theorem drop_at {T : List UInt8} {i : Nat} {x : UInt8} (h : T[i]? = some x) : T.drop i = x :: T.drop (i + 1) := by
  have hlt := getElem?_lt h
  rw [List.drop_eq_getElem_cons hlt]
  rw [List.getElem?_eq_getElem hlt] at h
  simp only [Option.some.injEq] at h
  rw [h]
theorem idxF_hit {T : List UInt8} {i : Nat} (h : T[i]? = some 59) : idxF T i = i := by
  unfold idxF; rw [drop_at h]
  have : Lib.indexByte (59 :: T.drop (i + 1)) 59 = 0 := by unfold Lib.indexByte; simp
  rw [this]; simp
theorem idxF_miss {T : List UInt8} {i : Nat} {x : UInt8} (h : T[i]? = some x) (hx : x ≠ 59) : idxF T i = idxF T (i + 1) := by
  have hg := (index_lt (T.drop (i + 1)) 59).2
  have : Lib.indexByte (x :: T.drop (i + 1)) 59 = if Lib.indexByte (T.drop (i + 1)) 59 = -1 then -1 else Lib.indexByte (T.drop (i + 1)) 59 + 1 := by
    show (if (x == 59) = true then (0 : Int) else if (Lib.indexByte (T.drop (i + 1)) 59 == -1) = true then -1 else Lib.indexByte (T.drop (i + 1)) 59 + 1) = _
    rw [if_neg (by simpa using hx)]
    by_cases h2 : Lib.indexByte (T.drop (i + 1)) 59 = -1
    · rw [if_pos h2, if_pos (by simpa using h2)]
    · rw [if_neg h2, if_neg (by simpa using h2)]
  unfold idxF; rw [drop_at h, this]
  by_cases h2 : Lib.indexByte (T.drop (i + 1)) 59 = -1
  · rw [if_pos h2, if_pos h2]; simp
  · rw [if_neg h2, if_neg h2, if_neg (by omega)]; omega

theorem ref_index (l : LT) (hl : l.length ≤ 10000000) : VFn Try.prog 107 [.sl 2 (cRows l), .str [59], .int .i64 0] (.int .i64 (Lib.indexByte (txt l) 59)) := by
  refine VFn.intro ok107 (Nat.le_of_ble_eq_true rfl) (vk_start ?_)
  have hT : (txt l).length = l.length := txt_length l
  have hz : ((l.length : Int) < 0) = False := eq_false (by omega)
  rw [← idxF_zero]
  simp only [vc107, rs107, wrap64, EV0, e_condB, Nat.reduceBEq, reduceIte, Nat.reduceAdd, Nat.reduceLeDiff, Nat.reduceLT, Nat.reduceSub, Nat.reduceMul, reduceCtorEq, Int.reduceNeg, Int.reduceSub, Int.reduceAdd, Int.reduceLE, Int.reduceLT, Int.reduceMul, Int.reduceToNat, Int.reduceEq, Int.reduceBEq, Int.reduceBNe, Nat.reduceEqDiff, cRows_length, hz, Int.lt_irrefl]
  refine vk_loopR (γ := Nat) (fun i => { tm := [(0, .sl 2 (cRows l)), (1, .str [59]), (7, .int .i64 (i : Nat))], ob := [], base := 0 })
    (fun i => i ≤ l.length ∧ idxF (txt l) 0 = idxF (txt l) i) (fun i => l.length - i) 0 ⟨Nat.zero_le _, rfl⟩ ?_ ?_
  · exact ⟨[], rfl, rfl, rfl, rfl, ⟨.same _ rfl, .same _ rfl, .same _ rfl, trivial⟩, trivial⟩
  · rintro i ⟨hi, hI⟩ R hN hE hR
    have c0 : (0 ≤ (i : Int)) = True := by simp
    have w1 : IntKind.i64.wrap ((i : Int) + 1) = i + 1 := wrap64 (by omega) (by omega)
    rcases Nat.lt_or_ge i l.length with hlt | hge
    · have c1 : ((i : Int) + 1 ≤ (l.length : Int)) = True := eq_true (by omega)
      obtain ⟨⟨c, o⟩, hr⟩ : ∃ r, l[i]? = some r := ⟨_, List.getElem?_eq_getElem hlt⟩
      have hrow : (cRows l)[i]? = some [.int .u8 c.toNat, .int .i64 o] := by rw [cRows_get, hr]; rfl
      have hx : (txt l)[i]? = some c := by unfold txt; rw [List.getElem?_map, hr]; rfl
      have c2 : ((i : Int) < (l.length : Int)) = True := eq_true (by omega)
      simp only [wrap64, EV0, e_condB, Nat.reduceBEq, reduceIte, Nat.reduceAdd, Nat.reduceLeDiff, Nat.reduceLT, Nat.reduceSub, Nat.reduceMul, reduceCtorEq, Int.reduceNeg, Int.reduceSub, Int.reduceAdd, Int.reduceLE, Int.reduceLT, Int.reduceMul, Int.reduceToNat, Int.reduceEq, Int.reduceBEq, Int.reduceBNe, Nat.reduceEqDiff, c0, c1, w1, cRows_length]
      refine vk_loopR (γ := Nat) (fun j => { tm := [(0, .sl 2 (cRows l)), (1, .str [59]), (7, .int .i64 (i : Nat)), (8, .bool (if j = 0 then true else decide (c = 59))), (9, .int .i64 (j : Nat))], ob := [], base := 0 })
        (fun j => j ≤ 1) (fun j => 1 - j) 0 (by omega) ?_ ?_
      · exact ⟨[], rfl, rfl, rfl, rfl, ⟨.same _ rfl, .same _ rfl, .same _ rfl, .same _ rfl, .same _ rfl, trivial⟩, trivial⟩
      · rintro j hj R2 hN2 hE2 hR2
        have hjj : j = 0 ∨ j = 1 := by omega
        rcases hjj with rfl | rfl
        · have k : (((c.toNat : Int)) == ((59 : UInt8).toNat : Int)) = decide (c = 59) := by
            by_cases h : c = 59
            · subst h; rfl
            · have h2 : ((c.toNat : Int) == 59) = false := byte_ne (d := 59) rfl h
              have h3 : decide (c = 59) = false := by simp [h]
              rw [h3]; exact h2
          have w0 : IntKind.i64.wrap ((i : Int) + 0) = i := by rw [wrap64 (by omega) (by omega)]; omega
          have w9 : IntKind.i64.wrap (0 + 1) = 1 := by decide
          simp only [wrap64, EV0, e_condB, Nat.reduceBEq, reduceIte, Nat.reduceAdd, Nat.reduceLeDiff, Nat.reduceLT, Nat.reduceSub, Nat.reduceMul, reduceCtorEq, Int.reduceNeg, Int.reduceSub, Int.reduceAdd, Int.reduceLE, Int.reduceLT, Int.reduceMul, Int.reduceToNat, Int.reduceEq, Int.reduceBEq, Int.reduceBNe, Nat.reduceEqDiff, c0, c2, w0, w9, cRows_length, hrow, byteV, k]
          refine hN2 _ 1 (by omega) (by omega) ?_
          exact ⟨[], rfl, rfl, rfl, rfl, ⟨.same _ rfl, .same _ rfl, .same _ rfl, .same _ rfl, .same _ rfl, trivial⟩, trivial⟩
        · simp only [wrap64, EV0, e_condB, Nat.reduceBEq, reduceIte, Nat.reduceAdd, Nat.reduceLeDiff, Nat.reduceLT, Nat.reduceSub, Nat.reduceMul, reduceCtorEq, Int.reduceNeg, Int.reduceSub, Int.reduceAdd, Int.reduceLE, Int.reduceLT, Int.reduceMul, Int.reduceToNat, Int.reduceEq, Int.reduceBEq, Int.reduceBNe, Nat.reduceEqDiff]
          refine hE2 _ _ ?_
          simp only [wrap64, EV0, e_condB, Nat.reduceBEq, reduceIte, Nat.reduceAdd, Nat.reduceLeDiff, Nat.reduceLT, Nat.reduceSub, Nat.reduceMul, reduceCtorEq, Int.reduceNeg, Int.reduceSub, Int.reduceAdd, Int.reduceLE, Int.reduceLT, Int.reduceMul, Int.reduceToNat, Int.reduceEq, Int.reduceBEq, Int.reduceBNe, Nat.reduceEqDiff]
          by_cases h : c = 59
          · subst h
            have e : idxF (txt l) i = i := idxF_hit hx
            simp only [wrap64, EV0, e_condB, Nat.reduceBEq, reduceIte, Nat.reduceAdd, Nat.reduceLeDiff, Nat.reduceLT, Nat.reduceSub, Nat.reduceMul, reduceCtorEq, Int.reduceNeg, Int.reduceSub, Int.reduceAdd, Int.reduceLE, Int.reduceLT, Int.reduceMul, Int.reduceToNat, Int.reduceEq, Int.reduceBEq, Int.reduceBNe, Nat.reduceEqDiff, decide_true]
            refine hR _ ?_
            simp only [wrap64, EV0, e_condB, Nat.reduceBEq, reduceIte, Nat.reduceAdd, Nat.reduceLeDiff, Nat.reduceLT, Nat.reduceSub, Nat.reduceMul, reduceCtorEq, Int.reduceNeg, Int.reduceSub, Int.reduceAdd, Int.reduceLE, Int.reduceLT, Int.reduceMul, Int.reduceToNat, Int.reduceEq, Int.reduceBEq, Int.reduceBNe, Nat.reduceEqDiff, hI, e]
            exact ⟨_, _, rfl, rfl, .refl _⟩
          · have h3 : decide (c = 59) = false := by simp [h]
            simp only [wrap64, EV0, e_condB, Nat.reduceBEq, reduceIte, Nat.reduceAdd, Nat.reduceLeDiff, Nat.reduceLT, Nat.reduceSub, Nat.reduceMul, reduceCtorEq, Int.reduceNeg, Int.reduceSub, Int.reduceAdd, Int.reduceLE, Int.reduceLT, Int.reduceMul, Int.reduceToNat, Int.reduceEq, Int.reduceBEq, Int.reduceBNe, Nat.reduceEqDiff, h3, w1]
            rw [if_neg h]
            refine hN _ (i + 1) ⟨hlt, by rw [hI]; exact idxF_miss hx h⟩ (by omega) ?_
            exact ⟨[], rfl, rfl, rfl, rfl, ⟨.same _ rfl, .same _ rfl, .same _ rfl, trivial⟩, trivial⟩
    · have c1 : ((i : Int) + 1 ≤ (l.length : Int)) = False := eq_false (by omega)
      simp only [wrap64, EV0, e_condB, Nat.reduceBEq, reduceIte, Nat.reduceAdd, Nat.reduceLeDiff, Nat.reduceLT, Nat.reduceSub, Nat.reduceMul, reduceCtorEq, Int.reduceNeg, Int.reduceSub, Int.reduceAdd, Int.reduceLE, Int.reduceLT, Int.reduceMul, Int.reduceToNat, Int.reduceEq, Int.reduceBEq, Int.reduceBNe, Nat.reduceEqDiff, c0, c1, w1, cRows_length]
      refine hE _ _ ?_
      have e : idxF (txt l) i = -1 := idxF_end (by omega)
      simp only [wrap64, EV0, e_condB, Nat.reduceBEq, reduceIte, Nat.reduceAdd, Nat.reduceLeDiff, Nat.reduceLT, Nat.reduceSub, Nat.reduceMul, reduceCtorEq, Int.reduceNeg, Int.reduceSub, Int.reduceAdd, Int.reduceLE, Int.reduceLT, Int.reduceMul, Int.reduceToNat, Int.reduceEq, Int.reduceBEq, Int.reduceBNe, Nat.reduceEqDiff, hI, e]
      exact ⟨_, _, rfl, rfl, .refl _⟩
end Go.Proofs.VL

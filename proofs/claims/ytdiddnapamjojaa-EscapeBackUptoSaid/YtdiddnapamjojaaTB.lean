/- Contracts of functions of the program, for what calls them, and the law that its name tells. -/
import Derived.Test.YtdiddnapamjojaaTA
namespace Go.Proofs.VL
open Go Go.RowKit
set_option maxRecDepth 100000
set_option maxHeartbeats 2000000
set_option linter.unusedSimpArgs false
set_option linter.unusedVariables false
attribute [local irreducible] vwp vk

theorem index_lt : ∀ (l : List UInt8) (c : UInt8), Lib.indexByte l c < l.length ∧ -1 ≤ Lib.indexByte l c
  | [], c => by simp [Lib.indexByte]
  | b :: l, c => by
    have ih := index_lt l c
    unfold Lib.indexByte
    split
    · simp only [List.length_cons]; omega
    · split
      · simp only [List.length_cons]; omega
      · rename_i h1 h2
        have : Lib.indexByte l c ≠ -1 := by simpa using h2
        simp only [List.length_cons]
        omega

theorem takeB_eq (r : List UInt8) : takeB (38 :: r) = if Lib.indexByte (38 :: r) 59 < 0 then ([], 0) else if standsB (((38 :: r).take (Lib.indexByte (38 :: r) 59).toNat).drop 1) = [] then ([], 0) else (standsB (((38 :: r).take (Lib.indexByte (38 :: r) 59).toNat).drop 1), (Lib.indexByte (38 :: r) 59).toNat + 1) :=
  (if_pos rfl : (if (38 : UInt8) = 38 then _ else (([], 0) : List UInt8 × Nat)) = _)

theorem takeB_cons {t : List UInt8} {r : List UInt8} (ht : t = 38 :: r) {e : Nat} (he : Lib.indexByte t 59 = e) : takeB t = if standsB ((t.take e).drop 1) = [] then ([], 0) else (standsB ((t.take e).drop 1), e + 1) := by
  subst ht
  rw [takeB_eq, if_neg (by omega), he]
  rfl

theorem takeB_none {t : List UInt8} {r : List UInt8} (ht : t = 38 :: r) (he : Lib.indexByte t 59 < 0) : takeB t = ([], 0) := by
  subst ht
  rw [takeB_eq, if_pos he]

theorem u_take (t : List UInt8) (ht : t.length ≤ 10000000) : VFn Try.prog 57 [.str t] (.tup [.str (takeB t).1, .int .i64 (takeB t).2]) := by
  refine VFn.intro ok57 (Nat.le_of_ble_eq_true rfl) (vk_start ?_)
  cases t with
  | nil =>
    have e : takeB [] = ([], 0) := rfl
    rw [e]
    simp only [vc57, rs57, wrap64, EV0, e_condB, Nat.reduceBEq, reduceIte, Nat.reduceAdd, Nat.reduceLeDiff, Nat.reduceLT, Nat.reduceSub, Nat.reduceMul, reduceCtorEq, Int.reduceNeg, Int.reduceSub, Int.reduceAdd, Int.reduceLE, Int.reduceLT, Int.reduceMul, Int.reduceToNat, Int.reduceEq, Int.reduceBEq, Int.reduceBNe, Nat.reduceEqDiff]
    exact ⟨_, _, rfl, rfl, .refl _⟩
  | cons a t =>
    have b0 : ((a :: t) == []) = false := rfl
    by_cases ha : a = 38
    · subst ha
      have k0 : (((38 : UInt8).toNat : Int) != 38) = false := rfl
      have hib := index_byte (38 :: t) 59
      have hlt := index_lt (38 :: t) 59
      obtain ⟨T, hT⟩ : ∃ T, T = (38 : UInt8) :: t := ⟨_, rfl⟩
      have h0 : T[0]? = some 38 := by rw [hT]; rfl
      have hT1 : 1 ≤ T.length := by rw [hT]; simp
      have hi1 : Lib.indexByte T 59 ≠ 0 := by
        rw [hT]; unfold Lib.indexByte
        have hlt2 := index_lt t 59
        split
        · rename_i h; simp at h
        · split
          · decide
          · rename_i h1 h2
            have : Lib.indexByte t 59 ≠ -1 := by simpa using h2
            omega
      rw [← hT] at b0 hib hlt ht ⊢
      simp only [vc57, rs57, wrap64, EV0, e_condB, Nat.reduceBEq, reduceIte, Nat.reduceAdd, Nat.reduceLeDiff, Nat.reduceLT, Nat.reduceSub, Nat.reduceMul, reduceCtorEq, Int.reduceNeg, Int.reduceSub, Int.reduceAdd, Int.reduceLE, Int.reduceLT, Int.reduceMul, Int.reduceToNat, Int.reduceEq, Int.reduceBEq, Int.reduceBNe, Nat.reduceEqDiff, b0, h0, byteV, k0]
      refine vk_callR rfl ⟨_, .inl rfl, hib⟩ ?_
      by_cases hneg : Lib.indexByte T 59 < 0
      · have k : (Lib.indexByte T 59 < 0) = True := eq_true hneg
        rw [takeB_none hT hneg]
        simp only [wrap64, EV0, e_condB, Nat.reduceBEq, reduceIte, Nat.reduceAdd, Nat.reduceLeDiff, Nat.reduceLT, Nat.reduceSub, Nat.reduceMul, reduceCtorEq, Int.reduceNeg, Int.reduceSub, Int.reduceAdd, Int.reduceLE, Int.reduceLT, Int.reduceMul, Int.reduceToNat, Int.reduceEq, Int.reduceBEq, Int.reduceBNe, Nat.reduceEqDiff, k]
        exact ⟨_, _, rfl, rfl, .refl _⟩
      · obtain ⟨e, he⟩ : ∃ e : Nat, Lib.indexByte T 59 = e := ⟨(Lib.indexByte T 59).toNat, by omega⟩
        rw [takeB_cons hT he]
        rw [he] at hlt hi1 hneg
        have k : ((e : Int) < 0) = False := eq_false hneg
        have k1 : (1 ≤ (e : Int)) = True := eq_true (by omega)
        have k2 : ((e : Int) ≤ (T.length : Int)) = True := eq_true (by omega)
        have k3 : (0 ≤ (e : Int)) = True := by simp
        have w : IntKind.i64.wrap ((e : Int) + 1) = ((e + 1 : Nat) : Int) := by rw [wrap64 (by omega) (by omega)]; norm_cast
        have hsl : ((T.take e).drop 1).length ≤ 10000000 := by rw [List.length_drop, List.length_take]; omega
        simp only [wrap64, EV0, e_condB, Nat.reduceBEq, reduceIte, Nat.reduceAdd, Nat.reduceLeDiff, Nat.reduceLT, Nat.reduceSub, Nat.reduceMul, reduceCtorEq, Int.reduceNeg, Int.reduceSub, Int.reduceAdd, Int.reduceLE, Int.reduceLT, Int.reduceMul, Int.reduceToNat, Int.reduceEq, Int.reduceBEq, Int.reduceBNe, Nat.reduceEqDiff, he, k, k1, k2, k3]
        refine vk_callR rfl ⟨_, .inl rfl, u_stands _ hsl⟩ ?_
        by_cases hs : standsB ((T.take e).drop 1) = []
        · rw [if_pos hs]
          have hb : (standsB ((T.take e).drop 1) == []) = true := by simpa using hs
          simp only [wrap64, EV0, e_condB, Nat.reduceBEq, reduceIte, Nat.reduceAdd, Nat.reduceLeDiff, Nat.reduceLT, Nat.reduceSub, Nat.reduceMul, reduceCtorEq, Int.reduceNeg, Int.reduceSub, Int.reduceAdd, Int.reduceLE, Int.reduceLT, Int.reduceMul, Int.reduceToNat, Int.reduceEq, Int.reduceBEq, Int.reduceBNe, Nat.reduceEqDiff, hb]
          exact ⟨_, _, rfl, rfl, .refl _⟩
        · rw [if_neg hs]
          have hb : (standsB ((T.take e).drop 1) == []) = false := by simpa using hs
          simp only [wrap64, EV0, e_condB, Nat.reduceBEq, reduceIte, Nat.reduceAdd, Nat.reduceLeDiff, Nat.reduceLT, Nat.reduceSub, Nat.reduceMul, reduceCtorEq, Int.reduceNeg, Int.reduceSub, Int.reduceAdd, Int.reduceLE, Int.reduceLT, Int.reduceMul, Int.reduceToNat, Int.reduceEq, Int.reduceBEq, Int.reduceBNe, Nat.reduceEqDiff, hb, w]
          exact ⟨_, _, rfl, rfl, .refl _⟩
    · have k0 : ((a.toNat : Int) != 38) = true := by
        have h2 : ((a.toNat : Int) == 38) = false := byte_ne (d := 38) rfl ha
        show (!((a.toNat : Int) == 38)) = true
        rw [h2]; rfl
      have e : takeB (a :: t) = ([], 0) := by show (if _ then _ else _) = _; rw [if_neg ha]
      rw [e]
      simp only [vc57, rs57, wrap64, EV0, e_condB, Nat.reduceBEq, reduceIte, Nat.reduceAdd, Nat.reduceLeDiff, Nat.reduceLT, Nat.reduceSub, Nat.reduceMul, reduceCtorEq, Int.reduceNeg, Int.reduceSub, Int.reduceAdd, Int.reduceLE, Int.reduceLT, Int.reduceMul, Int.reduceToNat, Int.reduceEq, Int.reduceBEq, Int.reduceBNe, Nat.reduceEqDiff, b0, byteV, k0]
      exact ⟨_, _, rfl, rfl, .refl _⟩
end Go.Proofs.VL

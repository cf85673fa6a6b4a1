/- Contracts of functions of the program, for what calls them, and the law that its name tells. -/
import Derived.Test.YtdiddnapamjojaaTC
namespace Go.Proofs.VL
open Go Go.RowKit
set_option maxRecDepth 100000
set_option maxHeartbeats 2000000
set_option linter.unusedSimpArgs false
set_option linter.unusedVariables false
attribute [local irreducible] vwp vk

theorem cRows_slice (l : LT) (a b : Nat) : ((cRows l).take b).drop a = cRows ((l.take b).drop a) := by simp [cRows]
theorem txt_slice (l : LT) (a b : Nat) : txt ((l.take b).drop a) = ((txt l).take b).drop a := by simp [txt]

theorem ref_take (l : LT) (ht : l.length ≤ 10000000) : VFn Try.prog 58 [.sl 2 (cRows l)] (.tup [.str (takeB (txt l)).1, .int .i64 (takeB (txt l)).2]) := by
  refine VFn.intro ok58 (Nat.le_of_ble_eq_true rfl) (vk_start ?_)
  cases l with
  | nil =>
    have e : takeB (txt []) = ([], 0) := rfl
    rw [e]
    simp only [vc58, rs58, wrap64, EV0, e_condB, Nat.reduceBEq, reduceIte, Nat.reduceAdd, Nat.reduceLeDiff, Nat.reduceLT, Nat.reduceSub, Nat.reduceMul, reduceCtorEq, Int.reduceNeg, Int.reduceSub, Int.reduceAdd, Int.reduceLE, Int.reduceLT, Int.reduceMul, Int.reduceToNat, Int.reduceEq, Int.reduceBEq, Int.reduceBNe, Nat.reduceEqDiff, cRows_length]
    exact ⟨_, _, rfl, rfl, .refl _⟩
  | cons q l =>
    obtain ⟨a, o⟩ := q
    have hrow : (cRows ((a, o) :: l))[0]? = some [.int .u8 a.toNat, .int .i64 o] := rfl
    have etx : txt ((a, o) :: l) = a :: txt l := rfl
    have hLl : (txt ((a, o) :: l)).length = ((a, o) :: l).length := txt_length _
    have hl1 : 1 ≤ ((a, o) :: l).length := by simp
    have hri := ref_index ((a, o) :: l) ht
    generalize ((a, o) :: l) = L at *
    have b0 : ((L.length : Int) == 0) = false := by simp only [beq_eq_false_iff_ne]; omega
    have b1 : ((0 : Int) < (L.length : Int)) = True := eq_true (by omega)
    have b2 : (L.length = 0) = False := eq_false (by omega)
    by_cases ha : a = 38
    · subst ha
      have k0 : (((38 : UInt8).toNat : Int) != 38) = false := rfl
      have hlt := index_lt (txt L) 59
      have hi1 : Lib.indexByte (txt L) 59 ≠ 0 := by
        rw [etx]; unfold Lib.indexByte
        have hlt2 := index_lt (txt l) 59
        split
        · rename_i h; simp at h
        · split
          · decide
          · rename_i h1 h2
            have : Lib.indexByte (txt l) 59 ≠ -1 := by simpa using h2
            omega
      simp only [vc58, rs58, wrap64, EV0, e_condB, Nat.reduceBEq, reduceIte, Nat.reduceAdd, Nat.reduceLeDiff, Nat.reduceLT, Nat.reduceSub, Nat.reduceMul, reduceCtorEq, Int.reduceNeg, Int.reduceSub, Int.reduceAdd, Int.reduceLE, Int.reduceLT, Int.reduceMul, Int.reduceToNat, Int.reduceEq, Int.reduceBEq, Int.reduceBNe, Nat.reduceEqDiff, b0, b1, b2, hrow, cRows_length, k0]
      refine vk_callR rfl ⟨_, .inl rfl, hri⟩ ?_
      by_cases hneg : Lib.indexByte (txt L) 59 < 0
      · have k : (Lib.indexByte (txt L) 59 < 0) = True := eq_true hneg
        rw [takeB_none etx hneg]
        simp only [wrap64, EV0, e_condB, Nat.reduceBEq, reduceIte, Nat.reduceAdd, Nat.reduceLeDiff, Nat.reduceLT, Nat.reduceSub, Nat.reduceMul, reduceCtorEq, Int.reduceNeg, Int.reduceSub, Int.reduceAdd, Int.reduceLE, Int.reduceLT, Int.reduceMul, Int.reduceToNat, Int.reduceEq, Int.reduceBEq, Int.reduceBNe, Nat.reduceEqDiff, k]
        exact ⟨_, _, rfl, rfl, .refl _⟩
      · obtain ⟨e, he⟩ : ∃ e : Nat, Lib.indexByte (txt L) 59 = e := ⟨(Lib.indexByte (txt L) 59).toNat, by omega⟩
        rw [takeB_cons etx he]
        rw [he] at hlt hi1 hneg
        have k : ((e : Int) < 0) = False := eq_false hneg
        have k1 : (1 ≤ (e : Int)) = True := eq_true (by omega)
        have k2 : ((e : Int) ≤ (L.length : Int)) = True := eq_true (by omega)
        have k3 : (0 ≤ (e : Int)) = True := by simp
        have w : IntKind.i64.wrap ((e : Int) + 1) = ((e + 1 : Nat) : Int) := by rw [wrap64 (by omega) (by omega)]; norm_cast
        have hsl : ((L.take e).drop 1).length ≤ 10000000 := by rw [List.length_drop, List.length_take]; omega
        have hsl2 : (((txt L).take e).drop 1).length ≤ 10000000 := by rw [List.length_drop, List.length_take]; omega
        simp only [wrap64, EV0, e_condB, Nat.reduceBEq, reduceIte, Nat.reduceAdd, Nat.reduceLeDiff, Nat.reduceLT, Nat.reduceSub, Nat.reduceMul, reduceCtorEq, Int.reduceNeg, Int.reduceSub, Int.reduceAdd, Int.reduceLE, Int.reduceLT, Int.reduceMul, Int.reduceToNat, Int.reduceEq, Int.reduceBEq, Int.reduceBNe, Nat.reduceEqDiff, he, k, k1, k2, k3, cRows_length, cRows_slice]
        refine vk_callR rfl ⟨_, .inl rfl, ref_text ((L.take e).drop 1) (by omega)⟩ ?_
        rw [txt_slice]
        simp only [wrap64, EV0, e_condB, Nat.reduceBEq, reduceIte, Nat.reduceAdd, Nat.reduceLeDiff, Nat.reduceLT, Nat.reduceSub, Nat.reduceMul, reduceCtorEq, Int.reduceNeg, Int.reduceSub, Int.reduceAdd, Int.reduceLE, Int.reduceLT, Int.reduceMul, Int.reduceToNat, Int.reduceEq, Int.reduceBEq, Int.reduceBNe, Nat.reduceEqDiff]
        refine vk_callR rfl ⟨_, .inl rfl, ref_stands _ hsl2⟩ ?_
        by_cases hs : standsB (((txt L).take e).drop 1) = []
        · rw [if_pos hs]
          have hb : (standsB (((txt L).take e).drop 1) == []) = true := by simpa using hs
          simp only [wrap64, EV0, e_condB, Nat.reduceBEq, reduceIte, Nat.reduceAdd, Nat.reduceLeDiff, Nat.reduceLT, Nat.reduceSub, Nat.reduceMul, reduceCtorEq, Int.reduceNeg, Int.reduceSub, Int.reduceAdd, Int.reduceLE, Int.reduceLT, Int.reduceMul, Int.reduceToNat, Int.reduceEq, Int.reduceBEq, Int.reduceBNe, Nat.reduceEqDiff, hb]
          exact ⟨_, _, rfl, rfl, .refl _⟩
        · rw [if_neg hs]
          have hb : (standsB (((txt L).take e).drop 1) == []) = false := by simpa using hs
          simp only [wrap64, EV0, e_condB, Nat.reduceBEq, reduceIte, Nat.reduceAdd, Nat.reduceLeDiff, Nat.reduceLT, Nat.reduceSub, Nat.reduceMul, reduceCtorEq, Int.reduceNeg, Int.reduceSub, Int.reduceAdd, Int.reduceLE, Int.reduceLT, Int.reduceMul, Int.reduceToNat, Int.reduceEq, Int.reduceBEq, Int.reduceBNe, Nat.reduceEqDiff, hb, w]
          exact ⟨_, _, rfl, rfl, .refl _⟩
    · have k0 : ((a.toNat : Int) != 38) = true := by
        have h2 : ((a.toNat : Int) == 38) = false := byte_ne (d := 38) rfl ha
        show (!((a.toNat : Int) == 38)) = true
        rw [h2]; rfl
      have e : takeB (txt L) = ([], 0) := by rw [etx]; show (if _ then _ else _) = _; rw [if_neg ha]
      rw [e]
      simp only [vc58, rs58, wrap64, EV0, e_condB, Nat.reduceBEq, reduceIte, Nat.reduceAdd, Nat.reduceLeDiff, Nat.reduceLT, Nat.reduceSub, Nat.reduceMul, reduceCtorEq, Int.reduceNeg, Int.reduceSub, Int.reduceAdd, Int.reduceLE, Int.reduceLT, Int.reduceMul, Int.reduceToNat, Int.reduceEq, Int.reduceBEq, Int.reduceBNe, Nat.reduceEqDiff, b0, b1, b2, hrow, cRows_length, k0]
      exact ⟨_, _, rfl, rfl, .refl _⟩
end Go.Proofs.VL

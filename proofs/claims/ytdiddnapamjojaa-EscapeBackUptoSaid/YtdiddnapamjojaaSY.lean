/- Contracts of functions of the program, for what calls them, and the law that its name tells. -/
import Derived.Test.YtdiddnapamjojaaSX
import Derived.Test.YtdiddnapamjojaaSO
namespace Go.Proofs.VL
open Go Go.RowKit
set_option maxRecDepth 100000
set_option maxHeartbeats 2000000
set_option linter.unusedSimpArgs false
set_option linter.unusedVariables false
attribute [local irreducible] vwp vk

def baseB : List UInt8 → List UInt8 × Int
  | [] => ([], 10)
  | c :: r => if c = 120 ∨ c = 88 then (r, 16) else (c :: r, 10)

/-- What digits of a base stand for. -/
def codeB (r : List UInt8) (b : Int) : List UInt8 :=
  match numF b r 0 with
  | some n => if r = [] then [] else runeB (winN n)
  | none => []

/-- What stands between & and a semicolon. -/
def standsB (t : List UInt8) : List UInt8 := if hasP t [35] = true then codeB (baseB (t.drop 1)).1 (baseB (t.drop 1)).2 else namedB t

theorem u_stands (t : List UInt8) (ht : t.length ≤ 10000000) : VFn Try.prog 106 [.str t] (.str (standsB t)) := by
  refine VFn.intro ok106 (Nat.le_of_ble_eq_true rfl) (vk_start ?_)
  have hcut := cut_prefix t [35]
  simp only [vc106, rs106, wrap64, EV0, e_condB, Nat.reduceBEq, reduceIte, Nat.reduceAdd, Nat.reduceLeDiff, Nat.reduceLT, Nat.reduceSub, Nat.reduceMul, reduceCtorEq, Int.reduceNeg, Int.reduceSub, Int.reduceAdd, Int.reduceLE, Int.reduceLT, Int.reduceMul, Int.reduceToNat, Int.reduceEq, Int.reduceBEq, Int.reduceBNe, Nat.reduceEqDiff]
  refine vk_call rfl (CallR.call ⟨_, .inl rfl, hcut⟩) ?_
  cases h : hasP t [35] with
  | false =>
    have e : standsB t = namedB t := by unfold standsB; rw [if_neg (by rw [h]; simp)]
    rw [e]
    simp only [wrap64, EV0, e_condB, Nat.reduceBEq, reduceIte, Nat.reduceAdd, Nat.reduceLeDiff, Nat.reduceLT, Nat.reduceSub, Nat.reduceMul, reduceCtorEq, Int.reduceNeg, Int.reduceSub, Int.reduceAdd, Int.reduceLE, Int.reduceLT, Int.reduceMul, Int.reduceToNat, Int.reduceEq, Int.reduceBEq, Int.reduceBNe, Nat.reduceEqDiff]
    refine vk_callR rfl ⟨_, .inl rfl, u_named t⟩ ?_
    simp only [wrap64, EV0, e_condB, Nat.reduceBEq, reduceIte, Nat.reduceAdd, Nat.reduceLeDiff, Nat.reduceLT, Nat.reduceSub, Nat.reduceMul, reduceCtorEq, Int.reduceNeg, Int.reduceSub, Int.reduceAdd, Int.reduceLE, Int.reduceLT, Int.reduceMul, Int.reduceToNat, Int.reduceEq, Int.reduceBEq, Int.reduceBNe, Nat.reduceEqDiff]
    exact ⟨_, _, rfl, rfl, .refl _⟩
  | true =>
    have e : standsB t = codeB (baseB (t.drop 1)).1 (baseB (t.drop 1)).2 := by unfold standsB; rw [if_pos h]
    rw [e]
    have hdl : (t.drop 1).length ≤ t.length := by rw [List.length_drop]; omega
    simp only [wrap64, EV0, e_condB, Nat.reduceBEq, reduceIte, Nat.reduceAdd, Nat.reduceLeDiff, Nat.reduceLT, Nat.reduceSub, Nat.reduceMul, reduceCtorEq, Int.reduceNeg, Int.reduceSub, Int.reduceAdd, Int.reduceLE, Int.reduceLT, Int.reduceMul, Int.reduceToNat, Int.reduceEq, Int.reduceBEq, Int.reduceBNe, Nat.reduceEqDiff]
    generalize t.drop 1 = rest at *
    cases rest with
    | nil =>
      have hnum := u_num [] (b := 10) (by omega) (by simp)
      refine vk_pass ?_
      simp only [wrap64, EV0, e_condB, Nat.reduceBEq, reduceIte, Nat.reduceAdd, Nat.reduceLeDiff, Nat.reduceLT, Nat.reduceSub, Nat.reduceMul, reduceCtorEq, Int.reduceNeg, Int.reduceSub, Int.reduceAdd, Int.reduceLE, Int.reduceLT, Int.reduceMul, Int.reduceToNat, Int.reduceEq, Int.reduceBEq, Int.reduceBNe, Nat.reduceEqDiff]
      refine vk_callR rfl ⟨_, .inl rfl, hnum⟩ ?_
      simp only [numF, wrap64, EV0, e_condB, Nat.reduceBEq, reduceIte, Nat.reduceAdd, Nat.reduceLeDiff, Nat.reduceLT, Nat.reduceSub, Nat.reduceMul, reduceCtorEq, Int.reduceNeg, Int.reduceSub, Int.reduceAdd, Int.reduceLE, Int.reduceLT, Int.reduceMul, Int.reduceToNat, Int.reduceEq, Int.reduceBEq, Int.reduceBNe, Nat.reduceEqDiff]
      exact ⟨_, _, rfl, rfl, .refl _⟩
    | cons c r =>
      have hlr : (c :: r).length = r.length + 1 := rfl
      have b0 : ((c :: r) == []) = false := rfl
      have c9 : ((1 : Int) ≤ ((r.length + 1 : Nat) : Int)) = True := eq_true (by omega)
      by_cases hx : c = 120
      · subst hx
        have eb : baseB (120 :: r) = (r, 16) := rfl
        have k0 : (((120 : UInt8).toNat : Int) == 120) = true := rfl
        rw [eb]
        refine vk_pass ?_
        simp only [wrap64, EV0, e_condB, Nat.reduceBEq, reduceIte, Nat.reduceAdd, Nat.reduceLeDiff, Nat.reduceLT, Nat.reduceSub, Nat.reduceMul, reduceCtorEq, Int.reduceNeg, Int.reduceSub, Int.reduceAdd, Int.reduceLE, Int.reduceLT, Int.reduceMul, Int.reduceToNat, Int.reduceEq, Int.reduceBEq, Int.reduceBNe, Nat.reduceEqDiff, b0, byteV, k0, c9, List.take_length]
        refine vk_callR rfl ⟨_, .inl rfl, u_num r (b := 16) (by omega) (by omega)⟩ ?_
        cases hN : numF 16 r 0 with
        | none =>
          have e2 : codeB r 16 = [] := by unfold codeB; rw [hN]
          simp only [wrap64, EV0, e_condB, Nat.reduceBEq, reduceIte, Nat.reduceAdd, Nat.reduceLeDiff, Nat.reduceLT, Nat.reduceSub, Nat.reduceMul, reduceCtorEq, Int.reduceNeg, Int.reduceSub, Int.reduceAdd, Int.reduceLE, Int.reduceLT, Int.reduceMul, Int.reduceToNat, Int.reduceEq, Int.reduceBEq, Int.reduceBNe, Nat.reduceEqDiff, e2]
          exact ⟨_, _, rfl, rfl, .refl _⟩
        | some n =>
          by_cases hr : r = []
          · have e2 : codeB r 16 = [] := by unfold codeB; rw [hN]; simp only; rw [if_pos hr]
            have hr : (r == []) = true := by simpa using hr
            simp only [wrap64, EV0, e_condB, Nat.reduceBEq, reduceIte, Nat.reduceAdd, Nat.reduceLeDiff, Nat.reduceLT, Nat.reduceSub, Nat.reduceMul, reduceCtorEq, Int.reduceNeg, Int.reduceSub, Int.reduceAdd, Int.reduceLE, Int.reduceLT, Int.reduceMul, Int.reduceToNat, Int.reduceEq, Int.reduceBEq, Int.reduceBNe, Nat.reduceEqDiff, e2, hr]
            exact ⟨_, _, rfl, rfl, .refl _⟩
          · have e2 : codeB r 16 = runeB (winN n) := by unfold codeB; rw [hN]; simp only; rw [if_neg hr]
            have hr : (r == []) = false := by simpa using hr
            simp only [wrap64, EV0, e_condB, Nat.reduceBEq, reduceIte, Nat.reduceAdd, Nat.reduceLeDiff, Nat.reduceLT, Nat.reduceSub, Nat.reduceMul, reduceCtorEq, Int.reduceNeg, Int.reduceSub, Int.reduceAdd, Int.reduceLE, Int.reduceLT, Int.reduceMul, Int.reduceToNat, Int.reduceEq, Int.reduceBEq, Int.reduceBNe, Nat.reduceEqDiff, e2, hr]
            refine vk_callR rfl ⟨_, .inl rfl, u_number n⟩ ?_
            simp only [wrap64, EV0, e_condB, Nat.reduceBEq, reduceIte, Nat.reduceAdd, Nat.reduceLeDiff, Nat.reduceLT, Nat.reduceSub, Nat.reduceMul, reduceCtorEq, Int.reduceNeg, Int.reduceSub, Int.reduceAdd, Int.reduceLE, Int.reduceLT, Int.reduceMul, Int.reduceToNat, Int.reduceEq, Int.reduceBEq, Int.reduceBNe, Nat.reduceEqDiff]
            exact ⟨_, _, rfl, rfl, .refl _⟩
      · have k0 : ((c.toNat : Int) == 120) = false := byte_ne (d := 120) rfl hx
        by_cases hX : c = 88
        · subst hX
          have eb : baseB (88 :: r) = (r, 16) := rfl
          have k1 : (((88 : UInt8).toNat : Int) == 88) = true := rfl
          rw [eb]
          refine vk_pass ?_
          simp only [wrap64, EV0, e_condB, Nat.reduceBEq, reduceIte, Nat.reduceAdd, Nat.reduceLeDiff, Nat.reduceLT, Nat.reduceSub, Nat.reduceMul, reduceCtorEq, Int.reduceNeg, Int.reduceSub, Int.reduceAdd, Int.reduceLE, Int.reduceLT, Int.reduceMul, Int.reduceToNat, Int.reduceEq, Int.reduceBEq, Int.reduceBNe, Nat.reduceEqDiff, b0, byteV, k0, k1, c9, List.take_length]
          refine vk_callR rfl ⟨_, .inl rfl, u_num r (b := 16) (by omega) (by omega)⟩ ?_
          cases hN : numF 16 r 0 with
          | none =>
            have e2 : codeB r 16 = [] := by unfold codeB; rw [hN]
            simp only [wrap64, EV0, e_condB, Nat.reduceBEq, reduceIte, Nat.reduceAdd, Nat.reduceLeDiff, Nat.reduceLT, Nat.reduceSub, Nat.reduceMul, reduceCtorEq, Int.reduceNeg, Int.reduceSub, Int.reduceAdd, Int.reduceLE, Int.reduceLT, Int.reduceMul, Int.reduceToNat, Int.reduceEq, Int.reduceBEq, Int.reduceBNe, Nat.reduceEqDiff, e2]
            exact ⟨_, _, rfl, rfl, .refl _⟩
          | some n =>
            by_cases hr : r = []
            · have e2 : codeB r 16 = [] := by unfold codeB; rw [hN]; simp only; rw [if_pos hr]
              have hr : (r == []) = true := by simpa using hr
              simp only [wrap64, EV0, e_condB, Nat.reduceBEq, reduceIte, Nat.reduceAdd, Nat.reduceLeDiff, Nat.reduceLT, Nat.reduceSub, Nat.reduceMul, reduceCtorEq, Int.reduceNeg, Int.reduceSub, Int.reduceAdd, Int.reduceLE, Int.reduceLT, Int.reduceMul, Int.reduceToNat, Int.reduceEq, Int.reduceBEq, Int.reduceBNe, Nat.reduceEqDiff, e2, hr]
              exact ⟨_, _, rfl, rfl, .refl _⟩
            · have e2 : codeB r 16 = runeB (winN n) := by unfold codeB; rw [hN]; simp only; rw [if_neg hr]
              have hr : (r == []) = false := by simpa using hr
              simp only [wrap64, EV0, e_condB, Nat.reduceBEq, reduceIte, Nat.reduceAdd, Nat.reduceLeDiff, Nat.reduceLT, Nat.reduceSub, Nat.reduceMul, reduceCtorEq, Int.reduceNeg, Int.reduceSub, Int.reduceAdd, Int.reduceLE, Int.reduceLT, Int.reduceMul, Int.reduceToNat, Int.reduceEq, Int.reduceBEq, Int.reduceBNe, Nat.reduceEqDiff, e2, hr]
              refine vk_callR rfl ⟨_, .inl rfl, u_number n⟩ ?_
              simp only [wrap64, EV0, e_condB, Nat.reduceBEq, reduceIte, Nat.reduceAdd, Nat.reduceLeDiff, Nat.reduceLT, Nat.reduceSub, Nat.reduceMul, reduceCtorEq, Int.reduceNeg, Int.reduceSub, Int.reduceAdd, Int.reduceLE, Int.reduceLT, Int.reduceMul, Int.reduceToNat, Int.reduceEq, Int.reduceBEq, Int.reduceBNe, Nat.reduceEqDiff]
              exact ⟨_, _, rfl, rfl, .refl _⟩
        · have k1 : ((c.toNat : Int) == 88) = false := byte_ne (d := 88) rfl hX
          have eb : baseB (c :: r) = (c :: r, 10) := by show (if _ then _ else _) = _; rw [if_neg (by simp [hx, hX])]
          rw [eb]
          refine vk_pass ?_
          simp only [wrap64, EV0, e_condB, Nat.reduceBEq, reduceIte, Nat.reduceAdd, Nat.reduceLeDiff, Nat.reduceLT, Nat.reduceSub, Nat.reduceMul, reduceCtorEq, Int.reduceNeg, Int.reduceSub, Int.reduceAdd, Int.reduceLE, Int.reduceLT, Int.reduceMul, Int.reduceToNat, Int.reduceEq, Int.reduceBEq, Int.reduceBNe, Nat.reduceEqDiff, b0, byteV, k0, k1]
          refine vk_callR rfl ⟨_, .inl rfl, u_num (c :: r) (b := 10) (by omega) (by omega)⟩ ?_
          cases hN : numF 10 (c :: r) 0 with
          | none =>
            have e2 : codeB (c :: r) 10 = [] := by unfold codeB; rw [hN]
            simp only [wrap64, EV0, e_condB, Nat.reduceBEq, reduceIte, Nat.reduceAdd, Nat.reduceLeDiff, Nat.reduceLT, Nat.reduceSub, Nat.reduceMul, reduceCtorEq, Int.reduceNeg, Int.reduceSub, Int.reduceAdd, Int.reduceLE, Int.reduceLT, Int.reduceMul, Int.reduceToNat, Int.reduceEq, Int.reduceBEq, Int.reduceBNe, Nat.reduceEqDiff, e2]
            exact ⟨_, _, rfl, rfl, .refl _⟩
          | some n =>
            have hr : ((c :: r) == []) = false := rfl
            have e2 : codeB (c :: r) 10 = runeB (winN n) := by unfold codeB; rw [hN]; simp only; rw [if_neg (by simp)]
            simp only [wrap64, EV0, e_condB, Nat.reduceBEq, reduceIte, Nat.reduceAdd, Nat.reduceLeDiff, Nat.reduceLT, Nat.reduceSub, Nat.reduceMul, reduceCtorEq, Int.reduceNeg, Int.reduceSub, Int.reduceAdd, Int.reduceLE, Int.reduceLT, Int.reduceMul, Int.reduceToNat, Int.reduceEq, Int.reduceBEq, Int.reduceBNe, Nat.reduceEqDiff, e2, hr]
            refine vk_callR rfl ⟨_, .inl rfl, u_number n⟩ ?_
            simp only [wrap64, EV0, e_condB, Nat.reduceBEq, reduceIte, Nat.reduceAdd, Nat.reduceLeDiff, Nat.reduceLT, Nat.reduceSub, Nat.reduceMul, reduceCtorEq, Int.reduceNeg, Int.reduceSub, Int.reduceAdd, Int.reduceLE, Int.reduceLT, Int.reduceMul, Int.reduceToNat, Int.reduceEq, Int.reduceBEq, Int.reduceBNe, Nat.reduceEqDiff]
            exact ⟨_, _, rfl, rfl, .refl _⟩
end Go.Proofs.VL

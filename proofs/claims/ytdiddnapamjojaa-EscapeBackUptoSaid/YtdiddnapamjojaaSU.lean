/- Contracts of functions of the program, for what calls them, and the law that its name tells. -/
import Derived.Test.YtdiddnapamjojaaST
namespace Go.Proofs.VL
open Go Go.RowKit
set_option maxRecDepth 100000
set_option maxHeartbeats 2000000
set_option linter.unusedSimpArgs false
set_option linter.unusedVariables false
attribute [local irreducible] vwp vk

def namedB (t : List UInt8) : List UInt8 :=
  if t = [97, 109, 112] then [38] else if t = [108, 116] then [60] else if t = [103, 116] then [62] else if t = [113, 117, 111, 116] then [34] else if t = [97, 112, 111, 115] then [39] else if t = [110, 98, 115, 112] then [194, 160] else []

theorem u_named (t : List UInt8) : VFn Try.prog 61 [.str t] (.str (namedB t)) := by
  refine VFn.intro ok61 (Nat.le_of_ble_eq_true rfl) (vk_start ?_)
  by_cases h0 : t = [97, 109, 112]
  · subst h0
    have b0 : (([97, 109, 112] : List UInt8) == [97, 109, 112]) = true := rfl
    have e : namedB [97, 109, 112] = [38] := rfl
    rw [e]
    simp only [vc61, rs61, wrap64, EV0, e_condB, Nat.reduceBEq, reduceIte, Nat.reduceAdd, Nat.reduceLeDiff, Nat.reduceLT, Nat.reduceSub, Nat.reduceMul, reduceCtorEq, Int.reduceNeg, Int.reduceSub, Int.reduceAdd, Int.reduceLE, Int.reduceLT, Int.reduceMul, Int.reduceToNat, Int.reduceEq, Int.reduceBEq, Int.reduceBNe, Nat.reduceEqDiff, b0]
    exact ⟨_, _, rfl, rfl, .refl _⟩
  by_cases h1 : t = [108, 116]
  · subst h1
    have b0 : (([108, 116] : List UInt8) == [97, 109, 112]) = false := rfl
    have b1 : (([108, 116] : List UInt8) == [108, 116]) = true := rfl
    have e : namedB [108, 116] = [60] := rfl
    rw [e]
    simp only [vc61, rs61, wrap64, EV0, e_condB, Nat.reduceBEq, reduceIte, Nat.reduceAdd, Nat.reduceLeDiff, Nat.reduceLT, Nat.reduceSub, Nat.reduceMul, reduceCtorEq, Int.reduceNeg, Int.reduceSub, Int.reduceAdd, Int.reduceLE, Int.reduceLT, Int.reduceMul, Int.reduceToNat, Int.reduceEq, Int.reduceBEq, Int.reduceBNe, Nat.reduceEqDiff, b0, b1]
    exact ⟨_, _, rfl, rfl, .refl _⟩
  by_cases h2 : t = [103, 116]
  · subst h2
    have b0 : (([103, 116] : List UInt8) == [97, 109, 112]) = false := rfl
    have b1 : (([103, 116] : List UInt8) == [108, 116]) = false := rfl
    have b2 : (([103, 116] : List UInt8) == [103, 116]) = true := rfl
    have e : namedB [103, 116] = [62] := rfl
    rw [e]
    simp only [vc61, rs61, wrap64, EV0, e_condB, Nat.reduceBEq, reduceIte, Nat.reduceAdd, Nat.reduceLeDiff, Nat.reduceLT, Nat.reduceSub, Nat.reduceMul, reduceCtorEq, Int.reduceNeg, Int.reduceSub, Int.reduceAdd, Int.reduceLE, Int.reduceLT, Int.reduceMul, Int.reduceToNat, Int.reduceEq, Int.reduceBEq, Int.reduceBNe, Nat.reduceEqDiff, b0, b1, b2]
    exact ⟨_, _, rfl, rfl, .refl _⟩
  by_cases h3 : t = [113, 117, 111, 116]
  · subst h3
    have b0 : (([113, 117, 111, 116] : List UInt8) == [97, 109, 112]) = false := rfl
    have b1 : (([113, 117, 111, 116] : List UInt8) == [108, 116]) = false := rfl
    have b2 : (([113, 117, 111, 116] : List UInt8) == [103, 116]) = false := rfl
    have b3 : (([113, 117, 111, 116] : List UInt8) == [113, 117, 111, 116]) = true := rfl
    have e : namedB [113, 117, 111, 116] = [34] := rfl
    rw [e]
    simp only [vc61, rs61, wrap64, EV0, e_condB, Nat.reduceBEq, reduceIte, Nat.reduceAdd, Nat.reduceLeDiff, Nat.reduceLT, Nat.reduceSub, Nat.reduceMul, reduceCtorEq, Int.reduceNeg, Int.reduceSub, Int.reduceAdd, Int.reduceLE, Int.reduceLT, Int.reduceMul, Int.reduceToNat, Int.reduceEq, Int.reduceBEq, Int.reduceBNe, Nat.reduceEqDiff, b0, b1, b2, b3]
    exact ⟨_, _, rfl, rfl, .refl _⟩
  by_cases h4 : t = [97, 112, 111, 115]
  · subst h4
    have b0 : (([97, 112, 111, 115] : List UInt8) == [97, 109, 112]) = false := rfl
    have b1 : (([97, 112, 111, 115] : List UInt8) == [108, 116]) = false := rfl
    have b2 : (([97, 112, 111, 115] : List UInt8) == [103, 116]) = false := rfl
    have b3 : (([97, 112, 111, 115] : List UInt8) == [113, 117, 111, 116]) = false := rfl
    have b4 : (([97, 112, 111, 115] : List UInt8) == [97, 112, 111, 115]) = true := rfl
    have e : namedB [97, 112, 111, 115] = [39] := rfl
    rw [e]
    simp only [vc61, rs61, wrap64, EV0, e_condB, Nat.reduceBEq, reduceIte, Nat.reduceAdd, Nat.reduceLeDiff, Nat.reduceLT, Nat.reduceSub, Nat.reduceMul, reduceCtorEq, Int.reduceNeg, Int.reduceSub, Int.reduceAdd, Int.reduceLE, Int.reduceLT, Int.reduceMul, Int.reduceToNat, Int.reduceEq, Int.reduceBEq, Int.reduceBNe, Nat.reduceEqDiff, b0, b1, b2, b3, b4]
    exact ⟨_, _, rfl, rfl, .refl _⟩
  by_cases h5 : t = [110, 98, 115, 112]
  · subst h5
    have b0 : (([110, 98, 115, 112] : List UInt8) == [97, 109, 112]) = false := rfl
    have b1 : (([110, 98, 115, 112] : List UInt8) == [108, 116]) = false := rfl
    have b2 : (([110, 98, 115, 112] : List UInt8) == [103, 116]) = false := rfl
    have b3 : (([110, 98, 115, 112] : List UInt8) == [113, 117, 111, 116]) = false := rfl
    have b4 : (([110, 98, 115, 112] : List UInt8) == [97, 112, 111, 115]) = false := rfl
    have b5 : (([110, 98, 115, 112] : List UInt8) == [110, 98, 115, 112]) = true := rfl
    have e : namedB [110, 98, 115, 112] = [194, 160] := rfl
    rw [e]
    simp only [vc61, rs61, wrap64, EV0, e_condB, Nat.reduceBEq, reduceIte, Nat.reduceAdd, Nat.reduceLeDiff, Nat.reduceLT, Nat.reduceSub, Nat.reduceMul, reduceCtorEq, Int.reduceNeg, Int.reduceSub, Int.reduceAdd, Int.reduceLE, Int.reduceLT, Int.reduceMul, Int.reduceToNat, Int.reduceEq, Int.reduceBEq, Int.reduceBNe, Nat.reduceEqDiff, b0, b1, b2, b3, b4, b5]
    exact ⟨_, _, rfl, rfl, .refl _⟩
  have b0 : (t == [97, 109, 112]) = false := by simpa using h0
  have b1 : (t == [108, 116]) = false := by simpa using h1
  have b2 : (t == [103, 116]) = false := by simpa using h2
  have b3 : (t == [113, 117, 111, 116]) = false := by simpa using h3
  have b4 : (t == [97, 112, 111, 115]) = false := by simpa using h4
  have b5 : (t == [110, 98, 115, 112]) = false := by simpa using h5
  have e : namedB t = [] := by unfold namedB; rw [if_neg h0, if_neg h1, if_neg h2, if_neg h3, if_neg h4, if_neg h5]
  rw [e]
  simp only [vc61, rs61, wrap64, EV0, e_condB, Nat.reduceBEq, reduceIte, Nat.reduceAdd, Nat.reduceLeDiff, Nat.reduceLT, Nat.reduceSub, Nat.reduceMul, reduceCtorEq, Int.reduceNeg, Int.reduceSub, Int.reduceAdd, Int.reduceLE, Int.reduceLT, Int.reduceMul, Int.reduceToNat, Int.reduceEq, Int.reduceBEq, Int.reduceBNe, Nat.reduceEqDiff, b0, b1, b2, b3, b4, b5]
  exact ⟨_, _, rfl, rfl, .refl _⟩

theorem ref_named (t : List UInt8) : VFn Try.prog 62 [.str t] (.str (namedB t)) := by
  refine VFn.intro ok62 (Nat.le_of_ble_eq_true rfl) (vk_start ?_)
  simp only [vc62, rs62, wrap64, EV0, e_condB, Nat.reduceBEq, reduceIte, Nat.reduceAdd, Nat.reduceLeDiff, Nat.reduceLT, Nat.reduceSub, Nat.reduceMul, reduceCtorEq, Int.reduceNeg, Int.reduceSub, Int.reduceAdd, Int.reduceLE, Int.reduceLT, Int.reduceMul, Int.reduceToNat, Int.reduceEq, Int.reduceBEq, Int.reduceBNe, Nat.reduceEqDiff]
  refine vk_loopR (γ := Nat) (fun i => { tm := [(0, .str t), (3, .sl 1 [[V.str [97, 109, 112]], [V.str [108, 116]], [V.str [103, 116]], [V.str [113, 117, 111, 116]], [V.str [97, 112, 111, 115]], [V.str [110, 98, 115, 112]]]), (4, .sl 1 [[V.str [38]], [V.str [60]], [V.str [62]], [V.str [34]], [V.str [39]], [V.str [194, 160]]]), (5, .int .i64 (i : Nat))], ob := [], base := 0 })
    (fun i => i ≤ 6 ∧ (0 < i → t ≠ [97, 109, 112]) ∧ (1 < i → t ≠ [108, 116]) ∧ (2 < i → t ≠ [103, 116]) ∧ (3 < i → t ≠ [113, 117, 111, 116]) ∧ (4 < i → t ≠ [97, 112, 111, 115]) ∧ (5 < i → t ≠ [110, 98, 115, 112])) (fun i => 6 - i) 0 ⟨by omega, by omega, by omega, by omega, by omega, by omega, by omega⟩ ?_ ?_
  · exact ⟨[], rfl, rfl, rfl, rfl, ⟨.same _ rfl, .same _ rfl, .same _ rfl, .same _ rfl, trivial⟩, trivial⟩
  · rintro i ⟨hi, q0, q1, q2, q3, q4, q5⟩ R hN hE hR
    have hc : i = 0 ∨ i = 1 ∨ i = 2 ∨ i = 3 ∨ i = 4 ∨ i = 5 ∨ i = 6 := by omega
    rcases hc with rfl | rfl | rfl | rfl | rfl | rfl | rfl
    · by_cases h : t = [97, 109, 112]
      · subst h
        have b0 : (([97, 109, 112] : List UInt8) == [97, 109, 112]) = true := rfl
        have e : namedB [97, 109, 112] = [38] := rfl
        have c0 : (0 ≤ ((0 : Nat) : Int)) = True := by simp
        have c1 : (((0 : Nat) : Int) < 6) = True := by simp
        simp only [wrap64, EV0, e_condB, Nat.reduceBEq, reduceIte, Nat.reduceAdd, Nat.reduceLeDiff, Nat.reduceLT, Nat.reduceSub, Nat.reduceMul, reduceCtorEq, Int.reduceNeg, Int.reduceSub, Int.reduceAdd, Int.reduceLE, Int.reduceLT, Int.reduceMul, Int.reduceToNat, Int.reduceEq, Int.reduceBEq, Int.reduceBNe, Nat.reduceEqDiff, b0, c0, c1]
        refine hR _ ?_
        simp only [wrap64, EV0, e_condB, Nat.reduceBEq, reduceIte, Nat.reduceAdd, Nat.reduceLeDiff, Nat.reduceLT, Nat.reduceSub, Nat.reduceMul, reduceCtorEq, Int.reduceNeg, Int.reduceSub, Int.reduceAdd, Int.reduceLE, Int.reduceLT, Int.reduceMul, Int.reduceToNat, Int.reduceEq, Int.reduceBEq, Int.reduceBNe, Nat.reduceEqDiff, e]
        exact ⟨_, _, rfl, rfl, .refl _⟩
      · have b0 : (([97, 109, 112] : List UInt8) == t) = false := by simpa using (Ne.symm h)
        have w : IntKind.i64.wrap (((0 : Nat) : Int) + 1) = ((1 : Nat) : Int) := by decide
        have c0 : (0 ≤ ((0 : Nat) : Int)) = True := by simp
        have c1 : (((0 : Nat) : Int) < 6) = True := by simp
        simp only [wrap64, EV0, e_condB, Nat.reduceBEq, reduceIte, Nat.reduceAdd, Nat.reduceLeDiff, Nat.reduceLT, Nat.reduceSub, Nat.reduceMul, reduceCtorEq, Int.reduceNeg, Int.reduceSub, Int.reduceAdd, Int.reduceLE, Int.reduceLT, Int.reduceMul, Int.reduceToNat, Int.reduceEq, Int.reduceBEq, Int.reduceBNe, Nat.reduceEqDiff, b0, c0, c1, w]
        refine hN _ 1 ⟨by omega, fun _ => h, by omega, by omega, by omega, by omega, by omega⟩ (by omega) ?_
        exact ⟨[], rfl, rfl, rfl, rfl, ⟨.same _ rfl, .same _ rfl, .same _ rfl, .same _ rfl, trivial⟩, trivial⟩
    · by_cases h : t = [108, 116]
      · subst h
        have b0 : (([108, 116] : List UInt8) == [108, 116]) = true := rfl
        have e : namedB [108, 116] = [60] := rfl
        have c0 : (0 ≤ ((1 : Nat) : Int)) = True := by simp
        have c1 : (((1 : Nat) : Int) < 6) = True := by simp
        simp only [wrap64, EV0, e_condB, Nat.reduceBEq, reduceIte, Nat.reduceAdd, Nat.reduceLeDiff, Nat.reduceLT, Nat.reduceSub, Nat.reduceMul, reduceCtorEq, Int.reduceNeg, Int.reduceSub, Int.reduceAdd, Int.reduceLE, Int.reduceLT, Int.reduceMul, Int.reduceToNat, Int.reduceEq, Int.reduceBEq, Int.reduceBNe, Nat.reduceEqDiff, b0, c0, c1]
        refine hR _ ?_
        simp only [wrap64, EV0, e_condB, Nat.reduceBEq, reduceIte, Nat.reduceAdd, Nat.reduceLeDiff, Nat.reduceLT, Nat.reduceSub, Nat.reduceMul, reduceCtorEq, Int.reduceNeg, Int.reduceSub, Int.reduceAdd, Int.reduceLE, Int.reduceLT, Int.reduceMul, Int.reduceToNat, Int.reduceEq, Int.reduceBEq, Int.reduceBNe, Nat.reduceEqDiff, e]
        exact ⟨_, _, rfl, rfl, .refl _⟩
      · have b0 : (([108, 116] : List UInt8) == t) = false := by simpa using (Ne.symm h)
        have w : IntKind.i64.wrap (((1 : Nat) : Int) + 1) = ((2 : Nat) : Int) := by decide
        have c0 : (0 ≤ ((1 : Nat) : Int)) = True := by simp
        have c1 : (((1 : Nat) : Int) < 6) = True := by simp
        simp only [wrap64, EV0, e_condB, Nat.reduceBEq, reduceIte, Nat.reduceAdd, Nat.reduceLeDiff, Nat.reduceLT, Nat.reduceSub, Nat.reduceMul, reduceCtorEq, Int.reduceNeg, Int.reduceSub, Int.reduceAdd, Int.reduceLE, Int.reduceLT, Int.reduceMul, Int.reduceToNat, Int.reduceEq, Int.reduceBEq, Int.reduceBNe, Nat.reduceEqDiff, b0, c0, c1, w]
        refine hN _ 2 ⟨by omega, fun _ => q0 (by omega), fun _ => h, by omega, by omega, by omega, by omega⟩ (by omega) ?_
        exact ⟨[], rfl, rfl, rfl, rfl, ⟨.same _ rfl, .same _ rfl, .same _ rfl, .same _ rfl, trivial⟩, trivial⟩
    · by_cases h : t = [103, 116]
      · subst h
        have b0 : (([103, 116] : List UInt8) == [103, 116]) = true := rfl
        have e : namedB [103, 116] = [62] := rfl
        have c0 : (0 ≤ ((2 : Nat) : Int)) = True := by simp
        have c1 : (((2 : Nat) : Int) < 6) = True := by simp
        simp only [wrap64, EV0, e_condB, Nat.reduceBEq, reduceIte, Nat.reduceAdd, Nat.reduceLeDiff, Nat.reduceLT, Nat.reduceSub, Nat.reduceMul, reduceCtorEq, Int.reduceNeg, Int.reduceSub, Int.reduceAdd, Int.reduceLE, Int.reduceLT, Int.reduceMul, Int.reduceToNat, Int.reduceEq, Int.reduceBEq, Int.reduceBNe, Nat.reduceEqDiff, b0, c0, c1]
        refine hR _ ?_
        simp only [wrap64, EV0, e_condB, Nat.reduceBEq, reduceIte, Nat.reduceAdd, Nat.reduceLeDiff, Nat.reduceLT, Nat.reduceSub, Nat.reduceMul, reduceCtorEq, Int.reduceNeg, Int.reduceSub, Int.reduceAdd, Int.reduceLE, Int.reduceLT, Int.reduceMul, Int.reduceToNat, Int.reduceEq, Int.reduceBEq, Int.reduceBNe, Nat.reduceEqDiff, e]
        exact ⟨_, _, rfl, rfl, .refl _⟩
      · have b0 : (([103, 116] : List UInt8) == t) = false := by simpa using (Ne.symm h)
        have w : IntKind.i64.wrap (((2 : Nat) : Int) + 1) = ((3 : Nat) : Int) := by decide
        have c0 : (0 ≤ ((2 : Nat) : Int)) = True := by simp
        have c1 : (((2 : Nat) : Int) < 6) = True := by simp
        simp only [wrap64, EV0, e_condB, Nat.reduceBEq, reduceIte, Nat.reduceAdd, Nat.reduceLeDiff, Nat.reduceLT, Nat.reduceSub, Nat.reduceMul, reduceCtorEq, Int.reduceNeg, Int.reduceSub, Int.reduceAdd, Int.reduceLE, Int.reduceLT, Int.reduceMul, Int.reduceToNat, Int.reduceEq, Int.reduceBEq, Int.reduceBNe, Nat.reduceEqDiff, b0, c0, c1, w]
        refine hN _ 3 ⟨by omega, fun _ => q0 (by omega), fun _ => q1 (by omega), fun _ => h, by omega, by omega, by omega⟩ (by omega) ?_
        exact ⟨[], rfl, rfl, rfl, rfl, ⟨.same _ rfl, .same _ rfl, .same _ rfl, .same _ rfl, trivial⟩, trivial⟩
    · by_cases h : t = [113, 117, 111, 116]
      · subst h
        have b0 : (([113, 117, 111, 116] : List UInt8) == [113, 117, 111, 116]) = true := rfl
        have e : namedB [113, 117, 111, 116] = [34] := rfl
        have c0 : (0 ≤ ((3 : Nat) : Int)) = True := by simp
        have c1 : (((3 : Nat) : Int) < 6) = True := by simp
        simp only [wrap64, EV0, e_condB, Nat.reduceBEq, reduceIte, Nat.reduceAdd, Nat.reduceLeDiff, Nat.reduceLT, Nat.reduceSub, Nat.reduceMul, reduceCtorEq, Int.reduceNeg, Int.reduceSub, Int.reduceAdd, Int.reduceLE, Int.reduceLT, Int.reduceMul, Int.reduceToNat, Int.reduceEq, Int.reduceBEq, Int.reduceBNe, Nat.reduceEqDiff, b0, c0, c1]
        refine hR _ ?_
        simp only [wrap64, EV0, e_condB, Nat.reduceBEq, reduceIte, Nat.reduceAdd, Nat.reduceLeDiff, Nat.reduceLT, Nat.reduceSub, Nat.reduceMul, reduceCtorEq, Int.reduceNeg, Int.reduceSub, Int.reduceAdd, Int.reduceLE, Int.reduceLT, Int.reduceMul, Int.reduceToNat, Int.reduceEq, Int.reduceBEq, Int.reduceBNe, Nat.reduceEqDiff, e]
        exact ⟨_, _, rfl, rfl, .refl _⟩
      · have b0 : (([113, 117, 111, 116] : List UInt8) == t) = false := by simpa using (Ne.symm h)
        have w : IntKind.i64.wrap (((3 : Nat) : Int) + 1) = ((4 : Nat) : Int) := by decide
        have c0 : (0 ≤ ((3 : Nat) : Int)) = True := by simp
        have c1 : (((3 : Nat) : Int) < 6) = True := by simp
        simp only [wrap64, EV0, e_condB, Nat.reduceBEq, reduceIte, Nat.reduceAdd, Nat.reduceLeDiff, Nat.reduceLT, Nat.reduceSub, Nat.reduceMul, reduceCtorEq, Int.reduceNeg, Int.reduceSub, Int.reduceAdd, Int.reduceLE, Int.reduceLT, Int.reduceMul, Int.reduceToNat, Int.reduceEq, Int.reduceBEq, Int.reduceBNe, Nat.reduceEqDiff, b0, c0, c1, w]
        refine hN _ 4 ⟨by omega, fun _ => q0 (by omega), fun _ => q1 (by omega), fun _ => q2 (by omega), fun _ => h, by omega, by omega⟩ (by omega) ?_
        exact ⟨[], rfl, rfl, rfl, rfl, ⟨.same _ rfl, .same _ rfl, .same _ rfl, .same _ rfl, trivial⟩, trivial⟩
    · by_cases h : t = [97, 112, 111, 115]
      · subst h
        have b0 : (([97, 112, 111, 115] : List UInt8) == [97, 112, 111, 115]) = true := rfl
        have e : namedB [97, 112, 111, 115] = [39] := rfl
        have c0 : (0 ≤ ((4 : Nat) : Int)) = True := by simp
        have c1 : (((4 : Nat) : Int) < 6) = True := by simp
        simp only [wrap64, EV0, e_condB, Nat.reduceBEq, reduceIte, Nat.reduceAdd, Nat.reduceLeDiff, Nat.reduceLT, Nat.reduceSub, Nat.reduceMul, reduceCtorEq, Int.reduceNeg, Int.reduceSub, Int.reduceAdd, Int.reduceLE, Int.reduceLT, Int.reduceMul, Int.reduceToNat, Int.reduceEq, Int.reduceBEq, Int.reduceBNe, Nat.reduceEqDiff, b0, c0, c1]
        refine hR _ ?_
        simp only [wrap64, EV0, e_condB, Nat.reduceBEq, reduceIte, Nat.reduceAdd, Nat.reduceLeDiff, Nat.reduceLT, Nat.reduceSub, Nat.reduceMul, reduceCtorEq, Int.reduceNeg, Int.reduceSub, Int.reduceAdd, Int.reduceLE, Int.reduceLT, Int.reduceMul, Int.reduceToNat, Int.reduceEq, Int.reduceBEq, Int.reduceBNe, Nat.reduceEqDiff, e]
        exact ⟨_, _, rfl, rfl, .refl _⟩
      · have b0 : (([97, 112, 111, 115] : List UInt8) == t) = false := by simpa using (Ne.symm h)
        have w : IntKind.i64.wrap (((4 : Nat) : Int) + 1) = ((5 : Nat) : Int) := by decide
        have c0 : (0 ≤ ((4 : Nat) : Int)) = True := by simp
        have c1 : (((4 : Nat) : Int) < 6) = True := by simp
        simp only [wrap64, EV0, e_condB, Nat.reduceBEq, reduceIte, Nat.reduceAdd, Nat.reduceLeDiff, Nat.reduceLT, Nat.reduceSub, Nat.reduceMul, reduceCtorEq, Int.reduceNeg, Int.reduceSub, Int.reduceAdd, Int.reduceLE, Int.reduceLT, Int.reduceMul, Int.reduceToNat, Int.reduceEq, Int.reduceBEq, Int.reduceBNe, Nat.reduceEqDiff, b0, c0, c1, w]
        refine hN _ 5 ⟨by omega, fun _ => q0 (by omega), fun _ => q1 (by omega), fun _ => q2 (by omega), fun _ => q3 (by omega), fun _ => h, by omega⟩ (by omega) ?_
        exact ⟨[], rfl, rfl, rfl, rfl, ⟨.same _ rfl, .same _ rfl, .same _ rfl, .same _ rfl, trivial⟩, trivial⟩
    · by_cases h : t = [110, 98, 115, 112]
      · subst h
        have b0 : (([110, 98, 115, 112] : List UInt8) == [110, 98, 115, 112]) = true := rfl
        have e : namedB [110, 98, 115, 112] = [194, 160] := rfl
        have c0 : (0 ≤ ((5 : Nat) : Int)) = True := by simp
        have c1 : (((5 : Nat) : Int) < 6) = True := by simp
        simp only [wrap64, EV0, e_condB, Nat.reduceBEq, reduceIte, Nat.reduceAdd, Nat.reduceLeDiff, Nat.reduceLT, Nat.reduceSub, Nat.reduceMul, reduceCtorEq, Int.reduceNeg, Int.reduceSub, Int.reduceAdd, Int.reduceLE, Int.reduceLT, Int.reduceMul, Int.reduceToNat, Int.reduceEq, Int.reduceBEq, Int.reduceBNe, Nat.reduceEqDiff, b0, c0, c1]
        refine hR _ ?_
        simp only [wrap64, EV0, e_condB, Nat.reduceBEq, reduceIte, Nat.reduceAdd, Nat.reduceLeDiff, Nat.reduceLT, Nat.reduceSub, Nat.reduceMul, reduceCtorEq, Int.reduceNeg, Int.reduceSub, Int.reduceAdd, Int.reduceLE, Int.reduceLT, Int.reduceMul, Int.reduceToNat, Int.reduceEq, Int.reduceBEq, Int.reduceBNe, Nat.reduceEqDiff, e]
        exact ⟨_, _, rfl, rfl, .refl _⟩
      · have b0 : (([110, 98, 115, 112] : List UInt8) == t) = false := by simpa using (Ne.symm h)
        have w : IntKind.i64.wrap (((5 : Nat) : Int) + 1) = ((6 : Nat) : Int) := by decide
        have c0 : (0 ≤ ((5 : Nat) : Int)) = True := by simp
        have c1 : (((5 : Nat) : Int) < 6) = True := by simp
        simp only [wrap64, EV0, e_condB, Nat.reduceBEq, reduceIte, Nat.reduceAdd, Nat.reduceLeDiff, Nat.reduceLT, Nat.reduceSub, Nat.reduceMul, reduceCtorEq, Int.reduceNeg, Int.reduceSub, Int.reduceAdd, Int.reduceLE, Int.reduceLT, Int.reduceMul, Int.reduceToNat, Int.reduceEq, Int.reduceBEq, Int.reduceBNe, Nat.reduceEqDiff, b0, c0, c1, w]
        refine hN _ 6 ⟨by omega, fun _ => q0 (by omega), fun _ => q1 (by omega), fun _ => q2 (by omega), fun _ => q3 (by omega), fun _ => q4 (by omega), fun _ => h⟩ (by omega) ?_
        exact ⟨[], rfl, rfl, rfl, rfl, ⟨.same _ rfl, .same _ rfl, .same _ rfl, .same _ rfl, trivial⟩, trivial⟩
    · have e : namedB t = [] := by unfold namedB; rw [if_neg (q0 (by omega)), if_neg (q1 (by omega)), if_neg (q2 (by omega)), if_neg (q3 (by omega)), if_neg (q4 (by omega)), if_neg (q5 (by omega))]
      have c0 : (0 ≤ ((6 : Nat) : Int)) = True := by simp
      have c1 : (((6 : Nat) : Int) < 6) = False := by simp
      simp only [wrap64, EV0, e_condB, Nat.reduceBEq, reduceIte, Nat.reduceAdd, Nat.reduceLeDiff, Nat.reduceLT, Nat.reduceSub, Nat.reduceMul, reduceCtorEq, Int.reduceNeg, Int.reduceSub, Int.reduceAdd, Int.reduceLE, Int.reduceLT, Int.reduceMul, Int.reduceToNat, Int.reduceEq, Int.reduceBEq, Int.reduceBNe, Nat.reduceEqDiff, c0, c1]
      refine hE _ _ ?_
      simp only [wrap64, EV0, e_condB, Nat.reduceBEq, reduceIte, Nat.reduceAdd, Nat.reduceLeDiff, Nat.reduceLT, Nat.reduceSub, Nat.reduceMul, reduceCtorEq, Int.reduceNeg, Int.reduceSub, Int.reduceAdd, Int.reduceLE, Int.reduceLT, Int.reduceMul, Int.reduceToNat, Int.reduceEq, Int.reduceBEq, Int.reduceBNe, Nat.reduceEqDiff, e]
      exact ⟨_, _, rfl, rfl, .refl _⟩
end Go.Proofs.VL

/- Contracts of functions of the program, for what calls them, and the law that its name tells. -/
import Derived.Test.YtdiddnapamjojaaSR
import Derived.Test.YtdiddnapamjojaaV2
namespace Go.Proofs.VL
open Go Go.RowKit
set_option maxRecDepth 100000
set_option maxHeartbeats 2000000
set_option linter.unusedSimpArgs false
set_option linter.unusedVariables false

theorem u_more {n s q : Nat} (hn : n < 4000000) (hs : s ≤ 30) (hq : n / 2 ^ s = q) : VFn Try.prog 135 [.int .i64 n, .int .i64 s] (.int .u8 ((128 + q % 64 : Nat) : Int)) := by
  refine VFn.intro ok135 (Nat.le_of_ble_eq_true rfl) (vk_start ?_)
  have c0 : ((s : Int) < 0) = False := by simp
  have e1 : ((n : Int)).fdiv (2 ^ min s IntKind.i64.bits) = ((q : Nat) : Int) := by rw [shr_nat, Nat.min_eq_left (by omega), hq]
  have hq2 : q ≤ n := by rw [← hq]; exact Nat.div_le_self _ _
  have e2 := and63 q (by omega)
  have hlt : q % 64 < 64 := Nat.mod_lt _ (by decide)
  have e3 := or128 hlt
  have e4 : IntKind.u8.wrap ((128 + q % 64 : Nat) : Int) = ((128 + q % 64 : Nat) : Int) := wrap_u8 (by omega) (by omega)
  simp only [vc135, rs135, wrap64, EV0, e_condB, Nat.reduceBEq, reduceIte, Nat.reduceAdd, Nat.reduceLeDiff, Nat.reduceLT, Nat.reduceSub, Nat.reduceMul, reduceCtorEq, Int.reduceNeg, Int.reduceSub, Int.reduceAdd, Int.reduceLE, Int.reduceLT, Int.reduceMul, Int.reduceToNat, Int.reduceEq, Int.reduceBEq, Int.reduceBNe, Nat.reduceEqDiff, c0, e1, e2, e3, e4]
  exact ⟨_, _, rfl, rfl, .refl _⟩

theorem u_rune_bad {n : Int} (h : n < 1 ∨ 1114111 < n ∨ (55296 ≤ n ∧ n ≤ 57343)) : VFn Try.prog 111 [.int .i64 n] (.str (runeB n)) := by
  refine VFn.intro ok111 (Nat.le_of_ble_eq_true rfl) (vk_start ?_)
  rw [rune_bad h]
  by_cases a0 : n < 1
  · have a0 : (n < 1) = True := eq_true a0
    simp only [vc111, rs111, wrap64, EV0, e_condB, Nat.reduceBEq, reduceIte, Nat.reduceAdd, Nat.reduceLeDiff, Nat.reduceLT, Nat.reduceSub, Nat.reduceMul, reduceCtorEq, Int.reduceNeg, Int.reduceSub, Int.reduceAdd, Int.reduceLE, Int.reduceLT, Int.reduceMul, Int.reduceToNat, Int.reduceEq, Int.reduceBEq, Int.reduceBNe, Nat.reduceEqDiff, a0]
    exact ⟨_, _, rfl, rfl, .refl _⟩
  · by_cases a1 : 1114111 < n
    · have a0 : (n < 1) = False := eq_false a0
      have a1 : (1114111 < n) = True := eq_true a1
      simp only [vc111, rs111, wrap64, EV0, e_condB, Nat.reduceBEq, reduceIte, Nat.reduceAdd, Nat.reduceLeDiff, Nat.reduceLT, Nat.reduceSub, Nat.reduceMul, reduceCtorEq, Int.reduceNeg, Int.reduceSub, Int.reduceAdd, Int.reduceLE, Int.reduceLT, Int.reduceMul, Int.reduceToNat, Int.reduceEq, Int.reduceBEq, Int.reduceBNe, Nat.reduceEqDiff, a0, a1]
      exact ⟨_, _, rfl, rfl, .refl _⟩
    · have a2 : (55296 ≤ n) = True := eq_true (by omega)
      have a3 : (n ≤ 57343) = True := eq_true (by omega)
      have a0 : (n < 1) = False := eq_false a0
      have a1 : (1114111 < n) = False := eq_false a1
      simp only [vc111, rs111, wrap64, EV0, e_condB, Nat.reduceBEq, reduceIte, Nat.reduceAdd, Nat.reduceLeDiff, Nat.reduceLT, Nat.reduceSub, Nat.reduceMul, reduceCtorEq, Int.reduceNeg, Int.reduceSub, Int.reduceAdd, Int.reduceLE, Int.reduceLT, Int.reduceMul, Int.reduceToNat, Int.reduceEq, Int.reduceBEq, Int.reduceBNe, Nat.reduceEqDiff, a0, a1, a2, a3]
      exact ⟨_, _, rfl, rfl, .refl _⟩

theorem u_rune (n : Int) : VFn Try.prog 111 [.int .i64 n] (.str (runeB n)) := by
  by_cases hb : n < 1 ∨ 1114111 < n ∨ (55296 ≤ n ∧ n ≤ 57343)
  · exact u_rune_bad hb
  obtain ⟨m, rfl⟩ : ∃ m : Nat, n = m := ⟨n.toNat, by omega⟩
  refine VFn.intro ok111 (Nat.le_of_ble_eq_true rfl) (vk_start ?_)
  have a0 : ((m : Int) < 1) = False := eq_false (by omega)
  have a1 : (1114111 < (m : Int)) = False := eq_false (by omega)
  have hg : (55296 ≤ (m : Int)) = False ∨ ((55296 ≤ (m : Int)) = True ∧ ((m : Int) ≤ 57343) = False) := by
    by_cases h : 55296 ≤ (m : Int)
    · exact .inr ⟨eq_true h, eq_false (by omega)⟩
    · exact .inl (eq_false h)
  have wm : m < 256 → IntKind.u8.wrap (m : Int) = m := fun h => wrap_u8 (by omega) (by omega)
  by_cases h1 : m < 128
  · have a3 : ((m : Int) < 128) = True := eq_true (by omega)
    have w := wm (by omega)
    rw [rune_1 ⟨by omega, h1⟩]
    rcases hg with hg | ⟨hg, hg2⟩
    · simp only [vc111, rs111, wrap64, EV0, e_condB, Nat.reduceBEq, reduceIte, Nat.reduceAdd, Nat.reduceLeDiff, Nat.reduceLT, Nat.reduceSub, Nat.reduceMul, reduceCtorEq, Int.reduceNeg, Int.reduceSub, Int.reduceAdd, Int.reduceLE, Int.reduceLT, Int.reduceMul, Int.reduceToNat, Int.reduceEq, Int.reduceBEq, Int.reduceBNe, Nat.reduceEqDiff, a0, a1, hg, a3, w, rowsBytes, Int.toNat_natCast, Option.map_some]
      exact ⟨_, _, rfl, rfl, .refl _⟩
    · simp only [vc111, rs111, wrap64, EV0, e_condB, Nat.reduceBEq, reduceIte, Nat.reduceAdd, Nat.reduceLeDiff, Nat.reduceLT, Nat.reduceSub, Nat.reduceMul, reduceCtorEq, Int.reduceNeg, Int.reduceSub, Int.reduceAdd, Int.reduceLE, Int.reduceLT, Int.reduceMul, Int.reduceToNat, Int.reduceEq, Int.reduceBEq, Int.reduceBNe, Nat.reduceEqDiff, a0, a1, hg, hg2, a3, w, rowsBytes, Int.toNat_natCast, Option.map_some]
      exact ⟨_, _, rfl, rfl, .refl _⟩
  · have a3 : ((m : Int) < 128) = False := eq_false (by omega)
    by_cases h2 : m < 2048
    · have a4 : ((m : Int) < 2048) = True := eq_true (by omega)
      have hq : m / 64 < 32 := by omega
      have o1 := or192 (x := m / 64) (by omega)
      have w : IntKind.u8.wrap ((192 + m / 64 : Nat) : Int) = ((192 + m / 64 : Nat) : Int) := wrap_u8 (by omega) (by omega)
      rw [rune_2 ⟨by omega, h2⟩]
      rcases hg with hg | ⟨hg, hg2⟩
      · simp only [vc111, rs111, wrap64, EV0, e_condB, Nat.reduceBEq, reduceIte, Nat.reduceAdd, Nat.reduceLeDiff, Nat.reduceLT, Nat.reduceSub, Nat.reduceMul, reduceCtorEq, Int.reduceNeg, Int.reduceSub, Int.reduceAdd, Int.reduceLE, Int.reduceLT, Int.reduceMul, Int.reduceToNat, Int.reduceEq, Int.reduceBEq, Int.reduceBNe, Nat.reduceEqDiff, a0, a1, hg, a3, a4, shr6, o1, w]
        refine vk_call rfl (CallR.call ⟨_, .inl rfl, u_more (n := m) (s := 0) (q := m) (by omega) (by omega) (by simp)⟩) ?_
        simp only [wrap64, EV0, e_condB, Nat.reduceBEq, reduceIte, Nat.reduceAdd, Nat.reduceLeDiff, Nat.reduceLT, Nat.reduceSub, Nat.reduceMul, reduceCtorEq, Int.reduceNeg, Int.reduceSub, Int.reduceAdd, Int.reduceLE, Int.reduceLT, Int.reduceMul, Int.reduceToNat, Int.reduceEq, Int.reduceBEq, Int.reduceBNe, Nat.reduceEqDiff]
        simp only [wrap64, EV0, e_condB, Nat.reduceBEq, reduceIte, Nat.reduceAdd, Nat.reduceLeDiff, Nat.reduceLT, Nat.reduceSub, Nat.reduceMul, reduceCtorEq, Int.reduceNeg, Int.reduceSub, Int.reduceAdd, Int.reduceLE, Int.reduceLT, Int.reduceMul, Int.reduceToNat, Int.reduceEq, Int.reduceBEq, Int.reduceBNe, Nat.reduceEqDiff, rowsBytes, Int.toNat_natCast, Option.map_some]
        exact ⟨_, _, rfl, rfl, .refl _⟩
      · simp only [vc111, rs111, wrap64, EV0, e_condB, Nat.reduceBEq, reduceIte, Nat.reduceAdd, Nat.reduceLeDiff, Nat.reduceLT, Nat.reduceSub, Nat.reduceMul, reduceCtorEq, Int.reduceNeg, Int.reduceSub, Int.reduceAdd, Int.reduceLE, Int.reduceLT, Int.reduceMul, Int.reduceToNat, Int.reduceEq, Int.reduceBEq, Int.reduceBNe, Nat.reduceEqDiff, a0, a1, hg, hg2, a3, a4, shr6, o1, w]
        refine vk_call rfl (CallR.call ⟨_, .inl rfl, u_more (n := m) (s := 0) (q := m) (by omega) (by omega) (by simp)⟩) ?_
        simp only [wrap64, EV0, e_condB, Nat.reduceBEq, reduceIte, Nat.reduceAdd, Nat.reduceLeDiff, Nat.reduceLT, Nat.reduceSub, Nat.reduceMul, reduceCtorEq, Int.reduceNeg, Int.reduceSub, Int.reduceAdd, Int.reduceLE, Int.reduceLT, Int.reduceMul, Int.reduceToNat, Int.reduceEq, Int.reduceBEq, Int.reduceBNe, Nat.reduceEqDiff]
        simp only [wrap64, EV0, e_condB, Nat.reduceBEq, reduceIte, Nat.reduceAdd, Nat.reduceLeDiff, Nat.reduceLT, Nat.reduceSub, Nat.reduceMul, reduceCtorEq, Int.reduceNeg, Int.reduceSub, Int.reduceAdd, Int.reduceLE, Int.reduceLT, Int.reduceMul, Int.reduceToNat, Int.reduceEq, Int.reduceBEq, Int.reduceBNe, Nat.reduceEqDiff, rowsBytes, Int.toNat_natCast, Option.map_some]
        exact ⟨_, _, rfl, rfl, .refl _⟩
    · have a4 : ((m : Int) < 2048) = False := eq_false (by omega)
      by_cases h3 : m < 65536
      · have a5 : ((m : Int) < 65536) = True := eq_true (by omega)
        have hq : m / 4096 < 16 := by omega
        have o1 := or224 (x := m / 4096) (by omega)
        have w : IntKind.u8.wrap ((224 + m / 4096 : Nat) : Int) = ((224 + m / 4096 : Nat) : Int) := wrap_u8 (by omega) (by omega)
        rw [rune_3 ⟨by omega, h3⟩ (by omega)]
        rcases hg with hg | ⟨hg, hg2⟩
        · simp only [vc111, rs111, wrap64, EV0, e_condB, Nat.reduceBEq, reduceIte, Nat.reduceAdd, Nat.reduceLeDiff, Nat.reduceLT, Nat.reduceSub, Nat.reduceMul, reduceCtorEq, Int.reduceNeg, Int.reduceSub, Int.reduceAdd, Int.reduceLE, Int.reduceLT, Int.reduceMul, Int.reduceToNat, Int.reduceEq, Int.reduceBEq, Int.reduceBNe, Nat.reduceEqDiff, a0, a1, hg, a3, a4, a5, shr12, o1, w]
          refine vk_call rfl (CallR.call ⟨_, .inl rfl, u_more (n := m) (s := 6) (q := m / 64) (by omega) (by omega) rfl⟩) ?_
          simp only [wrap64, EV0, e_condB, Nat.reduceBEq, reduceIte, Nat.reduceAdd, Nat.reduceLeDiff, Nat.reduceLT, Nat.reduceSub, Nat.reduceMul, reduceCtorEq, Int.reduceNeg, Int.reduceSub, Int.reduceAdd, Int.reduceLE, Int.reduceLT, Int.reduceMul, Int.reduceToNat, Int.reduceEq, Int.reduceBEq, Int.reduceBNe, Nat.reduceEqDiff]
          refine vk_call rfl (CallR.call ⟨_, .inl rfl, u_more (n := m) (s := 0) (q := m) (by omega) (by omega) (by simp)⟩) ?_
          simp only [wrap64, EV0, e_condB, Nat.reduceBEq, reduceIte, Nat.reduceAdd, Nat.reduceLeDiff, Nat.reduceLT, Nat.reduceSub, Nat.reduceMul, reduceCtorEq, Int.reduceNeg, Int.reduceSub, Int.reduceAdd, Int.reduceLE, Int.reduceLT, Int.reduceMul, Int.reduceToNat, Int.reduceEq, Int.reduceBEq, Int.reduceBNe, Nat.reduceEqDiff]
          simp only [wrap64, EV0, e_condB, Nat.reduceBEq, reduceIte, Nat.reduceAdd, Nat.reduceLeDiff, Nat.reduceLT, Nat.reduceSub, Nat.reduceMul, reduceCtorEq, Int.reduceNeg, Int.reduceSub, Int.reduceAdd, Int.reduceLE, Int.reduceLT, Int.reduceMul, Int.reduceToNat, Int.reduceEq, Int.reduceBEq, Int.reduceBNe, Nat.reduceEqDiff, rowsBytes, Int.toNat_natCast, Option.map_some]
          exact ⟨_, _, rfl, rfl, .refl _⟩
        · simp only [vc111, rs111, wrap64, EV0, e_condB, Nat.reduceBEq, reduceIte, Nat.reduceAdd, Nat.reduceLeDiff, Nat.reduceLT, Nat.reduceSub, Nat.reduceMul, reduceCtorEq, Int.reduceNeg, Int.reduceSub, Int.reduceAdd, Int.reduceLE, Int.reduceLT, Int.reduceMul, Int.reduceToNat, Int.reduceEq, Int.reduceBEq, Int.reduceBNe, Nat.reduceEqDiff, a0, a1, hg, hg2, a3, a4, a5, shr12, o1, w]
          refine vk_call rfl (CallR.call ⟨_, .inl rfl, u_more (n := m) (s := 6) (q := m / 64) (by omega) (by omega) rfl⟩) ?_
          simp only [wrap64, EV0, e_condB, Nat.reduceBEq, reduceIte, Nat.reduceAdd, Nat.reduceLeDiff, Nat.reduceLT, Nat.reduceSub, Nat.reduceMul, reduceCtorEq, Int.reduceNeg, Int.reduceSub, Int.reduceAdd, Int.reduceLE, Int.reduceLT, Int.reduceMul, Int.reduceToNat, Int.reduceEq, Int.reduceBEq, Int.reduceBNe, Nat.reduceEqDiff]
          refine vk_call rfl (CallR.call ⟨_, .inl rfl, u_more (n := m) (s := 0) (q := m) (by omega) (by omega) (by simp)⟩) ?_
          simp only [wrap64, EV0, e_condB, Nat.reduceBEq, reduceIte, Nat.reduceAdd, Nat.reduceLeDiff, Nat.reduceLT, Nat.reduceSub, Nat.reduceMul, reduceCtorEq, Int.reduceNeg, Int.reduceSub, Int.reduceAdd, Int.reduceLE, Int.reduceLT, Int.reduceMul, Int.reduceToNat, Int.reduceEq, Int.reduceBEq, Int.reduceBNe, Nat.reduceEqDiff]
          simp only [wrap64, EV0, e_condB, Nat.reduceBEq, reduceIte, Nat.reduceAdd, Nat.reduceLeDiff, Nat.reduceLT, Nat.reduceSub, Nat.reduceMul, reduceCtorEq, Int.reduceNeg, Int.reduceSub, Int.reduceAdd, Int.reduceLE, Int.reduceLT, Int.reduceMul, Int.reduceToNat, Int.reduceEq, Int.reduceBEq, Int.reduceBNe, Nat.reduceEqDiff, rowsBytes, Int.toNat_natCast, Option.map_some]
          exact ⟨_, _, rfl, rfl, .refl _⟩
      · have a5 : ((m : Int) < 65536) = False := eq_false (by omega)
        have hq : m / 262144 < 5 := by omega
        have o1 := or240 (x := m / 262144) (by omega)
        have w : IntKind.u8.wrap ((240 + m / 262144 : Nat) : Int) = ((240 + m / 262144 : Nat) : Int) := wrap_u8 (by omega) (by omega)
        rw [rune_4 ⟨by omega, by omega⟩]
        rcases hg with hg | ⟨hg, hg2⟩
        · simp only [vc111, rs111, wrap64, EV0, e_condB, Nat.reduceBEq, reduceIte, Nat.reduceAdd, Nat.reduceLeDiff, Nat.reduceLT, Nat.reduceSub, Nat.reduceMul, reduceCtorEq, Int.reduceNeg, Int.reduceSub, Int.reduceAdd, Int.reduceLE, Int.reduceLT, Int.reduceMul, Int.reduceToNat, Int.reduceEq, Int.reduceBEq, Int.reduceBNe, Nat.reduceEqDiff, a0, a1, hg, a3, a4, a5, shr18, o1, w]
          refine vk_call rfl (CallR.call ⟨_, .inl rfl, u_more (n := m) (s := 12) (q := m / 4096) (by omega) (by omega) rfl⟩) ?_
          simp only [wrap64, EV0, e_condB, Nat.reduceBEq, reduceIte, Nat.reduceAdd, Nat.reduceLeDiff, Nat.reduceLT, Nat.reduceSub, Nat.reduceMul, reduceCtorEq, Int.reduceNeg, Int.reduceSub, Int.reduceAdd, Int.reduceLE, Int.reduceLT, Int.reduceMul, Int.reduceToNat, Int.reduceEq, Int.reduceBEq, Int.reduceBNe, Nat.reduceEqDiff]
          refine vk_call rfl (CallR.call ⟨_, .inl rfl, u_more (n := m) (s := 6) (q := m / 64) (by omega) (by omega) rfl⟩) ?_
          simp only [wrap64, EV0, e_condB, Nat.reduceBEq, reduceIte, Nat.reduceAdd, Nat.reduceLeDiff, Nat.reduceLT, Nat.reduceSub, Nat.reduceMul, reduceCtorEq, Int.reduceNeg, Int.reduceSub, Int.reduceAdd, Int.reduceLE, Int.reduceLT, Int.reduceMul, Int.reduceToNat, Int.reduceEq, Int.reduceBEq, Int.reduceBNe, Nat.reduceEqDiff]
          refine vk_call rfl (CallR.call ⟨_, .inl rfl, u_more (n := m) (s := 0) (q := m) (by omega) (by omega) (by simp)⟩) ?_
          simp only [wrap64, EV0, e_condB, Nat.reduceBEq, reduceIte, Nat.reduceAdd, Nat.reduceLeDiff, Nat.reduceLT, Nat.reduceSub, Nat.reduceMul, reduceCtorEq, Int.reduceNeg, Int.reduceSub, Int.reduceAdd, Int.reduceLE, Int.reduceLT, Int.reduceMul, Int.reduceToNat, Int.reduceEq, Int.reduceBEq, Int.reduceBNe, Nat.reduceEqDiff]
          simp only [wrap64, EV0, e_condB, Nat.reduceBEq, reduceIte, Nat.reduceAdd, Nat.reduceLeDiff, Nat.reduceLT, Nat.reduceSub, Nat.reduceMul, reduceCtorEq, Int.reduceNeg, Int.reduceSub, Int.reduceAdd, Int.reduceLE, Int.reduceLT, Int.reduceMul, Int.reduceToNat, Int.reduceEq, Int.reduceBEq, Int.reduceBNe, Nat.reduceEqDiff, rowsBytes, Int.toNat_natCast, Option.map_some]
          exact ⟨_, _, rfl, rfl, .refl _⟩
        · simp only [vc111, rs111, wrap64, EV0, e_condB, Nat.reduceBEq, reduceIte, Nat.reduceAdd, Nat.reduceLeDiff, Nat.reduceLT, Nat.reduceSub, Nat.reduceMul, reduceCtorEq, Int.reduceNeg, Int.reduceSub, Int.reduceAdd, Int.reduceLE, Int.reduceLT, Int.reduceMul, Int.reduceToNat, Int.reduceEq, Int.reduceBEq, Int.reduceBNe, Nat.reduceEqDiff, a0, a1, hg, hg2, a3, a4, a5, shr18, o1, w]
          refine vk_call rfl (CallR.call ⟨_, .inl rfl, u_more (n := m) (s := 12) (q := m / 4096) (by omega) (by omega) rfl⟩) ?_
          simp only [wrap64, EV0, e_condB, Nat.reduceBEq, reduceIte, Nat.reduceAdd, Nat.reduceLeDiff, Nat.reduceLT, Nat.reduceSub, Nat.reduceMul, reduceCtorEq, Int.reduceNeg, Int.reduceSub, Int.reduceAdd, Int.reduceLE, Int.reduceLT, Int.reduceMul, Int.reduceToNat, Int.reduceEq, Int.reduceBEq, Int.reduceBNe, Nat.reduceEqDiff]
          refine vk_call rfl (CallR.call ⟨_, .inl rfl, u_more (n := m) (s := 6) (q := m / 64) (by omega) (by omega) rfl⟩) ?_
          simp only [wrap64, EV0, e_condB, Nat.reduceBEq, reduceIte, Nat.reduceAdd, Nat.reduceLeDiff, Nat.reduceLT, Nat.reduceSub, Nat.reduceMul, reduceCtorEq, Int.reduceNeg, Int.reduceSub, Int.reduceAdd, Int.reduceLE, Int.reduceLT, Int.reduceMul, Int.reduceToNat, Int.reduceEq, Int.reduceBEq, Int.reduceBNe, Nat.reduceEqDiff]
          refine vk_call rfl (CallR.call ⟨_, .inl rfl, u_more (n := m) (s := 0) (q := m) (by omega) (by omega) (by simp)⟩) ?_
          simp only [wrap64, EV0, e_condB, Nat.reduceBEq, reduceIte, Nat.reduceAdd, Nat.reduceLeDiff, Nat.reduceLT, Nat.reduceSub, Nat.reduceMul, reduceCtorEq, Int.reduceNeg, Int.reduceSub, Int.reduceAdd, Int.reduceLE, Int.reduceLT, Int.reduceMul, Int.reduceToNat, Int.reduceEq, Int.reduceBEq, Int.reduceBNe, Nat.reduceEqDiff]
          simp only [wrap64, EV0, e_condB, Nat.reduceBEq, reduceIte, Nat.reduceAdd, Nat.reduceLeDiff, Nat.reduceLT, Nat.reduceSub, Nat.reduceMul, reduceCtorEq, Int.reduceNeg, Int.reduceSub, Int.reduceAdd, Int.reduceLE, Int.reduceLT, Int.reduceMul, Int.reduceToNat, Int.reduceEq, Int.reduceBEq, Int.reduceBNe, Nat.reduceEqDiff, rowsBytes, Int.toNat_natCast, Option.map_some]
          exact ⟨_, _, rfl, rfl, .refl _⟩

end Go.Proofs.VL

/- Contracts of functions of the program, for what calls them, and the law that its name tells. -/
import Derived.Test.YtdiddnapamjojaaSS
namespace Go.Proofs.VL
open Go Go.RowKit
set_option maxRecDepth 100000
set_option maxHeartbeats 400000
set_option linter.unusedSimpArgs false
set_option linter.unusedVariables false

theorem ref_rune_bad {n : Int} (h : n < 1 ∨ 1114111 < n ∨ (55296 ≤ n ∧ n ≤ 57343)) : VFn Try.prog 113 [.int .i64 n] (.str (runeB n)) := by
  refine VFn.intro ok113 (Nat.le_of_ble_eq_true rfl) (vk_start ?_)
  rw [rune_bad h]
  by_cases a0 : n < 1
  · have a0 : (n < 1) = True := eq_true a0
    simp only [vc113, rs113, wrap64, EV0, e_condB, Nat.reduceBEq, reduceIte, Nat.reduceAdd, Nat.reduceLeDiff, Nat.reduceLT, Nat.reduceSub, Nat.reduceMul, reduceCtorEq, Int.reduceNeg, Int.reduceSub, Int.reduceAdd, Int.reduceLE, Int.reduceLT, Int.reduceMul, Int.reduceToNat, Int.reduceEq, Int.reduceBEq, Int.reduceBNe, Nat.reduceEqDiff, a0]
    exact ⟨_, _, rfl, rfl, .refl _⟩
  · by_cases a1 : 1114111 < n
    · have a0 : (n < 1) = False := eq_false a0
      have a1 : (1114111 < n) = True := eq_true a1
      simp only [vc113, rs113, wrap64, EV0, e_condB, Nat.reduceBEq, reduceIte, Nat.reduceAdd, Nat.reduceLeDiff, Nat.reduceLT, Nat.reduceSub, Nat.reduceMul, reduceCtorEq, Int.reduceNeg, Int.reduceSub, Int.reduceAdd, Int.reduceLE, Int.reduceLT, Int.reduceMul, Int.reduceToNat, Int.reduceEq, Int.reduceBEq, Int.reduceBNe, Nat.reduceEqDiff, a0, a1]
      exact ⟨_, _, rfl, rfl, .refl _⟩
    · have a2 : (55296 ≤ n) = True := eq_true (by omega)
      have a3 : (n < 57344) = True := eq_true (by omega)
      have a0 : (n < 1) = False := eq_false a0
      have a1 : (1114111 < n) = False := eq_false a1
      simp only [vc113, rs113, wrap64, EV0, e_condB, Nat.reduceBEq, reduceIte, Nat.reduceAdd, Nat.reduceLeDiff, Nat.reduceLT, Nat.reduceSub, Nat.reduceMul, reduceCtorEq, Int.reduceNeg, Int.reduceSub, Int.reduceAdd, Int.reduceLE, Int.reduceLT, Int.reduceMul, Int.reduceToNat, Int.reduceEq, Int.reduceBEq, Int.reduceBNe, Nat.reduceEqDiff, a0, a1, a2, a3]
      exact ⟨_, _, rfl, rfl, .refl _⟩

def tl (m : Nat) : Nat → List (List V)
  | 0 => []
  | 1 => [[.int .u8 ((128 + m % 64 : Nat) : Int)]]
  | 2 => [[.int .u8 ((128 + m / 64 % 64 : Nat) : Int)], [.int .u8 ((128 + m % 64 : Nat) : Int)]]
  | _ => [[.int .u8 ((128 + m / 4096 % 64 : Nat) : Int)], [.int .u8 ((128 + m / 64 % 64 : Nat) : Int)], [.int .u8 ((128 + m % 64 : Nat) : Int)]]
def tq (m : Nat) : Nat → Nat
  | 0 => m
  | 1 => m / 64
  | 2 => m / 4096
  | _ => m / 262144
def tf : Nat → Int
  | 0 => 32
  | 1 => 32
  | 2 => 16
  | _ => 8

theorem tmod64 (q : Nat) : (q : Int).tmod 64 = ((q % 64 : Nat) : Int) := by
  rw [Int.tmod_eq_emod_of_nonneg (by omega)]; norm_cast
theorem tdiv64 {q : Nat} (h : q < 4000000) : IntKind.i64.wrap ((q : Int).tdiv 64) = ((q / 64 : Nat) : Int) := by
  rw [Int.tdiv_eq_ediv_of_nonneg (by omega)]
  have : (q : Int) / 64 = ((q / 64 : Nat) : Int) := by norm_cast
  rw [this]
  exact wrap_lt (by omega) (by omega)
theorem add128 (q : Nat) : IntKind.i64.wrap (128 + ((q % 64 : Nat) : Int)) = ((128 + q % 64 : Nat) : Int) := by
  rw [wrap_lt (by omega) (by omega)]; norm_cast
theorem u8128 (q : Nat) : IntKind.u8.wrap ((128 + q % 64 : Nat) : Int) = ((128 + q % 64 : Nat) : Int) := wrap_u8 (by omega) (by omega)

theorem ref_rune (n : Int) : VFn Try.prog 113 [.int .i64 n] (.str (runeB n)) := by
  by_cases hb : n < 1 ∨ 1114111 < n ∨ (55296 ≤ n ∧ n ≤ 57343)
  · exact ref_rune_bad hb
  obtain ⟨m, rfl⟩ : ∃ m : Nat, n = m := ⟨n.toNat, by omega⟩
  refine VFn.intro ok113 (Nat.le_of_ble_eq_true rfl) (vk_start ?_)
  have a0 : ((m : Int) < 1) = False := eq_false (by omega)
  have a1 : (1114111 < (m : Int)) = False := eq_false (by omega)
  have hg : (55296 ≤ (m : Int)) = False ∨ ((55296 ≤ (m : Int)) = True ∧ ((m : Int) < 57344) = False) := by
    by_cases h : 55296 ≤ (m : Int)
    · exact .inr ⟨eq_true h, eq_false (by omega)⟩
    · exact .inl (eq_false h)
  by_cases h1 : m < 128
  · have a3 : ((m : Int) < 128) = True := eq_true (by omega)
    have w : IntKind.u8.wrap (m : Int) = m := wrap_u8 (by omega) (by omega)
    rw [rune_1 ⟨by omega, h1⟩]
    rcases hg with hg | ⟨hg, hg2⟩
    · simp only [vc113, rs113, wrap64, EV0, e_condB, Nat.reduceBEq, reduceIte, Nat.reduceAdd, Nat.reduceLeDiff, Nat.reduceLT, Nat.reduceSub, Nat.reduceMul, reduceCtorEq, Int.reduceNeg, Int.reduceSub, Int.reduceAdd, Int.reduceLE, Int.reduceLT, Int.reduceMul, Int.reduceToNat, Int.reduceEq, Int.reduceBEq, Int.reduceBNe, Nat.reduceEqDiff, a0, a1, hg, a3, w, rowsBytes, Int.toNat_natCast, Option.map_some]
      exact ⟨_, _, rfl, rfl, .refl _⟩
    · simp only [vc113, rs113, wrap64, EV0, e_condB, Nat.reduceBEq, reduceIte, Nat.reduceAdd, Nat.reduceLeDiff, Nat.reduceLT, Nat.reduceSub, Nat.reduceMul, reduceCtorEq, Int.reduceNeg, Int.reduceSub, Int.reduceAdd, Int.reduceLE, Int.reduceLT, Int.reduceMul, Int.reduceToNat, Int.reduceEq, Int.reduceBEq, Int.reduceBNe, Nat.reduceEqDiff, a0, a1, hg, hg2, a3, w, rowsBytes, Int.toNat_natCast, Option.map_some]
      exact ⟨_, _, rfl, rfl, .refl _⟩
  · have a3 : ((m : Int) < 128) = False := eq_false (by omega)
    rcases hg with hg | ⟨hg, hg2⟩
    · simp only [vc113, rs113, wrap64, EV0, e_condB, Nat.reduceBEq, reduceIte, Nat.reduceAdd, Nat.reduceLeDiff, Nat.reduceLT, Nat.reduceSub, Nat.reduceMul, reduceCtorEq, Int.reduceNeg, Int.reduceSub, Int.reduceAdd, Int.reduceLE, Int.reduceLT, Int.reduceMul, Int.reduceToNat, Int.reduceEq, Int.reduceBEq, Int.reduceBNe, Nat.reduceEqDiff, a0, a1, hg, a3]
      refine vk_loopR (γ := Nat) (fun i => { tm := [(0, .int .i64 (tq m i)), (3, .ref 0 i), (4, .int .i64 (tf i))], ob := [some (.arr 5 1 (tl m i))], base := 0 })
        (fun i => i ≤ 3 ∧ (2 ≤ i → 2048 ≤ m) ∧ (3 ≤ i → 65536 ≤ m)) (fun i => 3 - i) 0 ⟨by omega, by omega, by omega⟩ ?_ ?_
      · exact ⟨[none], rfl, rfl, rfl, rfl, ⟨.same _ rfl, .nref rfl, .same _ rfl, trivial⟩, ⟨⟨_, _, rfl⟩, trivial⟩⟩
      · rintro i ⟨hi, hi2, hi3⟩ R hN hE hR
        have w32 : IntKind.i64.wrap ((32 : Int).tdiv 2) = 16 := by decide
        have w16 : IntKind.i64.wrap ((16 : Int).tdiv 2) = 8 := by decide
        have hcases : i = 0 ∨ i = 1 ∨ i = 2 ∨ i = 3 := by omega
        rcases hcases with rfl | rfl | rfl | rfl
        · have g1 : ((32 : Int) ≤ (m : Int)) = True := eq_true (by omega)
          have w2 := tdiv64 (q := m) (by omega)
          simp only [tq, tf, tl, wrap64, EV0, e_condB, Nat.reduceBEq, reduceIte, Nat.reduceAdd, Nat.reduceLeDiff, Nat.reduceLT, Nat.reduceSub, Nat.reduceMul, reduceCtorEq, Int.reduceNeg, Int.reduceSub, Int.reduceAdd, Int.reduceLE, Int.reduceLT, Int.reduceMul, Int.reduceToNat, Int.reduceEq, Int.reduceBEq, Int.reduceBNe, Nat.reduceEqDiff, g1, tmod64, add128, u8128, w2, w32]
          refine hN _ 1 ⟨by omega, by omega, by omega⟩ (by omega) ?_
          exact ⟨[some 2], rfl, rfl, rfl, rfl, ⟨.same _ rfl, .ref rfl, .same _ rfl, trivial⟩, ⟨⟨_, rfl, .arr (.refl _)⟩, trivial⟩⟩
        · by_cases h2 : m < 2048
          · have g1 : ((32 : Int) ≤ ((m / 64 : Nat) : Int)) = False := eq_false (by omega)
            simp only [tq, tf, tl, wrap64, EV0, e_condB, Nat.reduceBEq, reduceIte, Nat.reduceAdd, Nat.reduceLeDiff, Nat.reduceLT, Nat.reduceSub, Nat.reduceMul, reduceCtorEq, Int.reduceNeg, Int.reduceSub, Int.reduceAdd, Int.reduceLE, Int.reduceLT, Int.reduceMul, Int.reduceToNat, Int.reduceEq, Int.reduceBEq, Int.reduceBNe, Nat.reduceEqDiff, g1]
            refine hE _ _ ?_
            rw [rune_2 ⟨by omega, h2⟩]
            have l1 : IntKind.i64.wrap (192 + ((m / 64 : Nat) : Int)) = ((192 + m / 64 : Nat) : Int) := by rw [wrap_lt (by omega) (by omega)]; norm_cast
            have l2 : IntKind.u8.wrap ((192 + m / 64 : Nat) : Int) = ((192 + m / 64 : Nat) : Int) := wrap_u8 (by omega) (by omega)
            simp only [wrap64, EV0, e_condB, Nat.reduceBEq, reduceIte, Nat.reduceAdd, Nat.reduceLeDiff, Nat.reduceLT, Nat.reduceSub, Nat.reduceMul, reduceCtorEq, Int.reduceNeg, Int.reduceSub, Int.reduceAdd, Int.reduceLE, Int.reduceLT, Int.reduceMul, Int.reduceToNat, Int.reduceEq, Int.reduceBEq, Int.reduceBNe, Nat.reduceEqDiff]
            refine vk_pass ?_
            simp only [wrap64, EV0, e_condB, Nat.reduceBEq, reduceIte, Nat.reduceAdd, Nat.reduceLeDiff, Nat.reduceLT, Nat.reduceSub, Nat.reduceMul, reduceCtorEq, Int.reduceNeg, Int.reduceSub, Int.reduceAdd, Int.reduceLE, Int.reduceLT, Int.reduceMul, Int.reduceToNat, Int.reduceEq, Int.reduceBEq, Int.reduceBNe, Nat.reduceEqDiff]
            refine vk_pass ?_
            simp only [wrap64, EV0, e_condB, Nat.reduceBEq, reduceIte, Nat.reduceAdd, Nat.reduceLeDiff, Nat.reduceLT, Nat.reduceSub, Nat.reduceMul, reduceCtorEq, Int.reduceNeg, Int.reduceSub, Int.reduceAdd, Int.reduceLE, Int.reduceLT, Int.reduceMul, Int.reduceToNat, Int.reduceEq, Int.reduceBEq, Int.reduceBNe, Nat.reduceEqDiff, l1, l2, rowsBytes, Int.toNat_natCast, Option.map_some]
            exact ⟨_, _, rfl, rfl, .refl _⟩
          · have g1 : ((32 : Int) ≤ ((m / 64 : Nat) : Int)) = True := eq_true (by omega)
            have w2 := tdiv64 (q := m / 64) (by omega)
            rw [Nat.div_div_eq_div_mul] at w2
            simp only [tq, tf, tl, wrap64, EV0, e_condB, Nat.reduceBEq, reduceIte, Nat.reduceAdd, Nat.reduceLeDiff, Nat.reduceLT, Nat.reduceSub, Nat.reduceMul, reduceCtorEq, Int.reduceNeg, Int.reduceSub, Int.reduceAdd, Int.reduceLE, Int.reduceLT, Int.reduceMul, Int.reduceToNat, Int.reduceEq, Int.reduceBEq, Int.reduceBNe, Nat.reduceEqDiff, g1, tmod64, add128, u8128, w2, w32]
            refine hN _ 2 ⟨by omega, by omega, by omega⟩ (by omega) ?_
            exact ⟨[some 2], rfl, rfl, rfl, rfl, ⟨.same _ rfl, .ref rfl, .same _ rfl, trivial⟩, ⟨⟨_, rfl, .arr (.refl _)⟩, trivial⟩⟩
        · by_cases h2 : m < 65536
          · have g1 : ((16 : Int) ≤ ((m / 4096 : Nat) : Int)) = False := eq_false (by omega)
            simp only [tq, tf, tl, wrap64, EV0, e_condB, Nat.reduceBEq, reduceIte, Nat.reduceAdd, Nat.reduceLeDiff, Nat.reduceLT, Nat.reduceSub, Nat.reduceMul, reduceCtorEq, Int.reduceNeg, Int.reduceSub, Int.reduceAdd, Int.reduceLE, Int.reduceLT, Int.reduceMul, Int.reduceToNat, Int.reduceEq, Int.reduceBEq, Int.reduceBNe, Nat.reduceEqDiff, g1]
            refine hE _ _ ?_
            rw [rune_3 ⟨hi2 (by omega), h2⟩ (by omega)]
            have l1 : IntKind.i64.wrap (224 + ((m / 4096 : Nat) : Int)) = ((224 + m / 4096 : Nat) : Int) := by rw [wrap_lt (by omega) (by omega)]; norm_cast
            have l2 : IntKind.u8.wrap ((224 + m / 4096 : Nat) : Int) = ((224 + m / 4096 : Nat) : Int) := wrap_u8 (by omega) (by omega)
            simp only [wrap64, EV0, e_condB, Nat.reduceBEq, reduceIte, Nat.reduceAdd, Nat.reduceLeDiff, Nat.reduceLT, Nat.reduceSub, Nat.reduceMul, reduceCtorEq, Int.reduceNeg, Int.reduceSub, Int.reduceAdd, Int.reduceLE, Int.reduceLT, Int.reduceMul, Int.reduceToNat, Int.reduceEq, Int.reduceBEq, Int.reduceBNe, Nat.reduceEqDiff]
            refine vk_pass ?_
            simp only [wrap64, EV0, e_condB, Nat.reduceBEq, reduceIte, Nat.reduceAdd, Nat.reduceLeDiff, Nat.reduceLT, Nat.reduceSub, Nat.reduceMul, reduceCtorEq, Int.reduceNeg, Int.reduceSub, Int.reduceAdd, Int.reduceLE, Int.reduceLT, Int.reduceMul, Int.reduceToNat, Int.reduceEq, Int.reduceBEq, Int.reduceBNe, Nat.reduceEqDiff]
            refine vk_pass ?_
            simp only [wrap64, EV0, e_condB, Nat.reduceBEq, reduceIte, Nat.reduceAdd, Nat.reduceLeDiff, Nat.reduceLT, Nat.reduceSub, Nat.reduceMul, reduceCtorEq, Int.reduceNeg, Int.reduceSub, Int.reduceAdd, Int.reduceLE, Int.reduceLT, Int.reduceMul, Int.reduceToNat, Int.reduceEq, Int.reduceBEq, Int.reduceBNe, Nat.reduceEqDiff, l1, l2, rowsBytes, Int.toNat_natCast, Option.map_some]
            exact ⟨_, _, rfl, rfl, .refl _⟩
          · have g1 : ((16 : Int) ≤ ((m / 4096 : Nat) : Int)) = True := eq_true (by omega)
            have w2 := tdiv64 (q := m / 4096) (by omega)
            rw [Nat.div_div_eq_div_mul] at w2
            simp only [tq, tf, tl, wrap64, EV0, e_condB, Nat.reduceBEq, reduceIte, Nat.reduceAdd, Nat.reduceLeDiff, Nat.reduceLT, Nat.reduceSub, Nat.reduceMul, reduceCtorEq, Int.reduceNeg, Int.reduceSub, Int.reduceAdd, Int.reduceLE, Int.reduceLT, Int.reduceMul, Int.reduceToNat, Int.reduceEq, Int.reduceBEq, Int.reduceBNe, Nat.reduceEqDiff, g1, tmod64, add128, u8128, w2, w16]
            refine hN _ 3 ⟨by omega, by omega, by omega⟩ (by omega) ?_
            exact ⟨[some 2], rfl, rfl, rfl, rfl, ⟨.same _ rfl, .ref rfl, .same _ rfl, trivial⟩, ⟨⟨_, rfl, .arr (.refl _)⟩, trivial⟩⟩
        · have g1 : ((8 : Int) ≤ ((m / 262144 : Nat) : Int)) = False := eq_false (by omega)
          simp only [tq, tf, tl, wrap64, EV0, e_condB, Nat.reduceBEq, reduceIte, Nat.reduceAdd, Nat.reduceLeDiff, Nat.reduceLT, Nat.reduceSub, Nat.reduceMul, reduceCtorEq, Int.reduceNeg, Int.reduceSub, Int.reduceAdd, Int.reduceLE, Int.reduceLT, Int.reduceMul, Int.reduceToNat, Int.reduceEq, Int.reduceBEq, Int.reduceBNe, Nat.reduceEqDiff, g1]
          refine hE _ _ ?_
          rw [rune_4 ⟨hi3 (by omega), by omega⟩]
          have l1 : IntKind.i64.wrap (240 + ((m / 262144 : Nat) : Int)) = ((240 + m / 262144 : Nat) : Int) := by rw [wrap_lt (by omega) (by omega)]; norm_cast
          have l2 : IntKind.u8.wrap ((240 + m / 262144 : Nat) : Int) = ((240 + m / 262144 : Nat) : Int) := wrap_u8 (by omega) (by omega)
          simp only [wrap64, EV0, e_condB, Nat.reduceBEq, reduceIte, Nat.reduceAdd, Nat.reduceLeDiff, Nat.reduceLT, Nat.reduceSub, Nat.reduceMul, reduceCtorEq, Int.reduceNeg, Int.reduceSub, Int.reduceAdd, Int.reduceLE, Int.reduceLT, Int.reduceMul, Int.reduceToNat, Int.reduceEq, Int.reduceBEq, Int.reduceBNe, Nat.reduceEqDiff]
          refine vk_pass ?_
          simp only [wrap64, EV0, e_condB, Nat.reduceBEq, reduceIte, Nat.reduceAdd, Nat.reduceLeDiff, Nat.reduceLT, Nat.reduceSub, Nat.reduceMul, reduceCtorEq, Int.reduceNeg, Int.reduceSub, Int.reduceAdd, Int.reduceLE, Int.reduceLT, Int.reduceMul, Int.reduceToNat, Int.reduceEq, Int.reduceBEq, Int.reduceBNe, Nat.reduceEqDiff]
          refine vk_pass ?_
          simp only [wrap64, EV0, e_condB, Nat.reduceBEq, reduceIte, Nat.reduceAdd, Nat.reduceLeDiff, Nat.reduceLT, Nat.reduceSub, Nat.reduceMul, reduceCtorEq, Int.reduceNeg, Int.reduceSub, Int.reduceAdd, Int.reduceLE, Int.reduceLT, Int.reduceMul, Int.reduceToNat, Int.reduceEq, Int.reduceBEq, Int.reduceBNe, Nat.reduceEqDiff, l1, l2, rowsBytes, Int.toNat_natCast, Option.map_some]
          exact ⟨_, _, rfl, rfl, .refl _⟩
    · simp only [vc113, rs113, wrap64, EV0, e_condB, Nat.reduceBEq, reduceIte, Nat.reduceAdd, Nat.reduceLeDiff, Nat.reduceLT, Nat.reduceSub, Nat.reduceMul, reduceCtorEq, Int.reduceNeg, Int.reduceSub, Int.reduceAdd, Int.reduceLE, Int.reduceLT, Int.reduceMul, Int.reduceToNat, Int.reduceEq, Int.reduceBEq, Int.reduceBNe, Nat.reduceEqDiff, a0, a1, hg, hg2, a3]
      refine vk_loopR (γ := Nat) (fun i => { tm := [(0, .int .i64 (tq m i)), (3, .ref 0 i), (4, .int .i64 (tf i))], ob := [some (.arr 5 1 (tl m i))], base := 0 })
        (fun i => i ≤ 3 ∧ (2 ≤ i → 2048 ≤ m) ∧ (3 ≤ i → 65536 ≤ m)) (fun i => 3 - i) 0 ⟨by omega, by omega, by omega⟩ ?_ ?_
      · exact ⟨[none], rfl, rfl, rfl, rfl, ⟨.same _ rfl, .nref rfl, .same _ rfl, trivial⟩, ⟨⟨_, _, rfl⟩, trivial⟩⟩
      · rintro i ⟨hi, hi2, hi3⟩ R hN hE hR
        have w32 : IntKind.i64.wrap ((32 : Int).tdiv 2) = 16 := by decide
        have w16 : IntKind.i64.wrap ((16 : Int).tdiv 2) = 8 := by decide
        have hcases : i = 0 ∨ i = 1 ∨ i = 2 ∨ i = 3 := by omega
        rcases hcases with rfl | rfl | rfl | rfl
        · have g1 : ((32 : Int) ≤ (m : Int)) = True := eq_true (by omega)
          have w2 := tdiv64 (q := m) (by omega)
          simp only [tq, tf, tl, wrap64, EV0, e_condB, Nat.reduceBEq, reduceIte, Nat.reduceAdd, Nat.reduceLeDiff, Nat.reduceLT, Nat.reduceSub, Nat.reduceMul, reduceCtorEq, Int.reduceNeg, Int.reduceSub, Int.reduceAdd, Int.reduceLE, Int.reduceLT, Int.reduceMul, Int.reduceToNat, Int.reduceEq, Int.reduceBEq, Int.reduceBNe, Nat.reduceEqDiff, g1, tmod64, add128, u8128, w2, w32]
          refine hN _ 1 ⟨by omega, by omega, by omega⟩ (by omega) ?_
          exact ⟨[some 2], rfl, rfl, rfl, rfl, ⟨.same _ rfl, .ref rfl, .same _ rfl, trivial⟩, ⟨⟨_, rfl, .arr (.refl _)⟩, trivial⟩⟩
        · by_cases h2 : m < 2048
          · have g1 : ((32 : Int) ≤ ((m / 64 : Nat) : Int)) = False := eq_false (by omega)
            simp only [tq, tf, tl, wrap64, EV0, e_condB, Nat.reduceBEq, reduceIte, Nat.reduceAdd, Nat.reduceLeDiff, Nat.reduceLT, Nat.reduceSub, Nat.reduceMul, reduceCtorEq, Int.reduceNeg, Int.reduceSub, Int.reduceAdd, Int.reduceLE, Int.reduceLT, Int.reduceMul, Int.reduceToNat, Int.reduceEq, Int.reduceBEq, Int.reduceBNe, Nat.reduceEqDiff, g1]
            refine hE _ _ ?_
            rw [rune_2 ⟨by omega, h2⟩]
            have l1 : IntKind.i64.wrap (192 + ((m / 64 : Nat) : Int)) = ((192 + m / 64 : Nat) : Int) := by rw [wrap_lt (by omega) (by omega)]; norm_cast
            have l2 : IntKind.u8.wrap ((192 + m / 64 : Nat) : Int) = ((192 + m / 64 : Nat) : Int) := wrap_u8 (by omega) (by omega)
            simp only [wrap64, EV0, e_condB, Nat.reduceBEq, reduceIte, Nat.reduceAdd, Nat.reduceLeDiff, Nat.reduceLT, Nat.reduceSub, Nat.reduceMul, reduceCtorEq, Int.reduceNeg, Int.reduceSub, Int.reduceAdd, Int.reduceLE, Int.reduceLT, Int.reduceMul, Int.reduceToNat, Int.reduceEq, Int.reduceBEq, Int.reduceBNe, Nat.reduceEqDiff]
            refine vk_pass ?_
            simp only [wrap64, EV0, e_condB, Nat.reduceBEq, reduceIte, Nat.reduceAdd, Nat.reduceLeDiff, Nat.reduceLT, Nat.reduceSub, Nat.reduceMul, reduceCtorEq, Int.reduceNeg, Int.reduceSub, Int.reduceAdd, Int.reduceLE, Int.reduceLT, Int.reduceMul, Int.reduceToNat, Int.reduceEq, Int.reduceBEq, Int.reduceBNe, Nat.reduceEqDiff]
            refine vk_pass ?_
            simp only [wrap64, EV0, e_condB, Nat.reduceBEq, reduceIte, Nat.reduceAdd, Nat.reduceLeDiff, Nat.reduceLT, Nat.reduceSub, Nat.reduceMul, reduceCtorEq, Int.reduceNeg, Int.reduceSub, Int.reduceAdd, Int.reduceLE, Int.reduceLT, Int.reduceMul, Int.reduceToNat, Int.reduceEq, Int.reduceBEq, Int.reduceBNe, Nat.reduceEqDiff, l1, l2, rowsBytes, Int.toNat_natCast, Option.map_some]
            exact ⟨_, _, rfl, rfl, .refl _⟩
          · have g1 : ((32 : Int) ≤ ((m / 64 : Nat) : Int)) = True := eq_true (by omega)
            have w2 := tdiv64 (q := m / 64) (by omega)
            rw [Nat.div_div_eq_div_mul] at w2
            simp only [tq, tf, tl, wrap64, EV0, e_condB, Nat.reduceBEq, reduceIte, Nat.reduceAdd, Nat.reduceLeDiff, Nat.reduceLT, Nat.reduceSub, Nat.reduceMul, reduceCtorEq, Int.reduceNeg, Int.reduceSub, Int.reduceAdd, Int.reduceLE, Int.reduceLT, Int.reduceMul, Int.reduceToNat, Int.reduceEq, Int.reduceBEq, Int.reduceBNe, Nat.reduceEqDiff, g1, tmod64, add128, u8128, w2, w32]
            refine hN _ 2 ⟨by omega, by omega, by omega⟩ (by omega) ?_
            exact ⟨[some 2], rfl, rfl, rfl, rfl, ⟨.same _ rfl, .ref rfl, .same _ rfl, trivial⟩, ⟨⟨_, rfl, .arr (.refl _)⟩, trivial⟩⟩
        · by_cases h2 : m < 65536
          · have g1 : ((16 : Int) ≤ ((m / 4096 : Nat) : Int)) = False := eq_false (by omega)
            simp only [tq, tf, tl, wrap64, EV0, e_condB, Nat.reduceBEq, reduceIte, Nat.reduceAdd, Nat.reduceLeDiff, Nat.reduceLT, Nat.reduceSub, Nat.reduceMul, reduceCtorEq, Int.reduceNeg, Int.reduceSub, Int.reduceAdd, Int.reduceLE, Int.reduceLT, Int.reduceMul, Int.reduceToNat, Int.reduceEq, Int.reduceBEq, Int.reduceBNe, Nat.reduceEqDiff, g1]
            refine hE _ _ ?_
            rw [rune_3 ⟨hi2 (by omega), h2⟩ (by omega)]
            have l1 : IntKind.i64.wrap (224 + ((m / 4096 : Nat) : Int)) = ((224 + m / 4096 : Nat) : Int) := by rw [wrap_lt (by omega) (by omega)]; norm_cast
            have l2 : IntKind.u8.wrap ((224 + m / 4096 : Nat) : Int) = ((224 + m / 4096 : Nat) : Int) := wrap_u8 (by omega) (by omega)
            simp only [wrap64, EV0, e_condB, Nat.reduceBEq, reduceIte, Nat.reduceAdd, Nat.reduceLeDiff, Nat.reduceLT, Nat.reduceSub, Nat.reduceMul, reduceCtorEq, Int.reduceNeg, Int.reduceSub, Int.reduceAdd, Int.reduceLE, Int.reduceLT, Int.reduceMul, Int.reduceToNat, Int.reduceEq, Int.reduceBEq, Int.reduceBNe, Nat.reduceEqDiff]
            refine vk_pass ?_
            simp only [wrap64, EV0, e_condB, Nat.reduceBEq, reduceIte, Nat.reduceAdd, Nat.reduceLeDiff, Nat.reduceLT, Nat.reduceSub, Nat.reduceMul, reduceCtorEq, Int.reduceNeg, Int.reduceSub, Int.reduceAdd, Int.reduceLE, Int.reduceLT, Int.reduceMul, Int.reduceToNat, Int.reduceEq, Int.reduceBEq, Int.reduceBNe, Nat.reduceEqDiff]
            refine vk_pass ?_
            simp only [wrap64, EV0, e_condB, Nat.reduceBEq, reduceIte, Nat.reduceAdd, Nat.reduceLeDiff, Nat.reduceLT, Nat.reduceSub, Nat.reduceMul, reduceCtorEq, Int.reduceNeg, Int.reduceSub, Int.reduceAdd, Int.reduceLE, Int.reduceLT, Int.reduceMul, Int.reduceToNat, Int.reduceEq, Int.reduceBEq, Int.reduceBNe, Nat.reduceEqDiff, l1, l2, rowsBytes, Int.toNat_natCast, Option.map_some]
            exact ⟨_, _, rfl, rfl, .refl _⟩
          · have g1 : ((16 : Int) ≤ ((m / 4096 : Nat) : Int)) = True := eq_true (by omega)
            have w2 := tdiv64 (q := m / 4096) (by omega)
            rw [Nat.div_div_eq_div_mul] at w2
            simp only [tq, tf, tl, wrap64, EV0, e_condB, Nat.reduceBEq, reduceIte, Nat.reduceAdd, Nat.reduceLeDiff, Nat.reduceLT, Nat.reduceSub, Nat.reduceMul, reduceCtorEq, Int.reduceNeg, Int.reduceSub, Int.reduceAdd, Int.reduceLE, Int.reduceLT, Int.reduceMul, Int.reduceToNat, Int.reduceEq, Int.reduceBEq, Int.reduceBNe, Nat.reduceEqDiff, g1, tmod64, add128, u8128, w2, w16]
            refine hN _ 3 ⟨by omega, by omega, by omega⟩ (by omega) ?_
            exact ⟨[some 2], rfl, rfl, rfl, rfl, ⟨.same _ rfl, .ref rfl, .same _ rfl, trivial⟩, ⟨⟨_, rfl, .arr (.refl _)⟩, trivial⟩⟩
        · have g1 : ((8 : Int) ≤ ((m / 262144 : Nat) : Int)) = False := eq_false (by omega)
          simp only [tq, tf, tl, wrap64, EV0, e_condB, Nat.reduceBEq, reduceIte, Nat.reduceAdd, Nat.reduceLeDiff, Nat.reduceLT, Nat.reduceSub, Nat.reduceMul, reduceCtorEq, Int.reduceNeg, Int.reduceSub, Int.reduceAdd, Int.reduceLE, Int.reduceLT, Int.reduceMul, Int.reduceToNat, Int.reduceEq, Int.reduceBEq, Int.reduceBNe, Nat.reduceEqDiff, g1]
          refine hE _ _ ?_
          rw [rune_4 ⟨hi3 (by omega), by omega⟩]
          have l1 : IntKind.i64.wrap (240 + ((m / 262144 : Nat) : Int)) = ((240 + m / 262144 : Nat) : Int) := by rw [wrap_lt (by omega) (by omega)]; norm_cast
          have l2 : IntKind.u8.wrap ((240 + m / 262144 : Nat) : Int) = ((240 + m / 262144 : Nat) : Int) := wrap_u8 (by omega) (by omega)
          simp only [wrap64, EV0, e_condB, Nat.reduceBEq, reduceIte, Nat.reduceAdd, Nat.reduceLeDiff, Nat.reduceLT, Nat.reduceSub, Nat.reduceMul, reduceCtorEq, Int.reduceNeg, Int.reduceSub, Int.reduceAdd, Int.reduceLE, Int.reduceLT, Int.reduceMul, Int.reduceToNat, Int.reduceEq, Int.reduceBEq, Int.reduceBNe, Nat.reduceEqDiff]
          refine vk_pass ?_
          simp only [wrap64, EV0, e_condB, Nat.reduceBEq, reduceIte, Nat.reduceAdd, Nat.reduceLeDiff, Nat.reduceLT, Nat.reduceSub, Nat.reduceMul, reduceCtorEq, Int.reduceNeg, Int.reduceSub, Int.reduceAdd, Int.reduceLE, Int.reduceLT, Int.reduceMul, Int.reduceToNat, Int.reduceEq, Int.reduceBEq, Int.reduceBNe, Nat.reduceEqDiff]
          refine vk_pass ?_
          simp only [wrap64, EV0, e_condB, Nat.reduceBEq, reduceIte, Nat.reduceAdd, Nat.reduceLeDiff, Nat.reduceLT, Nat.reduceSub, Nat.reduceMul, reduceCtorEq, Int.reduceNeg, Int.reduceSub, Int.reduceAdd, Int.reduceLE, Int.reduceLT, Int.reduceMul, Int.reduceToNat, Int.reduceEq, Int.reduceBEq, Int.reduceBNe, Nat.reduceEqDiff, l1, l2, rowsBytes, Int.toNat_natCast, Option.map_some]
          exact ⟨_, _, rfl, rfl, .refl _⟩
end Go.Proofs.VL

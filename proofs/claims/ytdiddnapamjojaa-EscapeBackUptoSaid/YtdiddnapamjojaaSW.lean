/- Contracts of functions of the program, for what calls them, and the law that its name tells. -/
import Derived.Test.YtdiddnapamjojaaSV
namespace Go.Proofs.VL
open Go Go.RowKit
set_option maxRecDepth 100000
set_option maxHeartbeats 2000000
set_option linter.unusedSimpArgs false
set_option linter.unusedVariables false
attribute [local irreducible] vwp vk

/-- A number out of digits of a base, 1114112 at the most; none: some are none. -/
def numF (b : Int) : List UInt8 → Int → Option Int
  | [], n => some n
  | c :: r, n => if digB c.toNat b < 0 then none else numF b r (min (n * b + digB c.toNat b) 1114112)

theorem digB_lt {c : Nat} {b : Int} (hb : 10 ≤ b ∧ b ≤ 16) : -1 ≤ digB c b ∧ digB c b < 16 := by
  unfold digB
  split
  · refine ⟨?_, by omega⟩
    unfold digN; (repeat' split) <;> omega
  · omega

theorem u_num (t : List UInt8) {b : Int} (hb : 10 ≤ b ∧ b ≤ 16) (ht : t.length ≤ 100000000) :
    VFn Try.prog 133 [.str t, .int .i64 b] (match numF b t 0 with | some n => .tup [.int .i64 n, .bool (!(t == []))] | none => .tup [.int .i64 0, .bool false]) := by
  refine VFn.intro ok133 (Nat.le_of_ble_eq_true rfl) (vk_start ?_)
  simp only [vc133, rs133, wrap64, EV0, e_condB, Nat.reduceBEq, reduceIte, Nat.reduceAdd, Nat.reduceLeDiff, Nat.reduceLT, Nat.reduceSub, Nat.reduceMul, reduceCtorEq, Int.reduceNeg, Int.reduceSub, Int.reduceAdd, Int.reduceLE, Int.reduceLT, Int.reduceMul, Int.reduceToNat, Int.reduceEq, Int.reduceBEq, Int.reduceBNe, Nat.reduceEqDiff]
  refine vk_loopR (γ := Nat × Int) (fun g => { tm := [(0, .str t), (1, .int .i64 b), (6, .int .i64 g.2), (10, .int .i64 t.length), (11, .int .i64 g.1)], ob := [], base := 0 })
    (fun g => g.1 ≤ t.length ∧ 0 ≤ g.2 ∧ g.2 ≤ 1114112 ∧ numF b t 0 = numF b (t.drop g.1) g.2) (fun g => t.length - g.1) (0, 0) ⟨Nat.zero_le _, by decide, by decide, rfl⟩ ?_ ?_
  · exact ⟨[], rfl, rfl, rfl, rfl, ⟨.same _ rfl, .same _ rfl, .same _ rfl, .same _ rfl, .same _ rfl, trivial⟩, trivial⟩
  · rintro ⟨i, n⟩ ⟨hi, hn0, hn1, hN0⟩ R hN hE hR
    simp only at hi hn0 hn1 hN0
    have c0 : (0 ≤ (i : Int)) = True := by simp
    rcases Nat.lt_or_ge i t.length with hlt | hge
    · have c1 : ((i : Int) < (t.length : Int)) = True := by simp; omega
      obtain ⟨x, hx⟩ : ∃ x, t[i]? = some x := ⟨_, List.getElem?_eq_getElem hlt⟩
      have hdr : t.drop i = x :: t.drop (i + 1) := by
        rw [List.drop_eq_getElem_cons hlt]
        rw [List.getElem?_eq_getElem hlt] at hx
        simp only [Option.some.injEq] at hx
        rw [hx]
      rw [hdr] at hN0
      have w1 : IntKind.i64.wrap ((i : Int) + 1) = i + 1 := wrap64 (by omega) (by omega)
      have hd := digB_lt (c := x.toNat) hb
      simp only [wrap64, EV0, e_condB, Nat.reduceBEq, reduceIte, Nat.reduceAdd, Nat.reduceLeDiff, Nat.reduceLT, Nat.reduceSub, Nat.reduceMul, reduceCtorEq, Int.reduceNeg, Int.reduceSub, Int.reduceAdd, Int.reduceLE, Int.reduceLT, Int.reduceMul, Int.reduceToNat, Int.reduceEq, Int.reduceBEq, Int.reduceBNe, Nat.reduceEqDiff, c0, c1, hx, byteV]
      refine vk_call rfl (CallR.call ⟨_, .inl rfl, u_digit (c := x.toNat) x.toNat_lt hb⟩) ?_
      by_cases hneg : digB x.toNat b < 0
      · have k : (digB x.toNat b < 0) = True := eq_true hneg
        simp only [numF, if_pos hneg] at hN0
        simp only [wrap64, EV0, e_condB, Nat.reduceBEq, reduceIte, Nat.reduceAdd, Nat.reduceLeDiff, Nat.reduceLT, Nat.reduceSub, Nat.reduceMul, reduceCtorEq, Int.reduceNeg, Int.reduceSub, Int.reduceAdd, Int.reduceLE, Int.reduceLT, Int.reduceMul, Int.reduceToNat, Int.reduceEq, Int.reduceBEq, Int.reduceBNe, Nat.reduceEqDiff, k]
        refine hR _ ?_
        simp only [wrap64, EV0, e_condB, Nat.reduceBEq, reduceIte, Nat.reduceAdd, Nat.reduceLeDiff, Nat.reduceLT, Nat.reduceSub, Nat.reduceMul, reduceCtorEq, Int.reduceNeg, Int.reduceSub, Int.reduceAdd, Int.reduceLE, Int.reduceLT, Int.reduceMul, Int.reduceToNat, Int.reduceEq, Int.reduceBEq, Int.reduceBNe, Nat.reduceEqDiff, hN0]
        exact ⟨_, _, rfl, rfl, .refl _⟩
      · have k : (digB x.toNat b < 0) = False := eq_false hneg
        have hm0 : 0 ≤ n * b := Int.mul_nonneg hn0 (by omega)
        have hm1 : n * b ≤ 1114112 * 16 := Int.mul_le_mul hn1 hb.2 (by omega) (by omega)
        have w2 : IntKind.i64.wrap (n * b) = n * b := wrap64 (by omega) (by omega)
        have w3 : IntKind.i64.wrap (n * b + digB x.toNat b) = n * b + digB x.toNat b := wrap64 (by omega) (by omega)
        simp only [numF, if_neg hneg] at hN0
        generalize hD : digB x.toNat b = D at *
        generalize hM : n * b = M at *
        have em : min (M + D) 1114112 = if 1114112 < M + D then 1114112 else M + D := by split <;> omega
        rw [em] at hN0
        by_cases hbig : 1114112 < M + D
        · have k2 : (1114112 < M + D) = True := eq_true hbig
          rw [if_pos hbig] at hN0
          simp only [wrap64, EV0, e_condB, Nat.reduceBEq, reduceIte, Nat.reduceAdd, Nat.reduceLeDiff, Nat.reduceLT, Nat.reduceSub, Nat.reduceMul, reduceCtorEq, Int.reduceNeg, Int.reduceSub, Int.reduceAdd, Int.reduceLE, Int.reduceLT, Int.reduceMul, Int.reduceToNat, Int.reduceEq, Int.reduceBEq, Int.reduceBNe, Nat.reduceEqDiff, k, w1, w2, w3, hM, k2]
          refine hN _ (i + 1, 1114112) ⟨hlt, by simp only; omega, by simp only; omega, hN0⟩ (by simp only; omega) ?_
          exact ⟨[], rfl, rfl, rfl, rfl, ⟨.same _ rfl, .same _ rfl, .same _ rfl, .same _ rfl, .same _ rfl, trivial⟩, trivial⟩
        · have k2 : (1114112 < M + D) = False := eq_false hbig
          rw [if_neg hbig] at hN0
          simp only [wrap64, EV0, e_condB, Nat.reduceBEq, reduceIte, Nat.reduceAdd, Nat.reduceLeDiff, Nat.reduceLT, Nat.reduceSub, Nat.reduceMul, reduceCtorEq, Int.reduceNeg, Int.reduceSub, Int.reduceAdd, Int.reduceLE, Int.reduceLT, Int.reduceMul, Int.reduceToNat, Int.reduceEq, Int.reduceBEq, Int.reduceBNe, Nat.reduceEqDiff, k, w1, w2, w3, hM, k2]
          refine hN _ (i + 1, M + D) ⟨hlt, by simp only; omega, by simp only; omega, hN0⟩ (by simp only; omega) ?_
          exact ⟨[], rfl, rfl, rfl, rfl, ⟨.same _ rfl, .same _ rfl, .same _ rfl, .same _ rfl, .same _ rfl, trivial⟩, trivial⟩
    · have c1 : ((i : Int) < (t.length : Int)) = False := by simp; omega
      rw [List.drop_eq_nil_of_le hge] at hN0
      simp only [numF] at hN0
      simp only [wrap64, EV0, e_condB, Nat.reduceBEq, reduceIte, Nat.reduceAdd, Nat.reduceLeDiff, Nat.reduceLT, Nat.reduceSub, Nat.reduceMul, reduceCtorEq, Int.reduceNeg, Int.reduceSub, Int.reduceAdd, Int.reduceLE, Int.reduceLT, Int.reduceMul, Int.reduceToNat, Int.reduceEq, Int.reduceBEq, Int.reduceBNe, Nat.reduceEqDiff, c0, c1]
      refine hE _ _ ?_
      simp only [wrap64, EV0, e_condB, Nat.reduceBEq, reduceIte, Nat.reduceAdd, Nat.reduceLeDiff, Nat.reduceLT, Nat.reduceSub, Nat.reduceMul, reduceCtorEq, Int.reduceNeg, Int.reduceSub, Int.reduceAdd, Int.reduceLE, Int.reduceLT, Int.reduceMul, Int.reduceToNat, Int.reduceEq, Int.reduceBEq, Int.reduceBNe, Nat.reduceEqDiff, hN0]
      exact ⟨_, _, rfl, rfl, .refl _⟩
end Go.Proofs.VL

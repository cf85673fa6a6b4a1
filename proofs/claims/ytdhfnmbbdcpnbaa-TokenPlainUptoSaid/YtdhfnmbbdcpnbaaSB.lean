/- Contracts of functions of the program, for what calls them, and the law that its name tells. -/
import Derived.Test.YtdhfnmbbdcpnbaaV3
import Derived.Test.YtdhfnmbbdcpnbaaCmark
namespace Go.Proofs.VL
open Go Go.RowKit
set_option maxRecDepth 100000
set_option maxHeartbeats 1000000
set_option linter.unusedSimpArgs false
set_option linter.unusedVariables false

theorem wrap64 {n : Int} (h1 : -9223372036854775808 ≤ n) (h2 : n < 9223372036854775808) : IntKind.i64.wrap n = n := by
  have hb : IntKind.i64.bits = 64 := rfl
  have hs : IntKind.i64.signed = true := rfl
  simp only [IntKind.wrap, hb, hs]
  have e1 : (2 : Int) ^ 64 = 18446744073709551616 := rfl
  have e2 : (2 : Int) ^ (64 - 1) = 9223372036854775808 := rfl
  rw [e1, e2]
  split <;> simp only [Bool.true_and, decide_eq_true_eq] at * <;> omega

theorem fn82 (o : Int) : VFn Try.prog 106 [.int .i64 o] (.int .i64 (nearI o)) := by
  refine VFn.intro ok106 (Nat.le_of_ble_eq_true rfl) (vk_start ?_)
  simp only [vc106, rs106, wrap64, EV0, Nat.reduceBEq, reduceIte, Nat.reduceAdd, Nat.reduceLeDiff, Nat.reduceLT, Nat.reduceSub, Nat.reduceMul, reduceCtorEq, Int.reduceNeg, Int.reduceSub, Int.reduceAdd, Int.reduceLE, Int.reduceLT, Int.reduceMul, Int.reduceToNat, Int.reduceEq, Int.reduceBEq, Int.reduceBNe, Nat.reduceEqDiff]
  refine ⟨_, _, rfl, rfl, .of_eq ?_⟩
  congr 1
  simp only [nearI]
  omega

def rowsOf (l : Runs) : List (List V) := l.map fun r => [.int .i64 r.1, .int .i64 r.2]

theorem rowsOf_append (a b : Runs) : rowsOf (a ++ b) = rowsOf a ++ rowsOf b := by simp [rowsOf]
theorem rowsOf_length (a : Runs) : (rowsOf a).length = a.length := by simp [rowsOf]

theorem lend_rows {ob : List (Option VObj)} {k e n sz : Nat} {rows : List (List V)} (h : ob[k]? = some (some (.arr e sz rows))) (hn : n = rows.length) : lendV ob (.ref k n) = some (.sl sz rows) := by
  subst hn
  simp [lendV, objRows, h]

theorem lend_str {ob : List (Option VObj)} {k n : Nat} {t : List UInt8} {rs : Runs} (h : ob[k]? = some (some (.arr 116 2 (rowsOf rs)))) (hn : n = rs.length) : lendV ob (.agg [.str t, .ref k n]) = some (.agg [.str t, .sl 2 (rowsOf rs)]) := by
  subst hn
  simp [lendV, lendL, objRows, h, rowsOf_length]
  rw [List.take_of_length_le (by rw [rowsOf_length]; exact Nat.le_refl _)]

theorem put_nil (n o : Int) : VCall Try.prog 62 [.nils, .int .i64 n, .int .i64 o] [] (.ref 0 (putS [] n o).length) [some (.arr 116 2 (rowsOf (putS [] n o)))] := by
  refine VCall.intro ok62 (Nat.le_of_ble_eq_true rfl) (vk_start ?_)
  have w1 : IntKind.i64.wrap (-1) = -1 := by decide
  by_cases h : n < 1
  · simp only [vc62, rs62, wrap64, EV0, e_condB, Nat.reduceBEq, reduceIte, Nat.reduceAdd, Nat.reduceLeDiff, Nat.reduceLT, Nat.reduceSub, Nat.reduceMul, reduceCtorEq, Int.reduceNeg, Int.reduceSub, Int.reduceAdd, Int.reduceLE, Int.reduceLT, Int.reduceMul, Int.reduceToNat, Int.reduceEq, Int.reduceBEq, Int.reduceBNe, Nat.reduceEqDiff, h, w1]
    simp only [putS, h, if_true]
    exact ⟨_, rfl, [none], rfl, rfl, rfl, rfl, ⟨.nref rfl, trivial⟩, ⟨⟨_, _, rfl⟩, trivial⟩⟩
  · simp only [vc62, rs62, wrap64, EV0, e_condB, Nat.reduceBEq, reduceIte, Nat.reduceAdd, Nat.reduceLeDiff, Nat.reduceLT, Nat.reduceSub, Nat.reduceMul, reduceCtorEq, Int.reduceNeg, Int.reduceSub, Int.reduceAdd, Int.reduceLE, Int.reduceLT, Int.reduceMul, Int.reduceToNat, Int.reduceEq, Int.reduceBEq, Int.reduceBNe, Nat.reduceEqDiff, h, w1]
    simp only [putS, h, if_false, List.getLast?_nil]
    exact ⟨_, rfl, [some 0], rfl, rfl, rfl, rfl, ⟨.ref rfl, trivial⟩, ⟨⟨_, rfl, .arr (.refl _)⟩, trivial⟩⟩

theorem put_ref (rs : Runs) (n o : Int) (hn : -4000000000 ≤ n ∧ n ≤ 4000000000) (hl : rs.length ≤ 4000000000) (ha : ∀ r ∈ rs, 0 ≤ r.1 ∧ r.1 ≤ 4000000000) :
    VCall Try.prog 62 [.ref 0 rs.length, .int .i64 n, .int .i64 o] [some (.arr 116 2 (rowsOf rs))] (.ref 1 (putS rs n o).length) [none, some (.arr 116 2 (rowsOf (putS rs n o)))] := by
  refine VCall.intro ok62 (Nat.le_of_ble_eq_true rfl) (vk_start ?_)
  have w1 : IntKind.i64.wrap ((rs.length : Int) - 1) = rs.length - 1 := wrap64 (by omega) (by omega)
  by_cases h : n < 1
  · simp only [vc62, rs62, wrap64, EV0, e_condB, Nat.reduceBEq, reduceIte, Nat.reduceAdd, Nat.reduceLeDiff, Nat.reduceLT, Nat.reduceSub, Nat.reduceMul, reduceCtorEq, Int.reduceNeg, Int.reduceSub, Int.reduceAdd, Int.reduceLE, Int.reduceLT, Int.reduceMul, Int.reduceToNat, Int.reduceEq, Int.reduceBEq, Int.reduceBNe, Nat.reduceEqDiff, h, w1]
    simp only [putS, h, if_true]
    exact ⟨_, rfl, [some 0, some 0], rfl, rfl, rfl, rfl, ⟨.ref rfl, trivial⟩, ⟨⟨_, rfl, .arr (.refl _)⟩, trivial⟩⟩
  · rcases List.eq_nil_or_concat rs with rfl | ⟨init, ⟨a, o'⟩, rfl⟩
    · have w2 : IntKind.i64.wrap (-1) = -1 := by decide
      have e0 : rowsOf [] = [] := rfl
      simp only [vc62, rs62, wrap64, EV0, e_condB, Nat.reduceBEq, reduceIte, Nat.reduceAdd, Nat.reduceLeDiff, Nat.reduceLT, Nat.reduceSub, Nat.reduceMul, reduceCtorEq, Int.reduceNeg, Int.reduceSub, Int.reduceAdd, Int.reduceLE, Int.reduceLT, Int.reduceMul, Int.reduceToNat, Int.reduceEq, Int.reduceBEq, Int.reduceBNe, Nat.reduceEqDiff, h, w2, e0]
      simp only [putS, h, if_false, List.getLast?_nil]
      exact ⟨_, rfl, [some 0, some 1], rfl, rfl, rfl, rfl, ⟨.ref rfl, trivial⟩, ⟨⟨_, rfl, .arr (.refl _)⟩, trivial⟩⟩
    · have hlen : (init ++ [(a, o')]).length = init.length + 1 := by simp
      simp only [List.concat_eq_append, hlen] at w1 hl ha ⊢
      have c1 : (0 ≤ ((init.length + 1 : Nat) : Int) - 1) = True := by simp
      have c2 : (((init.length + 1 : Nat) : Int) - 1).toNat = init.length := by omega
      have c3 : init.length < init.length + 1 := by omega
      have hrl := rowsOf_length (init ++ [(a, o')])
      have hrow : (rowsOf (init ++ [(a, o')]))[init.length]? = some [.int .i64 a, .int .i64 o'] := by
        rw [rowsOf_append, List.getElem?_append_right (by rw [rowsOf_length]; omega), rowsOf_length]; simp [rowsOf]
      have hak := ha (a, o') (by simp)
      have w3 : IntKind.i64.wrap (a + n) = a + n := wrap64 (by omega) (by omega)
      have htk : List.take (init.length + 1) (rowsOf (init ++ [(a, o')])) = rowsOf (init ++ [(a, o')]) := List.take_of_length_le (by rw [hrl]; simp)
      have hrl' : (rowsOf (init ++ [(a, o')])).length = init.length + 1 := by rw [hrl, hlen]
      by_cases ho : o' = o
      · have hb : (o' == o) = true := by simpa using ho
        simp only [vc62, rs62, wrap64, EV0, e_condB, Nat.reduceBEq, reduceIte, Nat.reduceAdd, Nat.reduceLeDiff, Nat.reduceLT, Nat.reduceSub, Nat.reduceMul, reduceCtorEq, Int.reduceNeg, Int.reduceSub, Int.reduceAdd, Int.reduceLE, Int.reduceLT, Int.reduceMul, Int.reduceToNat, Int.reduceEq, Int.reduceBEq, Int.reduceBNe, Nat.reduceEqDiff, h, w1, c1, c2, c3, hrow, w3, hb]
        simp only [putS, h, if_false, List.getLast?_concat, ho, if_true, List.dropLast_concat, hlen]
        have e1 : (rowsOf (init ++ [(a, o)])).set init.length [V.int IntKind.i64 (a + n), V.int IntKind.i64 o] = rowsOf (init ++ [(a + n, o)]) := by
          rw [rowsOf_append, rowsOf_append, List.set_append_right _ _ (by rw [rowsOf_length]; omega), rowsOf_length]; simp [rowsOf]
        have e2 : (init ++ [(a + n, o)]).length = init.length + 1 := by simp
        rw [e1, e2]
        exact ⟨_, rfl, [some 0, some 0], rfl, rfl, rfl, rfl, ⟨.ref rfl, trivial⟩, ⟨⟨_, rfl, .arr (.refl _)⟩, trivial⟩⟩
      · have hb : (o' == o) = false := by simpa using ho
        have d1 : init.length + 1 + 1 ≤ 140737488355328 := by omega
        have d2 : (init.length + 1 + 1) * 16 ≤ 140737488355328 := by omega
        simp only [vc62, rs62, wrap64, EV0, e_condB, Nat.reduceBEq, reduceIte, Nat.reduceAdd, Nat.reduceLeDiff, Nat.reduceLT, Nat.reduceSub, Nat.reduceMul, reduceCtorEq, Int.reduceNeg, Int.reduceSub, Int.reduceAdd, Int.reduceLE, Int.reduceLT, Int.reduceMul, Int.reduceToNat, Int.reduceEq, Int.reduceBEq, Int.reduceBNe, Nat.reduceEqDiff, h, w1, c1, c2, c3, hrow, w3, hb, hrl', htk, d1, d2]
        simp only [putS, h, if_false, List.getLast?_concat, ho, hlen]
        have e1 : rowsOf (init ++ [(a, o')]) ++ [[V.int IntKind.i64 n, V.int IntKind.i64 o]] = rowsOf (init ++ [(a, o')] ++ [(n, o)]) := by
          rw [rowsOf_append _ [(n, o)]]; rfl
        have e2 : (init ++ [(a, o')] ++ [(n, o)]).length = init.length + 1 + 1 := by simp
        rw [e1, e2]
        exact ⟨_, rfl, [some 0, some 1], rfl, rfl, rfl, rfl, ⟨.ref rfl, trivial⟩, ⟨⟨_, rfl, .arr (.refl _)⟩, trivial⟩⟩

theorem put_at {B : List (Option VObj)} {k : Nat} {rs : Runs} (n o : Int) (hk : B[k]? = some (some (.arr 116 2 (rowsOf rs)))) (hn : -4000000000 ≤ n ∧ n ≤ 4000000000) (hl : rs.length ≤ 4000000000) (ha : ∀ r ∈ rs, 0 ≤ r.1 ∧ r.1 ≤ 4000000000) :
    VCall Try.prog 62 [.ref k rs.length, .int .i64 n, .int .i64 o] B (.ref B.length (putS rs n o).length) (B.set k none ++ [some (.arr 116 2 (rowsOf (putS rs n o)))]) :=
  VCall.frame (put_ref rs n o hn hl ha) [k] B ⟨rfl, by simp, fun i j h => by
    cases i with
    | zero => simp at h; subst h; exact ⟨getElem?_lt hk, fun o' ho => by simp at ho; subst ho; exact hk⟩
    | succ i => simp at h⟩ rfl rfl rfl rfl (by simp)

theorem put_nil_at (B : List (Option VObj)) (n o : Int) :
    VCall Try.prog 62 [.nils, .int .i64 n, .int .i64 o] B (.ref B.length (putS [] n o).length) (B ++ [some (.arr 116 2 (rowsOf (putS [] n o)))]) :=
  VCall.frame (put_nil n o) [] B ⟨rfl, by simp, fun i j h => by simp at h⟩ rfl rfl rfl rfl (by simp)
end Go.Proofs.VL

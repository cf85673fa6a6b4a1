/- Contracts of functions of the program, for what calls them, and the law that its name tells. -/
import Derived.Test.YtdiddnapamjojaaSM
namespace Go.Proofs.VL
open Go Go.RowKit
set_option maxRecDepth 100000
set_option maxHeartbeats 2000000
set_option linter.unusedSimpArgs false
set_option linter.unusedVariables false

abbrev Seq3 := Nat × Nat × Bool
def sqRows (l : List Seq3) : List (List V) := l.map fun s => [.int .i64 s.1, .int .i64 s.2.1, .bool s.2.2]
theorem sqRows_length (l : List Seq3) : (sqRows l).length = l.length := by simp [sqRows]
theorem sqRows_append (a b : List Seq3) : sqRows a ++ sqRows b = sqRows (a ++ b) := by simp [sqRows]
theorem sqRows_take (a : List Seq3) : List.take a.length (sqRows a) = sqRows a := List.take_of_length_le (by rw [sqRows_length]; exact Nat.le_refl _)

theorem u_yield {t : List UInt8} {A : List Seq3} {i n : Nat} {x : UInt8} {ok : Bool} (hx : t[i]? = some x) (hA : A.length ≤ 100000000) :
    VCall Try.prog 140 [.int .i64 i, .int .i64 n, .bool ok, .ptr 1 0, .ptr 0 0] [some (.box [.str t]), some (.box [.ref 3 A.length]), some (.box [.str t]), some (.arr 174 3 (sqRows A))] (.bool true)
      [some (.box [.str t]), some (.box [.ref 4 (A ++ [(i, n, ok && decide (x ≠ 0))]).length]), some (.box [.str t]), none, some (.arr 174 3 (sqRows (A ++ [(i, n, ok && decide (x ≠ 0))])))] := by
  refine VCall.intro ok140 (Nat.le_of_ble_eq_true rfl) (vk_start ?_)
  have c0 : (0 ≤ (i : Int)) = True := by simp
  have d1 : (A.length ≤ (sqRows A).length) = True := by rw [sqRows_length]; simp
  have e0 : ((x.toNat : Int) != 0) = decide (x ≠ 0) := by
    rcases Nat.eq_zero_or_pos x.toNat with h | h
    · have hx0 : x = 0 := UInt8.toNat_inj.1 h
      subst hx0; rfl
    · have hx0 : x ≠ 0 := fun e => by subst e; simp at h
      rw [decide_eq_true hx0]; simp; omega
  have e1 : sqRows A ++ [[V.int IntKind.i64 i, V.int IntKind.i64 n, V.bool (ok && decide (x ≠ 0))]] = sqRows (A ++ [(i, n, ok && decide (x ≠ 0))]) := by simp [sqRows]
  have d2 : ((A.length + 1) * 24 ≤ 140737488355328) = True := eq_true (by omega)
  have d3 : (A.length ≤ 140737488355327) = True := eq_true (by omega)
  cases ok with
  | true =>
    rw [Bool.true_and] at e1
    simp only [vc140, rs140, wrap64, EV0, e_condB, Nat.reduceBEq, reduceIte, Nat.reduceAdd, Nat.reduceLeDiff, Nat.reduceLT, Nat.reduceSub, Nat.reduceMul, reduceCtorEq, Int.reduceNeg, Int.reduceSub, Int.reduceAdd, Int.reduceLE, Int.reduceLT, Int.reduceMul, Int.reduceToNat, Int.reduceEq, Int.reduceBEq, Int.reduceBNe, Nat.reduceEqDiff, c0, hx, byteV, e0, d1, d2, d3, sqRows_take, sqRows_length, e1, List.length_append]
    exact ⟨_, rfl, ⟨[some 0, some 1, some 2, some 3, some 4], rfl, rfl, rfl, rfl, ⟨.same _ rfl, trivial⟩, ⟨⟨_, rfl, .box (.cons (.same _ rfl) .nil)⟩, ⟨⟨_, rfl, .box (.cons (.ref rfl) .nil)⟩, ⟨⟨_, rfl, .box (.cons (.same _ rfl) .nil)⟩, ⟨⟨_, rfl, .arr (.refl _)⟩, trivial⟩⟩⟩⟩⟩⟩
  | false =>
    rw [Bool.false_and] at e1
    simp only [vc140, rs140, wrap64, EV0, e_condB, Nat.reduceBEq, reduceIte, Nat.reduceAdd, Nat.reduceLeDiff, Nat.reduceLT, Nat.reduceSub, Nat.reduceMul, reduceCtorEq, Int.reduceNeg, Int.reduceSub, Int.reduceAdd, Int.reduceLE, Int.reduceLT, Int.reduceMul, Int.reduceToNat, Int.reduceEq, Int.reduceBEq, Int.reduceBNe, Nat.reduceEqDiff, d1, d2, d3, sqRows_take, sqRows_length, e1, List.length_append]
    exact ⟨_, rfl, ⟨[some 0, some 1, some 2, some 3, some 4], rfl, rfl, rfl, rfl, ⟨.same _ rfl, trivial⟩, ⟨⟨_, rfl, .box (.cons (.same _ rfl) .nil)⟩, ⟨⟨_, rfl, .box (.cons (.ref rfl) .nil)⟩, ⟨⟨_, rfl, .box (.cons (.same _ rfl) .nil)⟩, ⟨⟨_, rfl, .arr (.refl _)⟩, trivial⟩⟩⟩⟩⟩⟩

theorem u_yielder (t : List UInt8) : VCall Try.prog 139 [.str t] [] (.fn 158 [] [.ptr 0 0]) [some (.box [.str t])] := by
  refine VCall.intro ok139 (Nat.le_of_ble_eq_true rfl) (vk_start ?_)
  simp only [vc139, rs139, wrap64, EV0, e_condB, Nat.reduceBEq, reduceIte, Nat.reduceAdd, Nat.reduceLeDiff, Nat.reduceLT, Nat.reduceSub, Nat.reduceMul, reduceCtorEq, Int.reduceNeg, Int.reduceSub, Int.reduceAdd, Int.reduceLE, Int.reduceLT, Int.reduceMul, Int.reduceToNat, Int.reduceEq, Int.reduceBEq, Int.reduceBNe, Nat.reduceEqDiff]
  exact ⟨_, rfl, ⟨[some 0], rfl, rfl, rfl, rfl, ⟨.fn .nil (.cons (.ptr rfl) .nil), trivial⟩, ⟨⟨_, rfl, .box (.cons (.same _ rfl) .nil)⟩, trivial⟩⟩⟩

theorem u_yielder_at (B : List (Option VObj)) (t : List UInt8) : VCall Try.prog 139 [.str t] B (.fn 158 [] [.ptr B.length 0]) (B ++ [some (.box [.str t])]) :=
  VCall.frame (u_yielder t) [] B ⟨rfl, by simp, fun i j h => by simp at h⟩ rfl rfl rfl rfl (by simp)

theorem u_walk (t : List UInt8) (ht : t.length ≤ 10000000) : VCall Try.prog 158 [.fn 140 [] [.ptr 1 0, .ptr 0 0], .ptr 2 0] [some (.box [.str t]), some (.box [.nils]), some (.box [.str t])] (.tup [])
    [some (.box [.str t]), some (.box [.ref 3 (seqs t.length t 0).length]), some (.box [.str t]), some (.arr 174 3 (sqRows (seqs t.length t 0)))] := by
  refine VCall.intro ok158 (Nat.le_of_ble_eq_true rfl) (vk_start ?_)
  generalize hS : seqs t.length t 0 = S
  simp only [vc158, rs158, wrap64, EV0, e_condB, Nat.reduceBEq, reduceIte, Nat.reduceAdd, Nat.reduceLeDiff, Nat.reduceLT, Nat.reduceSub, Nat.reduceMul, reduceCtorEq, Int.reduceNeg, Int.reduceSub, Int.reduceAdd, Int.reduceLE, Int.reduceLT, Int.reduceMul, Int.reduceToNat, Int.reduceEq, Int.reduceBEq, Int.reduceBNe, Nat.reduceEqDiff]
  refine vk_loopR (γ := List Seq3 × Nat × Nat) (fun g => { tm := [(0, .fn 140 [] [.ptr 1 0, .ptr 0 0]), (1, .ptr 2 0), (3, .int .i64 g.2.1)], ob := [some (.box [.str t]), some (.box [.ref 3 g.1.length]), some (.box [.str t]), some (.arr 174 3 (sqRows g.1))], base := 3 })
    (fun g => g.1 ++ seqs g.2.2 t g.2.1 = S ∧ t.length ≤ g.2.1 + g.2.2 ∧ g.1.length ≤ g.2.1 ∧ g.2.1 ≤ t.length) (fun g => t.length - g.2.1) ([], 0, t.length) ⟨hS, by simp, by simp, by simp⟩ ?_ ?_
  · exact ⟨[some 0, some 1, some 2, none], rfl, rfl, rfl, rfl, ⟨.fn .nil (.cons (.ptr rfl) (.cons (.ptr rfl) .nil)), .ptr rfl, .same _ rfl, trivial⟩, ⟨⟨_, rfl, .box (.cons (.same _ rfl) .nil)⟩, ⟨⟨_, rfl, .box (.cons (.nref rfl) .nil)⟩, ⟨⟨_, rfl, .box (.cons (.same _ rfl) .nil)⟩, ⟨⟨_, _, rfl⟩, trivial⟩⟩⟩⟩⟩
  · rintro ⟨A, i, k⟩ ⟨hA, hk, hAl, hi⟩ R hN hE hR
    simp only at hA hk hAl hi
    have c0 : (0 ≤ (i : Int)) = True := by simp
    rcases Nat.lt_or_ge i t.length with hlt | hge
    · have c1 : ((i : Int) < (t.length : Int)) = True := by simp; omega
      have c2 : ((i : Int) ≤ (t.length : Int)) = True := by simp; omega
      obtain ⟨k, rfl⟩ : ∃ k', k = k' + 1 := ⟨k - 1, by omega⟩
      obtain ⟨x, hx⟩ : ∃ x, t[i]? = some x := ⟨_, List.getElem?_eq_getElem hlt⟩
      simp only [seqs, if_pos hlt] at hA
      have hnp := nextF_pos (t := t.drop i) (by intro h; have := congrArg List.length h; simp at this; omega)
      have hdl : (t.drop i).length = t.length - i := List.length_drop
      generalize hN1 : nextF (t.drop i) = N at *
      obtain ⟨n, ok⟩ := N
      simp only at hnp hA
      have w1 : IntKind.i64.wrap ((i : Int) + (n : Int)) = ((i + n : Nat) : Int) := by rw [wrap64 (by omega) (by omega)]; omega
      have hu := u_next (t.drop i) (by omega)
      rw [hN1] at hu
      simp only [wrap64, EV0, e_condB, Nat.reduceBEq, reduceIte, Nat.reduceAdd, Nat.reduceLeDiff, Nat.reduceLT, Nat.reduceSub, Nat.reduceMul, reduceCtorEq, Int.reduceNeg, Int.reduceSub, Int.reduceAdd, Int.reduceLE, Int.reduceLT, Int.reduceMul, Int.reduceToNat, Int.reduceEq, Int.reduceBEq, Int.reduceBNe, Nat.reduceEqDiff, c0, c1, c2, List.take_length]
      refine vk_callR rfl ⟨_, .inl rfl, hu⟩ ?_
      simp only [wrap64, EV0, e_condB, Nat.reduceBEq, reduceIte, Nat.reduceAdd, Nat.reduceLeDiff, Nat.reduceLT, Nat.reduceSub, Nat.reduceMul, reduceCtorEq, Int.reduceNeg, Int.reduceSub, Int.reduceAdd, Int.reduceLE, Int.reduceLT, Int.reduceMul, Int.reduceToNat, Int.reduceEq, Int.reduceBEq, Int.reduceBNe, Nat.reduceEqDiff]
      refine vk_call rfl (u_yield hx (by omega)) ?_
      simp only [wrap64, EV0, e_condB, Nat.reduceBEq, reduceIte, Nat.reduceAdd, Nat.reduceLeDiff, Nat.reduceLT, Nat.reduceSub, Nat.reduceMul, reduceCtorEq, Int.reduceNeg, Int.reduceSub, Int.reduceAdd, Int.reduceLE, Int.reduceLT, Int.reduceMul, Int.reduceToNat, Int.reduceEq, Int.reduceBEq, Int.reduceBNe, Nat.reduceEqDiff, w1]
      refine hN _ (A ++ [(i, n, ok && decide (x ≠ 0))], i + n, k) ⟨?_, by simp only; omega, by simp; omega, by simp only; omega⟩ (by simp only; omega) ?_
      · simp only
        rw [List.append_assoc, List.singleton_append, ← hA, hx]
        have e0 : decide (some x ≠ some 0) = decide (x ≠ 0) := by simp
        rw [e0]
      · simp only [List.length_append, List.length_singleton]
        exact ⟨[some 0, some 1, some 2, some 4], rfl, rfl, rfl, rfl, ⟨.fn .nil (.cons (.ptr rfl) (.cons (.ptr rfl) .nil)), .ptr rfl, .same _ rfl, trivial⟩, ⟨⟨_, rfl, .box (.cons (.same _ rfl) .nil)⟩, ⟨⟨_, rfl, .box (.cons (.ref rfl) .nil)⟩, ⟨⟨_, rfl, .box (.cons (.same _ rfl) .nil)⟩, ⟨⟨_, rfl, .arr (.refl _)⟩, trivial⟩⟩⟩⟩⟩
    · have c1 : ((i : Int) < (t.length : Int)) = False := by simp; omega
      have e1 : seqs k t i = [] := by cases k with
        | zero => rfl
        | succ k => simp only [seqs]; rw [if_neg (by omega)]
      rw [e1, List.append_nil] at hA
      subst hA
      simp only [wrap64, EV0, e_condB, Nat.reduceBEq, reduceIte, Nat.reduceAdd, Nat.reduceLeDiff, Nat.reduceLT, Nat.reduceSub, Nat.reduceMul, reduceCtorEq, Int.reduceNeg, Int.reduceSub, Int.reduceAdd, Int.reduceLE, Int.reduceLT, Int.reduceMul, Int.reduceToNat, Int.reduceEq, Int.reduceBEq, Int.reduceBNe, Nat.reduceEqDiff, c0, c1]
      refine hE _ _ ?_
      simp only [wrap64, EV0, e_condB, Nat.reduceBEq, reduceIte, Nat.reduceAdd, Nat.reduceLeDiff, Nat.reduceLT, Nat.reduceSub, Nat.reduceMul, reduceCtorEq, Int.reduceNeg, Int.reduceSub, Int.reduceAdd, Int.reduceLE, Int.reduceLT, Int.reduceMul, Int.reduceToNat, Int.reduceEq, Int.reduceBEq, Int.reduceBNe, Nat.reduceEqDiff]
      exact ⟨_, rfl, ⟨[some 0, some 1, some 2, some 3], rfl, rfl, rfl, rfl, ⟨.same _ rfl, trivial⟩, ⟨⟨_, rfl, .box (.cons (.same _ rfl) .nil)⟩, ⟨⟨_, rfl, .box (.cons (.ref rfl) .nil)⟩, ⟨⟨_, rfl, .box (.cons (.same _ rfl) .nil)⟩, ⟨⟨_, rfl, .arr (.refl _)⟩, trivial⟩⟩⟩⟩⟩⟩

theorem u_all (t : List UInt8) (ht : t.length ≤ 10000000) : VFn Try.prog 124 [.str t] (.sl 3 (sqRows (seqs t.length t 0))) := by
  refine VFn.intro ok124 (Nat.le_of_ble_eq_true rfl) (vk_start ?_)
  simp only [vc124, rs124, wrap64, EV0, e_condB, Nat.reduceBEq, reduceIte, Nat.reduceAdd, Nat.reduceLeDiff, Nat.reduceLT, Nat.reduceSub, Nat.reduceMul, reduceCtorEq, Int.reduceNeg, Int.reduceSub, Int.reduceAdd, Int.reduceLE, Int.reduceLT, Int.reduceMul, Int.reduceToNat, Int.reduceEq, Int.reduceBEq, Int.reduceBNe, Nat.reduceEqDiff]
  refine vk_call rfl (u_yielder_at _ t) ?_
  simp only [wrap64, EV0, e_condB, Nat.reduceBEq, reduceIte, Nat.reduceAdd, Nat.reduceLeDiff, Nat.reduceLT, Nat.reduceSub, Nat.reduceMul, reduceCtorEq, Int.reduceNeg, Int.reduceSub, Int.reduceAdd, Int.reduceLE, Int.reduceLT, Int.reduceMul, Int.reduceToNat, Int.reduceEq, Int.reduceBEq, Int.reduceBNe, Nat.reduceEqDiff]
  refine vk_call rfl (u_walk t ht) ?_
  simp only [wrap64, EV0, e_condB, Nat.reduceBEq, reduceIte, Nat.reduceAdd, Nat.reduceLeDiff, Nat.reduceLT, Nat.reduceSub, Nat.reduceMul, reduceCtorEq, Int.reduceNeg, Int.reduceSub, Int.reduceAdd, Int.reduceLE, Int.reduceLT, Int.reduceMul, Int.reduceToNat, Int.reduceEq, Int.reduceBEq, Int.reduceBNe, Nat.reduceEqDiff]
  exact ⟨_, _, rfl, lend_rows rfl (by rw [sqRows_length]), .refl _⟩

theorem seqs_len (t : List UInt8) : ∀ k i, (seqs k t i).length ≤ k
  | 0, i => by simp [seqs]
  | k + 1, i => by
    unfold seqs
    split
    · have := seqs_len t k (i + (nextF (t.drop i)).1)
      simp only [List.length_cons]; omega
    · simp

theorem sqRows_get (l : List Seq3) (i : Nat) : (sqRows l)[i]? = (l[i]?).map fun s => [.int .i64 s.1, .int .i64 s.2.1, .bool s.2.2] := by simp [sqRows]

theorem u_valid (t : List UInt8) (ht : t.length ≤ 10000000) : VFn Try.prog 97 [.str t] (.bool (isValid t)) := by
  refine VFn.intro ok97 (Nat.le_of_ble_eq_true rfl) (vk_start ?_)
  have hv := seqs_valid t t.length 0
  have hl := seqs_len t t.length 0
  have hall := u_all t ht
  rw [show validF t t.length 0 = isValid t from rfl] at hv
  generalize seqs t.length t 0 = S at *
  simp only [vc97, rs97, wrap64, EV0, e_condB, Nat.reduceBEq, reduceIte, Nat.reduceAdd, Nat.reduceLeDiff, Nat.reduceLT, Nat.reduceSub, Nat.reduceMul, reduceCtorEq, Int.reduceNeg, Int.reduceSub, Int.reduceAdd, Int.reduceLE, Int.reduceLT, Int.reduceMul, Int.reduceToNat, Int.reduceEq, Int.reduceBEq, Int.reduceBNe, Nat.reduceEqDiff]
  refine vk_callR rfl ⟨_, .inl rfl, hall⟩ ?_
  simp only [wrap64, EV0, e_condB, Nat.reduceBEq, reduceIte, Nat.reduceAdd, Nat.reduceLeDiff, Nat.reduceLT, Nat.reduceSub, Nat.reduceMul, reduceCtorEq, Int.reduceNeg, Int.reduceSub, Int.reduceAdd, Int.reduceLE, Int.reduceLT, Int.reduceMul, Int.reduceToNat, Int.reduceEq, Int.reduceBEq, Int.reduceBNe, Nat.reduceEqDiff, sqRows_length]
  refine vk_loopR (γ := Nat) (fun j => { tm := [(6, .sl 3 (sqRows S)), (7, .int .i64 S.length), (8, .int .i64 j)], ob := [], base := 0 })
    (fun j => j ≤ S.length ∧ (S.take j).all (fun s => s.2.2) = true) (fun j => S.length - j) 0 ⟨Nat.zero_le _, rfl⟩ ?_ ?_
  · exact ⟨[], rfl, rfl, rfl, rfl, ⟨.same _ rfl, .same _ rfl, .same _ rfl, trivial⟩, trivial⟩
  · rintro j ⟨hj, ha⟩ R hN hE hR
    have c0 : (0 ≤ (j : Int)) = True := by simp
    rcases Nat.lt_or_ge j S.length with hlt | hge
    · have c1 : ((j : Int) < (S.length : Int)) = True := by simp; omega
      obtain ⟨⟨a, n, ok⟩, hr⟩ : ∃ r, S[j]? = some r := ⟨_, List.getElem?_eq_getElem hlt⟩
      have hrow : (sqRows S)[j]? = some [.int .i64 a, .int .i64 n, .bool ok] := by rw [sqRows_get, hr]; rfl
      have w1 : IntKind.i64.wrap ((j : Int) + 1) = j + 1 := wrap64 (by omega) (by omega)
      cases ok with
      | true =>
        simp only [wrap64, EV0, e_condB, Nat.reduceBEq, reduceIte, Nat.reduceAdd, Nat.reduceLeDiff, Nat.reduceLT, Nat.reduceSub, Nat.reduceMul, reduceCtorEq, Int.reduceNeg, Int.reduceSub, Int.reduceAdd, Int.reduceLE, Int.reduceLT, Int.reduceMul, Int.reduceToNat, Int.reduceEq, Int.reduceBEq, Int.reduceBNe, Nat.reduceEqDiff, c0, c1, hrow, w1]
        refine hN _ (j + 1) ⟨hlt, ?_⟩ (by omega) ?_
        · rw [List.take_add_one, hr, List.all_append, ha]; rfl
        · exact ⟨[], rfl, rfl, rfl, rfl, ⟨.same _ rfl, .same _ rfl, .same _ rfl, trivial⟩, trivial⟩
      | false =>
        have hf : isValid t = false := by
          rw [← hv, List.all_eq_false]
          exact ⟨_, List.mem_of_getElem? hr, by simp⟩
        simp only [wrap64, EV0, e_condB, Nat.reduceBEq, reduceIte, Nat.reduceAdd, Nat.reduceLeDiff, Nat.reduceLT, Nat.reduceSub, Nat.reduceMul, reduceCtorEq, Int.reduceNeg, Int.reduceSub, Int.reduceAdd, Int.reduceLE, Int.reduceLT, Int.reduceMul, Int.reduceToNat, Int.reduceEq, Int.reduceBEq, Int.reduceBNe, Nat.reduceEqDiff, c0, c1, hrow, w1]
        refine hR _ ?_
        simp only [wrap64, EV0, e_condB, Nat.reduceBEq, reduceIte, Nat.reduceAdd, Nat.reduceLeDiff, Nat.reduceLT, Nat.reduceSub, Nat.reduceMul, reduceCtorEq, Int.reduceNeg, Int.reduceSub, Int.reduceAdd, Int.reduceLE, Int.reduceLT, Int.reduceMul, Int.reduceToNat, Int.reduceEq, Int.reduceBEq, Int.reduceBNe, Nat.reduceEqDiff, hf]
        exact ⟨_, _, rfl, rfl, .refl _⟩
    · have c1 : ((j : Int) < (S.length : Int)) = False := by simp; omega
      rw [List.take_of_length_le hge, hv] at ha
      simp only [wrap64, EV0, e_condB, Nat.reduceBEq, reduceIte, Nat.reduceAdd, Nat.reduceLeDiff, Nat.reduceLT, Nat.reduceSub, Nat.reduceMul, reduceCtorEq, Int.reduceNeg, Int.reduceSub, Int.reduceAdd, Int.reduceLE, Int.reduceLT, Int.reduceMul, Int.reduceToNat, Int.reduceEq, Int.reduceBEq, Int.reduceBNe, Nat.reduceEqDiff, c0, c1]
      refine hE _ _ ?_
      simp only [wrap64, EV0, e_condB, Nat.reduceBEq, reduceIte, Nat.reduceAdd, Nat.reduceLeDiff, Nat.reduceLT, Nat.reduceSub, Nat.reduceMul, reduceCtorEq, Int.reduceNeg, Int.reduceSub, Int.reduceAdd, Int.reduceLE, Int.reduceLT, Int.reduceMul, Int.reduceToNat, Int.reduceEq, Int.reduceBEq, Int.reduceBNe, Nat.reduceEqDiff, ha]
      exact ⟨_, _, rfl, rfl, .refl _⟩

theorem u_raw (t : List UInt8) (rs : Runs) (ht : t.length ≤ 10000000) : VFn Try.prog 47 [rawV t rs] (.bool (isRaw t)) := by
  refine VFn.intro ok47 (Nat.le_of_ble_eq_true rfl) (vk_start ?_)
  simp only [vc47, rs47, rawV, wrap64, EV0, e_condB, Nat.reduceBEq, reduceIte, Nat.reduceAdd, Nat.reduceLeDiff, Nat.reduceLT, Nat.reduceSub, Nat.reduceMul, reduceCtorEq, Int.reduceNeg, Int.reduceSub, Int.reduceAdd, Int.reduceLE, Int.reduceLT, Int.reduceMul, Int.reduceToNat, Int.reduceEq, Int.reduceBEq, Int.reduceBNe, Nat.reduceEqDiff]
  refine vk_loopR (γ := Nat) (fun j => { tm := [(1, .ptr 0 0), (7, .int .i64 t.length), (8, .int .i64 j)], ob := [some (.box [.str t, .sl 2 (rowsOf rs)])], base := 0 })
    (fun j => j ≤ t.length ∧ (t.take j).all (fun c => decide (c ≠ 60 ∧ c ≠ 13)) = true) (fun j => t.length - j) 0 ⟨Nat.zero_le _, rfl⟩ ?_ ?_
  · exact ⟨[some 0], rfl, rfl, rfl, rfl, ⟨.ptr rfl, .same _ rfl, .same _ rfl, trivial⟩, ⟨⟨_, rfl, .box (.cons (.same _ rfl) (.cons (.same _ rfl) .nil))⟩, trivial⟩⟩
  · rintro j ⟨hj, ha⟩ R hN hE hR
    have c0 : (0 ≤ (j : Int)) = True := by simp
    rcases Nat.lt_or_ge j t.length with hlt | hge
    · have c1 : ((j : Int) < (t.length : Int)) = True := by simp; omega
      obtain ⟨c, hr⟩ : ∃ r, t[j]? = some r := ⟨_, List.getElem?_eq_getElem hlt⟩
      have w1 : IntKind.i64.wrap ((j : Int) + 1) = j + 1 := wrap64 (by omega) (by omega)
      by_cases hc : c ≠ 60 ∧ c ≠ 13
      · have k1 : ((c.toNat : Int) == 60) = false := by
          simp only [beq_eq_false_iff_ne]; intro e; exact hc.1 (UInt8.toNat_inj.1 (by show c.toNat = 60; omega))
        have k2 : ((c.toNat : Int) == 13) = false := by
          simp only [beq_eq_false_iff_ne]; intro e; exact hc.2 (UInt8.toNat_inj.1 (by show c.toNat = 13; omega))
        simp only [wrap64, EV0, e_condB, Nat.reduceBEq, reduceIte, Nat.reduceAdd, Nat.reduceLeDiff, Nat.reduceLT, Nat.reduceSub, Nat.reduceMul, reduceCtorEq, Int.reduceNeg, Int.reduceSub, Int.reduceAdd, Int.reduceLE, Int.reduceLT, Int.reduceMul, Int.reduceToNat, Int.reduceEq, Int.reduceBEq, Int.reduceBNe, Nat.reduceEqDiff, c0, c1, hr, byteV, k1, k2, w1]
        refine hN _ (j + 1) ⟨hlt, ?_⟩ (by omega) ?_
        · rw [List.take_add_one, hr, List.all_append, ha]
          simp [hc]
        · exact ⟨[some 0], rfl, rfl, rfl, rfl, ⟨.ptr rfl, .same _ rfl, .same _ rfl, trivial⟩, ⟨⟨_, rfl, .box (.cons (.same _ rfl) (.cons (.same _ rfl) .nil))⟩, trivial⟩⟩
      · have hf : isRaw t = false := by
          unfold isRaw
          have : (t.all fun c => decide (c ≠ 60 ∧ c ≠ 13)) = false := by
            rw [List.all_eq_false]
            exact ⟨c, List.mem_of_getElem? hr, by simpa using hc⟩
          rw [this, Bool.and_false]
        by_cases h60 : c = 60
        · subst h60
          have k1 : (((60 : UInt8).toNat : Int) == 60) = true := rfl
          simp only [wrap64, EV0, e_condB, Nat.reduceBEq, reduceIte, Nat.reduceAdd, Nat.reduceLeDiff, Nat.reduceLT, Nat.reduceSub, Nat.reduceMul, reduceCtorEq, Int.reduceNeg, Int.reduceSub, Int.reduceAdd, Int.reduceLE, Int.reduceLT, Int.reduceMul, Int.reduceToNat, Int.reduceEq, Int.reduceBEq, Int.reduceBNe, Nat.reduceEqDiff, c0, c1, hr, byteV, k1]
          refine hR _ ?_
          simp only [wrap64, EV0, e_condB, Nat.reduceBEq, reduceIte, Nat.reduceAdd, Nat.reduceLeDiff, Nat.reduceLT, Nat.reduceSub, Nat.reduceMul, reduceCtorEq, Int.reduceNeg, Int.reduceSub, Int.reduceAdd, Int.reduceLE, Int.reduceLT, Int.reduceMul, Int.reduceToNat, Int.reduceEq, Int.reduceBEq, Int.reduceBNe, Nat.reduceEqDiff, hf]
          exact ⟨_, _, rfl, rfl, .refl _⟩
        · have h13 : c = 13 := by
            rcases Decidable.em (c = 13) with h | h
            · exact h
            · exact absurd ⟨h60, h⟩ hc
          subst h13
          have k1 : (((13 : UInt8).toNat : Int) == 60) = false := rfl
          have k2 : (((13 : UInt8).toNat : Int) == 13) = true := rfl
          simp only [wrap64, EV0, e_condB, Nat.reduceBEq, reduceIte, Nat.reduceAdd, Nat.reduceLeDiff, Nat.reduceLT, Nat.reduceSub, Nat.reduceMul, reduceCtorEq, Int.reduceNeg, Int.reduceSub, Int.reduceAdd, Int.reduceLE, Int.reduceLT, Int.reduceMul, Int.reduceToNat, Int.reduceEq, Int.reduceBEq, Int.reduceBNe, Nat.reduceEqDiff, c0, c1, hr, byteV, k1, k2]
          refine hR _ ?_
          simp only [wrap64, EV0, e_condB, Nat.reduceBEq, reduceIte, Nat.reduceAdd, Nat.reduceLeDiff, Nat.reduceLT, Nat.reduceSub, Nat.reduceMul, reduceCtorEq, Int.reduceNeg, Int.reduceSub, Int.reduceAdd, Int.reduceLE, Int.reduceLT, Int.reduceMul, Int.reduceToNat, Int.reduceEq, Int.reduceBEq, Int.reduceBNe, Nat.reduceEqDiff, hf]
          exact ⟨_, _, rfl, rfl, .refl _⟩
    · have c1 : ((j : Int) < (t.length : Int)) = False := by simp; omega
      rw [List.take_of_length_le hge] at ha
      have hr : isRaw t = isValid t := by unfold isRaw; rw [ha, Bool.and_true]
      simp only [wrap64, EV0, e_condB, Nat.reduceBEq, reduceIte, Nat.reduceAdd, Nat.reduceLeDiff, Nat.reduceLT, Nat.reduceSub, Nat.reduceMul, reduceCtorEq, Int.reduceNeg, Int.reduceSub, Int.reduceAdd, Int.reduceLE, Int.reduceLT, Int.reduceMul, Int.reduceToNat, Int.reduceEq, Int.reduceBEq, Int.reduceBNe, Nat.reduceEqDiff, c0, c1]
      refine hE _ _ ?_
      simp only [wrap64, EV0, e_condB, Nat.reduceBEq, reduceIte, Nat.reduceAdd, Nat.reduceLeDiff, Nat.reduceLT, Nat.reduceSub, Nat.reduceMul, reduceCtorEq, Int.reduceNeg, Int.reduceSub, Int.reduceAdd, Int.reduceLE, Int.reduceLT, Int.reduceMul, Int.reduceToNat, Int.reduceEq, Int.reduceBEq, Int.reduceBNe, Nat.reduceEqDiff]
      refine vk_callR rfl ⟨_, .inl rfl, u_valid t ht⟩ ?_
      simp only [wrap64, EV0, e_condB, Nat.reduceBEq, reduceIte, Nat.reduceAdd, Nat.reduceLeDiff, Nat.reduceLT, Nat.reduceSub, Nat.reduceMul, reduceCtorEq, Int.reduceNeg, Int.reduceSub, Int.reduceAdd, Int.reduceLE, Int.reduceLT, Int.reduceMul, Int.reduceToNat, Int.reduceEq, Int.reduceBEq, Int.reduceBNe, Nat.reduceEqDiff, hr]
      exact ⟨_, _, rfl, rfl, .refl _⟩

def zl (t : List UInt8) : LT := t.map fun c => (c, nearI 0)
theorem zl_drop (t : List UInt8) (i : Nat) : (cRows (zl t)).drop i = cRows (zl (t.drop i)) := by simp [zl, cRows]
theorem txt_zl (t : List UInt8) : txt (zl t) = t := by simp [txt, zl, Function.comp_def]
theorem zl_length (t : List UInt8) : (zl t).length = t.length := by simp [zl]

theorem ref_valid (t : List UInt8) (ht : t.length ≤ 10000000) : VFn Try.prog 44 [.str t] (.bool (isValid t)) := by
  refine VFn.intro ok44 (Nat.le_of_ble_eq_true rfl) (vk_start ?_)
  simp only [vc44, rs44, wrap64, EV0, e_condB, Nat.reduceBEq, reduceIte, Nat.reduceAdd, Nat.reduceLeDiff, Nat.reduceLT, Nat.reduceSub, Nat.reduceMul, reduceCtorEq, Int.reduceNeg, Int.reduceSub, Int.reduceAdd, Int.reduceLE, Int.reduceLT, Int.reduceMul, Int.reduceToNat, Int.reduceEq, Int.reduceBEq, Int.reduceBNe, Nat.reduceEqDiff]
  refine vk_callR rfl ⟨[.str t, .int .i64 0], .inl rfl, ref_all t 0 (by omega)⟩ ?_
  rw [show (t.map fun c => (c, nearI 0)) = zl t from rfl]
  simp only [wrap64, EV0, e_condB, Nat.reduceBEq, reduceIte, Nat.reduceAdd, Nat.reduceLeDiff, Nat.reduceLT, Nat.reduceSub, Nat.reduceMul, reduceCtorEq, Int.reduceNeg, Int.reduceSub, Int.reduceAdd, Int.reduceLE, Int.reduceLT, Int.reduceMul, Int.reduceToNat, Int.reduceEq, Int.reduceBEq, Int.reduceBNe, Nat.reduceEqDiff]
  refine vk_loopR (γ := Nat × Nat) (fun g => { tm := [(3, .sl 2 (cRows (zl (t.drop g.1))))], ob := [], base := 0 })
    (fun g => g.1 ≤ t.length ∧ t.length ≤ g.1 + g.2 ∧ isValid t = validF t g.2 g.1) (fun g => t.length - g.1) (0, t.length) ⟨Nat.zero_le _, by simp, rfl⟩ ?_ ?_
  · exact ⟨[], rfl, rfl, rfl, rfl, ⟨.same _ rfl, trivial⟩, trivial⟩
  · rintro ⟨i, k⟩ ⟨hi, hk, hV⟩ R hN hE hR
    simp only at hi hk hV
    have hdl : (t.drop i).length = t.length - i := List.length_drop
    rcases Nat.lt_or_ge i t.length with hlt | hge
    · obtain ⟨k, rfl⟩ : ∃ k', k = k' + 1 := ⟨k - 1, by omega⟩
      unfold validF at hV
      rw [if_pos hlt] at hV
      obtain ⟨x, hx⟩ : ∃ x, t[i]? = some x := ⟨_, List.getElem?_eq_getElem hlt⟩
      have hnp := nextF_pos (t := t.drop i) (by intro h; have := congrArg List.length h; simp at this; omega)
      have hu := ref_next (zl (t.drop i)) (by rw [zl_length]; omega)
      rw [txt_zl] at hu
      generalize hN1 : nextF (t.drop i) = N at *
      obtain ⟨n, ok⟩ := N
      simp only at hnp hV hu
      have c1 : ((0 : Int) < ((zl (t.drop i)).length : Int)) = True := by rw [zl_length]; exact eq_true (by omega)
      have hrow : (cRows (zl (t.drop i)))[0]? = some [.int .u8 x.toNat, .int .i64 0] := by
        simp [cRows, zl, hx]
        rfl
      have c2 : (0 ≤ (n : Int)) = True := by simp
      have c3 : ((n : Int) ≤ ((zl (t.drop i)).length : Int)) = True := by rw [zl_length]; exact eq_true (by omega)
      simp only [wrap64, EV0, e_condB, Nat.reduceBEq, reduceIte, Nat.reduceAdd, Nat.reduceLeDiff, Nat.reduceLT, Nat.reduceSub, Nat.reduceMul, reduceCtorEq, Int.reduceNeg, Int.reduceSub, Int.reduceAdd, Int.reduceLE, Int.reduceLT, Int.reduceMul, Int.reduceToNat, Int.reduceEq, Int.reduceBEq, Int.reduceBNe, Nat.reduceEqDiff, cRows_length, c1]
      refine vk_callR rfl ⟨_, .inl rfl, hu⟩ ?_
      cases ok with
      | true =>
        by_cases h0 : x = 0
        · subst h0
          have k1 : (((0 : UInt8).toNat : Int) == 0) = true := rfl
          have hf : isValid t = false := by rw [hV, hx]; rfl
          simp only [wrap64, EV0, e_condB, Nat.reduceBEq, reduceIte, Nat.reduceAdd, Nat.reduceLeDiff, Nat.reduceLT, Nat.reduceSub, Nat.reduceMul, reduceCtorEq, Int.reduceNeg, Int.reduceSub, Int.reduceAdd, Int.reduceLE, Int.reduceLT, Int.reduceMul, Int.reduceToNat, Int.reduceEq, Int.reduceBEq, Int.reduceBNe, Nat.reduceEqDiff, cRows_length, hrow, k1, c1]
          refine hR _ ?_
          simp only [wrap64, EV0, e_condB, Nat.reduceBEq, reduceIte, Nat.reduceAdd, Nat.reduceLeDiff, Nat.reduceLT, Nat.reduceSub, Nat.reduceMul, reduceCtorEq, Int.reduceNeg, Int.reduceSub, Int.reduceAdd, Int.reduceLE, Int.reduceLT, Int.reduceMul, Int.reduceToNat, Int.reduceEq, Int.reduceBEq, Int.reduceBNe, Nat.reduceEqDiff, hf]
          exact ⟨_, _, rfl, rfl, .refl _⟩
        · have k1 : ((x.toNat : Int) == 0) = false := by
            simp only [beq_eq_false_iff_ne]; intro e; exact h0 (UInt8.toNat_inj.1 (by show x.toNat = 0; omega))
          have hV2 : isValid t = validF t k (i + n) := by
            rw [hV, hx]
            have : decide (some x ≠ some 0) = true := by simp [h0]
            rw [this]; rfl
          simp only [wrap64, EV0, e_condB, Nat.reduceBEq, reduceIte, Nat.reduceAdd, Nat.reduceLeDiff, Nat.reduceLT, Nat.reduceSub, Nat.reduceMul, reduceCtorEq, Int.reduceNeg, Int.reduceSub, Int.reduceAdd, Int.reduceLE, Int.reduceLT, Int.reduceMul, Int.reduceToNat, Int.reduceEq, Int.reduceBEq, Int.reduceBNe, Nat.reduceEqDiff, cRows_length, hrow, k1, c1, c2, c3]
          rw [cRows_take, zl_drop, List.drop_drop]
          refine hN _ (i + n, k) ⟨by simp only; omega, by simp only; omega, hV2⟩ (by simp only; omega) ?_
          exact ⟨[], rfl, rfl, rfl, rfl, ⟨.same _ rfl, trivial⟩, trivial⟩
      | false =>
        have hf : isValid t = false := by rw [hV, Bool.false_and, Bool.false_and]
        simp only [wrap64, EV0, e_condB, Nat.reduceBEq, reduceIte, Nat.reduceAdd, Nat.reduceLeDiff, Nat.reduceLT, Nat.reduceSub, Nat.reduceMul, reduceCtorEq, Int.reduceNeg, Int.reduceSub, Int.reduceAdd, Int.reduceLE, Int.reduceLT, Int.reduceMul, Int.reduceToNat, Int.reduceEq, Int.reduceBEq, Int.reduceBNe, Nat.reduceEqDiff]
        refine hR _ ?_
        simp only [wrap64, EV0, e_condB, Nat.reduceBEq, reduceIte, Nat.reduceAdd, Nat.reduceLeDiff, Nat.reduceLT, Nat.reduceSub, Nat.reduceMul, reduceCtorEq, Int.reduceNeg, Int.reduceSub, Int.reduceAdd, Int.reduceLE, Int.reduceLT, Int.reduceMul, Int.reduceToNat, Int.reduceEq, Int.reduceBEq, Int.reduceBNe, Nat.reduceEqDiff, hf]
        exact ⟨_, _, rfl, rfl, .refl _⟩
    · have hz : t.drop i = [] := List.drop_eq_nil_of_le hge
      have c1 : ((0 : Int) < ((zl (t.drop i)).length : Int)) = False := by rw [zl_length]; exact eq_false (by omega)
      have hV2 : isValid t = true := by
        rw [hV]
        cases k with
        | zero => rfl
        | succ k => unfold validF; rw [if_neg (by omega)]
      simp only [wrap64, EV0, e_condB, Nat.reduceBEq, reduceIte, Nat.reduceAdd, Nat.reduceLeDiff, Nat.reduceLT, Nat.reduceSub, Nat.reduceMul, reduceCtorEq, Int.reduceNeg, Int.reduceSub, Int.reduceAdd, Int.reduceLE, Int.reduceLT, Int.reduceMul, Int.reduceToNat, Int.reduceEq, Int.reduceBEq, Int.reduceBNe, Nat.reduceEqDiff, cRows_length, c1]
      refine hE _ _ ?_
      simp only [wrap64, EV0, e_condB, Nat.reduceBEq, reduceIte, Nat.reduceAdd, Nat.reduceLeDiff, Nat.reduceLT, Nat.reduceSub, Nat.reduceMul, reduceCtorEq, Int.reduceNeg, Int.reduceSub, Int.reduceAdd, Int.reduceLE, Int.reduceLT, Int.reduceMul, Int.reduceToNat, Int.reduceEq, Int.reduceBEq, Int.reduceBNe, Nat.reduceEqDiff, hV2]
      exact ⟨_, _, rfl, rfl, .refl _⟩
end Go.Proofs.VL

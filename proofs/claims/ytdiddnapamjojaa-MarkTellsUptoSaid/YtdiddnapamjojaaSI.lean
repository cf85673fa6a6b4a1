/- Contracts of functions of the program, for what calls them, and the law that its name tells. -/
import Derived.Test.YtdiddnapamjojaaSH
import Derived.Test.YtdiddnapamjojaaV3
import Derived.Test.YtdiddnapamjojaaSA3
namespace Go.Proofs.VL
open Go Go.RowKit
set_option maxRecDepth 100000
set_option maxHeartbeats 2000000
set_option linter.unusedSimpArgs false
set_option linter.unusedVariables false

theorem runs_facts {O : List Int} {n : Nat} (hol : O.length = n) : (∀ r ∈ rle O, 1 ≤ r.1 ∧ r.1 ≤ n) ∧ expand (rle O) = O ∧ (rle O).length ≤ n ∧ ∀ j, (expand ((rle O).take j)).length ≤ n := by
  have hexp := (expand_rle O).1
  refine ⟨fun r hr => by have := rle_mem hr; omega, hexp, by have := rle_len O; omega, fun j => ?_⟩
  have h1 : expand (rle O) = expand ((rle O).take j) ++ expand ((rle O).drop j) := by simp only [expand]; rw [← List.flatMap_append, List.take_append_drop]
  have h2 := congrArg List.length h1
  rw [hexp, List.length_append] at h2
  omega

/-- At: a byte's origin. -/
theorem mark_at {t : List UInt8} {rs : Runs} {l : LT} (h : lab t rs = l) {i : Nat} {c : UInt8} {o : Int} (hi : l[i]? = some (c, o)) (ht : t.length ≤ 1000000000) (hrs : rs.length ≤ 1000000000) :
    VFn Try.prog 68 [rawV t rs, .int .i64 i] (.int .i64 o) := by
  refine VFn.intro ok68 (Nat.le_of_ble_eq_true rfl) (vk_start ?_)
  have hil : i < t.length := by have := getElem?_lt hi; rw [← h, lab_length] at this; exact this
  have c1 : ((i : Int) < 0) = False := by simp
  have c2 : ((t.length : Int) ≤ (i : Int)) = False := by simp; omega
  simp only [vc68, rs68, rawV, wrap64, EV0, e_condB, Nat.reduceBEq, reduceIte, Nat.reduceAdd, Nat.reduceLeDiff, Nat.reduceLT, Nat.reduceSub, Nat.reduceMul, reduceCtorEq, Int.reduceNeg, Int.reduceSub, Int.reduceAdd, Int.reduceLE, Int.reduceLT, Int.reduceMul, Int.reduceToNat, Int.reduceEq, Int.reduceBEq, Int.reduceBNe, Nat.reduceEqDiff, c1, c2]
  refine vk_call rfl (CallR.call ⟨[rawV t rs], .inl rfl, fix t rs ht hrs⟩) ?_
  simp only [wrap64, EV0, e_condB, Nat.reduceBEq, reduceIte, Nat.reduceAdd, Nat.reduceLeDiff, Nat.reduceLT, Nat.reduceSub, Nat.reduceMul, reduceCtorEq, Int.reduceNeg, Int.reduceSub, Int.reduceAdd, Int.reduceLE, Int.reduceLT, Int.reduceMul, Int.reduceToNat, Int.reduceEq, Int.reduceBEq, Int.reduceBNe, Nat.reduceEqDiff, rawV, rowsOf_length]
  obtain ⟨hmem, hexp, hrll, hxl⟩ := runs_facts (orig_length t.length rs)
  have hO : (orig t.length rs)[i]? = some o := by rw [← lab_snd, h, List.getElem?_map, hi]; rfl
  generalize orig t.length rs = O at *
  generalize hF : rle O = F at *
  refine vk_loopR (γ := Nat) (fun j => { tm := [(1, .int .i64 ((i : Int) - (expand (F.take j)).length)), (18, .sl 2 (rowsOf F)), (19, .int .i64 F.length), (20, .int .i64 j)], ob := [], base := 0 }) (fun j => j ≤ F.length ∧ (expand (F.take j)).length ≤ i) (fun j => F.length - j) 0 ⟨Nat.zero_le _, Nat.zero_le _⟩ ?_ ?_
  · exact ⟨[], rfl, rfl, rfl, rfl, ⟨.of_eq (by first | rfl | (simp; done) | (simp; omega)) rfl, .same _ rfl, .same _ rfl, .same _ rfl, trivial⟩, trivial⟩
  · rintro j ⟨hj, hji⟩ R hN hE hR
    have d0 : (0 ≤ (j : Int)) = True := by simp
    rcases Nat.lt_or_ge j F.length with hlt | hge
    · have d1 : ((j : Int) < (F.length : Int)) = True := by simp; omega
      obtain ⟨⟨n, o'⟩, hr⟩ : ∃ r, F[j]? = some r := ⟨_, List.getElem?_eq_getElem hlt⟩
      have hrow : (rowsOf F)[j]? = some [.int .i64 n, .int .i64 o'] := by rw [rowsOf_get, hr]; rfl
      have w1 : IntKind.i64.wrap ((j : Int) + 1) = j + 1 := wrap64 (by omega) (by omega)
      have hno := hmem (n, o') (List.mem_of_getElem? hr)
      simp only at hno
      have hxt := expand_take F j hr
      have hx1 := hxl j
      have hx2 := hxl (j + 1)
      by_cases hin : (i : Int) - (expand (F.take j)).length < n
      · simp only [wrap64, EV0, e_condB, Nat.reduceBEq, reduceIte, Nat.reduceAdd, Nat.reduceLeDiff, Nat.reduceLT, Nat.reduceSub, Nat.reduceMul, reduceCtorEq, Int.reduceNeg, Int.reduceSub, Int.reduceAdd, Int.reduceLE, Int.reduceLT, Int.reduceMul, Int.reduceToNat, Int.reduceEq, Int.reduceBEq, Int.reduceBNe, Nat.reduceEqDiff, d0, d1, hrow, hin]
        refine hR _ ?_
        simp only [wrap64, EV0, e_condB, Nat.reduceBEq, reduceIte, Nat.reduceAdd, Nat.reduceLeDiff, Nat.reduceLT, Nat.reduceSub, Nat.reduceMul, reduceCtorEq, Int.reduceNeg, Int.reduceSub, Int.reduceAdd, Int.reduceLE, Int.reduceLT, Int.reduceMul, Int.reduceToNat, Int.reduceEq, Int.reduceBEq, Int.reduceBNe, Nat.reduceEqDiff]
        have hoo : o' = o := by
          have e1 : O = expand (F.take (j + 1)) ++ expand (F.drop (j + 1)) := by rw [← hexp]; simp only [expand]; rw [← List.flatMap_append, List.take_append_drop]
          rw [e1, hxt, List.append_assoc, List.getElem?_append_right hji, List.getElem?_append_left (by simp; omega), List.getElem?_replicate] at hO
          split at hO
          · simpa using hO
          · cases hO
        rw [hoo]
        exact ⟨_, _, rfl, rfl, .refl _⟩
      · have w2 : IntKind.i64.wrap ((i : Int) - (expand (F.take j)).length - n) = (i : Int) - (expand (F.take j)).length - n := wrap64 (by omega) (by omega)
        simp only [wrap64, EV0, e_condB, Nat.reduceBEq, reduceIte, Nat.reduceAdd, Nat.reduceLeDiff, Nat.reduceLT, Nat.reduceSub, Nat.reduceMul, reduceCtorEq, Int.reduceNeg, Int.reduceSub, Int.reduceAdd, Int.reduceLE, Int.reduceLT, Int.reduceMul, Int.reduceToNat, Int.reduceEq, Int.reduceBEq, Int.reduceBNe, Nat.reduceEqDiff, d0, d1, hrow, hin, w1, w2]
        refine hN _ (j + 1) ⟨by omega, ?_⟩ (by omega) ?_
        · rw [hxt, List.length_append, List.length_replicate]; omega
        · have e2 : ((expand (F.take (j + 1))).length : Int) = (expand (F.take j)).length + n := by rw [hxt]; simp; omega
          exact ⟨[], rfl, rfl, rfl, rfl, ⟨(.of_eq (congrArg (V.int .i64) (by omega)) rfl), .same _ rfl, .same _ rfl, .same _ rfl, trivial⟩, trivial⟩
    · exfalso
      have : F.take j = F := List.take_of_length_le hge
      rw [this, hexp] at hji
      have := getElem?_lt hO
      omega

theorem worst_rep (m : Int) (n : Nat) (o : Int) (h : 1 ≤ n) : (List.replicate n o).foldl max m = max m o := by
  induction n generalizing m with
  | zero => omega
  | succ n ih =>
    rw [List.replicate_succ, List.foldl_cons]
    rcases Nat.eq_zero_or_pos n with rfl | hn
    · rfl
    · rw [ih _ hn]; omega

theorem mark_worst {t : List UInt8} {rs : Runs} {l : LT} (h : lab t rs = l) (ht : t.length ≤ 1000000000) (hrs : rs.length ≤ 1000000000) :
    VFn Try.prog 41 [rawV t rs] (.int .i64 (worstO l)) := by
  refine VFn.intro ok41 (Nat.le_of_ble_eq_true rfl) (vk_start ?_)
  simp only [vc41, rs41, rawV, wrap64, EV0, e_condB, Nat.reduceBEq, reduceIte, Nat.reduceAdd, Nat.reduceLeDiff, Nat.reduceLT, Nat.reduceSub, Nat.reduceMul, reduceCtorEq, Int.reduceNeg, Int.reduceSub, Int.reduceAdd, Int.reduceLE, Int.reduceLT, Int.reduceMul, Int.reduceToNat, Int.reduceEq, Int.reduceBEq, Int.reduceBNe, Nat.reduceEqDiff]
  refine vk_call rfl (CallR.call ⟨[rawV t rs], .inl rfl, fix t rs ht hrs⟩) ?_
  simp only [wrap64, EV0, e_condB, Nat.reduceBEq, reduceIte, Nat.reduceAdd, Nat.reduceLeDiff, Nat.reduceLT, Nat.reduceSub, Nat.reduceMul, reduceCtorEq, Int.reduceNeg, Int.reduceSub, Int.reduceAdd, Int.reduceLE, Int.reduceLT, Int.reduceMul, Int.reduceToNat, Int.reduceEq, Int.reduceBEq, Int.reduceBNe, Nat.reduceEqDiff, rawV, rowsOf_length]
  obtain ⟨hmem, hexp, hrll, hxl⟩ := runs_facts (orig_length t.length rs)
  have hw : worstO l = (orig t.length rs).foldl max 0 := by
    rw [← lab_snd, h, List.foldl_map]; rfl
  rw [hw]
  generalize orig t.length rs = O at *
  generalize hF : rle O = F at *
  refine vk_loopR (γ := Nat) (fun j => { tm := [(3, .int .i64 ((expand (F.take j)).foldl max 0)), (8, .sl 2 (rowsOf F)), (9, .int .i64 F.length), (10, .int .i64 j)], ob := [], base := 0 }) (fun j => j ≤ F.length) (fun j => F.length - j) 0 (Nat.zero_le _) ?_ ?_
  · exact ⟨[], rfl, rfl, rfl, rfl, ⟨.same _ rfl, .same _ rfl, .same _ rfl, .same _ rfl, trivial⟩, trivial⟩
  · intro j hj R hN hE hR
    have d0 : (0 ≤ (j : Int)) = True := by simp
    rcases Nat.lt_or_ge j F.length with hlt | hge
    · have d1 : ((j : Int) < (F.length : Int)) = True := by simp; omega
      obtain ⟨⟨n, o'⟩, hr⟩ : ∃ r, F[j]? = some r := ⟨_, List.getElem?_eq_getElem hlt⟩
      have hrow : (rowsOf F)[j]? = some [.int .i64 n, .int .i64 o'] := by rw [rowsOf_get, hr]; rfl
      have w1 : IntKind.i64.wrap ((j : Int) + 1) = j + 1 := wrap64 (by omega) (by omega)
      have hno := hmem (n, o') (List.mem_of_getElem? hr)
      simp only at hno
      have hxt := congrArg (List.foldl max 0) (expand_take F j hr)
      rw [List.foldl_append, worst_rep _ _ _ (by omega)] at hxt
      generalize (expand (F.take j)).foldl max 0 = m at *
      have k1 : (if m < o' then o' else m) = max m o' := by split <;> omega
      simp only [wrap64, EV0, e_condB, Nat.reduceBEq, reduceIte, Nat.reduceAdd, Nat.reduceLeDiff, Nat.reduceLT, Nat.reduceSub, Nat.reduceMul, reduceCtorEq, Int.reduceNeg, Int.reduceSub, Int.reduceAdd, Int.reduceLE, Int.reduceLT, Int.reduceMul, Int.reduceToNat, Int.reduceEq, Int.reduceBEq, Int.reduceBNe, Nat.reduceEqDiff, d0, d1, hrow, k1, w1]
      refine hN _ (j + 1) (by omega) (by omega) ?_
      rw [hxt]
      exact ⟨[], rfl, rfl, rfl, rfl, ⟨.same _ rfl, .same _ rfl, .same _ rfl, .same _ rfl, trivial⟩, trivial⟩
    · have d1 : ((j : Int) < (F.length : Int)) = False := by simp; omega
      have htk : F.take j = F := List.take_of_length_le hge
      simp only [wrap64, EV0, e_condB, Nat.reduceBEq, reduceIte, Nat.reduceAdd, Nat.reduceLeDiff, Nat.reduceLT, Nat.reduceSub, Nat.reduceMul, reduceCtorEq, Int.reduceNeg, Int.reduceSub, Int.reduceAdd, Int.reduceLE, Int.reduceLT, Int.reduceMul, Int.reduceToNat, Int.reduceEq, Int.reduceBEq, Int.reduceBNe, Nat.reduceEqDiff, d0, d1]
      refine hE _ _ ?_
      simp only [wrap64, EV0, e_condB, Nat.reduceBEq, reduceIte, Nat.reduceAdd, Nat.reduceLeDiff, Nat.reduceLT, Nat.reduceSub, Nat.reduceMul, reduceCtorEq, Int.reduceNeg, Int.reduceSub, Int.reduceAdd, Int.reduceLE, Int.reduceLT, Int.reduceMul, Int.reduceToNat, Int.reduceEq, Int.reduceBEq, Int.reduceBNe, Nat.reduceEqDiff, htk, hexp]
      exact ⟨_, _, rfl, rfl, .refl _⟩

theorem ref_all (t : List UInt8) (o : Int) (ht : t.length ≤ 1000000000) : VFn Try.prog 42 [.str t, .int .i64 o] (.sl 2 (cRows (t.map fun c => (c, nearI o)))) := by
  refine VFn.intro ok42 (Nat.le_of_ble_eq_true rfl) (vk_start ?_)
  simp only [vc42, rs42, wrap64, EV0, e_condB, Nat.reduceBEq, reduceIte, Nat.reduceAdd, Nat.reduceLeDiff, Nat.reduceLT, Nat.reduceSub, Nat.reduceMul, reduceCtorEq, Int.reduceNeg, Int.reduceSub, Int.reduceAdd, Int.reduceLE, Int.reduceLT, Int.reduceMul, Int.reduceToNat, Int.reduceEq, Int.reduceBEq, Int.reduceBNe, Nat.reduceEqDiff]
  refine vk_loopR (γ := Nat) (fun i => { tm := [(0, .str t), (1, .int .i64 o), (5, .ref 0 ((t.take i).map fun c => (c, nearI o)).length), (6, .int .i64 i)], ob := [some (.arr 48 2 (cRows ((t.take i).map fun c => (c, nearI o))))], base := 0 }) (fun i => i ≤ t.length) (fun i => t.length - i) 0 (Nat.zero_le _) ?_ ?_
  · exact ⟨[none], rfl, rfl, rfl, rfl, ⟨.same _ rfl, .same _ rfl, .nref rfl, .same _ rfl, trivial⟩, ⟨⟨_, _, rfl⟩, trivial⟩⟩
  · intro i hi R hN hE hR
    have c0 : (0 ≤ (i : Int)) = True := by simp
    rcases Nat.lt_or_ge i t.length with hlt | hge
    · have c1 : ((i : Int) < (t.length : Int)) = True := by simp; omega
      obtain ⟨c, hr⟩ : ∃ r, t[i]? = some r := ⟨_, List.getElem?_eq_getElem hlt⟩
      have w1 : IntKind.i64.wrap ((i : Int) + 1) = i + 1 := wrap64 (by omega) (by omega)
      have htk : (t.take (i + 1)).map (fun c => (c, nearI o)) = (t.take i).map (fun c => (c, nearI o)) ++ [(c, nearI o)] := by rw [List.take_add_one, hr]; simp
      have hX : ((t.take i).map (fun c => (c, nearI o))).length ≤ t.length := by simp; omega
      generalize (t.take i).map (fun c => (c, nearI o)) = X at *
      have d1 : X.length + 1 ≤ 140737488355328 := by omega
      have d2 : (X.length + 1) * 16 ≤ 140737488355328 := by omega
      simp only [wrap64, EV0, e_condB, Nat.reduceBEq, reduceIte, Nat.reduceAdd, Nat.reduceLeDiff, Nat.reduceLT, Nat.reduceSub, Nat.reduceMul, reduceCtorEq, Int.reduceNeg, Int.reduceSub, Int.reduceAdd, Int.reduceLE, Int.reduceLT, Int.reduceMul, Int.reduceToNat, Int.reduceEq, Int.reduceBEq, Int.reduceBNe, Nat.reduceEqDiff, c0, c1, hr]
      refine vk_callR rfl ⟨[.int .i64 o], .inl rfl, fn73 o⟩ ?_
      simp only [wrap64, EV0, e_condB, Nat.reduceBEq, reduceIte, Nat.reduceAdd, Nat.reduceLeDiff, Nat.reduceLT, Nat.reduceSub, Nat.reduceMul, reduceCtorEq, Int.reduceNeg, Int.reduceSub, Int.reduceAdd, Int.reduceLE, Int.reduceLT, Int.reduceMul, Int.reduceToNat, Int.reduceEq, Int.reduceBEq, Int.reduceBNe, Nat.reduceEqDiff, cRows_length, cRows_take, d1, d2, w1]
      refine hN _ (i + 1) (by omega) (by omega) ?_
      rw [htk, ← cRows_append, List.length_append]
      exact ⟨[some 1], rfl, rfl, rfl, rfl, ⟨.same _ rfl, .same _ rfl, .ref rfl, .same _ rfl, trivial⟩, ⟨⟨_, rfl, .arr (.refl _)⟩, trivial⟩⟩
    · have c1 : ((i : Int) < (t.length : Int)) = False := by simp; omega
      have htk : t.take i = t := List.take_of_length_le hge
      simp only [wrap64, EV0, e_condB, Nat.reduceBEq, reduceIte, Nat.reduceAdd, Nat.reduceLeDiff, Nat.reduceLT, Nat.reduceSub, Nat.reduceMul, reduceCtorEq, Int.reduceNeg, Int.reduceSub, Int.reduceAdd, Int.reduceLE, Int.reduceLT, Int.reduceMul, Int.reduceToNat, Int.reduceEq, Int.reduceBEq, Int.reduceBNe, Nat.reduceEqDiff, c0, c1]
      refine hE _ _ ?_
      simp only [wrap64, EV0, e_condB, Nat.reduceBEq, reduceIte, Nat.reduceAdd, Nat.reduceLeDiff, Nat.reduceLT, Nat.reduceSub, Nat.reduceMul, reduceCtorEq, Int.reduceNeg, Int.reduceSub, Int.reduceAdd, Int.reduceLE, Int.reduceLT, Int.reduceMul, Int.reduceToNat, Int.reduceEq, Int.reduceBEq, Int.reduceBNe, Nat.reduceEqDiff, htk]
      exact ⟨_, _, rfl, lend_rows rfl (by simp [cRows_length]), .refl _⟩
end Go.Proofs.VL

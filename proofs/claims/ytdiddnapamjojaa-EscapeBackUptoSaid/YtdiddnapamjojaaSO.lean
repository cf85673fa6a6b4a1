/- Contracts of functions of the program, for what calls them, and the law that its name tells. -/
import Derived.Test.YtdiddnapamjojaaSN
namespace Go.Proofs.VL
open Go Go.RowKit
set_option maxRecDepth 100000
set_option maxHeartbeats 2000000
set_option linter.unusedSimpArgs false
set_option linter.unusedVariables false

def wk (b : Bool) : Nat := cond b 5 4

theorem escB_other {b : Bool} {c : UInt8} (h1 : c ≠ 38) (h2 : c ≠ 60) (h3 : c ≠ 62) (h4 : c ≠ 13) (h5 : b = true → c ≠ 34) : escB (wk b) c = [c] := by
  cases b with
  | true =>
    have h5 := h5 rfl
    simp [escB, wk, changes, h1, h2, h3, h4, h5, Ne.symm h1, Ne.symm h2, Ne.symm h3, Ne.symm h4, Ne.symm h5]
  | false => simp [escB, wk, changes, h1, h2, h3, h4, Ne.symm h1, Ne.symm h2, Ne.symm h3, Ne.symm h4]

theorem byte_ne {c d : UInt8} {n : Nat} (hd : d.toNat = n) (h : c ≠ d) : ((c.toNat : Int) == (n : Int)) = false := by
  simp only [beq_eq_false_iff_ne]; intro e; exact h (UInt8.toNat_inj.1 (by omega))

theorem escL_snoc (k : Nat) (l : LT) (i : Nat) {c : UInt8} {o : Int} (h : l[i]? = some (c, o)) : escL k (l.take (i + 1)) = escL k (l.take i) ++ (escB k c).map fun b => (b, o) := by
  rw [List.take_add_one, h, escL_append]
  simp [escL]

theorem ref_words (l : LT) (v : Bool) (hn : Near l) (hl : l.length ≤ 10000000) : VFn Try.prog 43 [.sl 2 (cRows l), .bool v] (.sl 2 (cRows (escL (wk v) l))) := by
  refine VFn.intro ok43 (Nat.le_of_ble_eq_true rfl) (vk_start ?_)
  simp only [vc43, rs43, wrap64, EV0, e_condB, Nat.reduceBEq, reduceIte, Nat.reduceAdd, Nat.reduceLeDiff, Nat.reduceLT, Nat.reduceSub, Nat.reduceMul, reduceCtorEq, Int.reduceNeg, Int.reduceSub, Int.reduceAdd, Int.reduceLE, Int.reduceLT, Int.reduceMul, Int.reduceToNat, Int.reduceEq, Int.reduceBEq, Int.reduceBNe, Nat.reduceEqDiff]
  refine vk_loopR (γ := Nat) (fun i => { tm := [(0, .sl 2 (cRows l)), (1, .bool v), (5, .ref 0 (escL (wk v) (l.take i)).length), (6, .int .i64 i)], ob := [some (.arr 48 2 (cRows (escL (wk v) (l.take i))))], base := 0 })
    (fun i => i ≤ l.length) (fun i => l.length - i) 0 (Nat.zero_le _) ?_ ?_
  · exact ⟨[none], rfl, rfl, rfl, rfl, ⟨.same _ rfl, .same _ rfl, .nref rfl, .same _ rfl, trivial⟩, ⟨⟨_, _, rfl⟩, trivial⟩⟩
  · rintro i hi R hN hE hR
    have c0 : (0 ≤ (i : Int)) = True := by simp
    have hll := escL_len (wk v) (l.take i)
    have htl : (l.take i).length ≤ l.length := by simp; omega
    have c9 : ((escL (wk v) (l.take i)).length ≤ (cRows (escL (wk v) (l.take i))).length) = True := by rw [cRows_length]; simp
    rcases Nat.lt_or_ge i l.length with hlt | hge
    · have c1 : ((i : Int) < (l.length : Int)) = True := by simp; omega
      obtain ⟨⟨c, o⟩, hr⟩ : ∃ r, l[i]? = some r := ⟨_, List.getElem?_eq_getElem hlt⟩
      have hrow : (cRows l)[i]? = some [.int .u8 c.toNat, .int .i64 o] := by rw [cRows_get, hr]; rfl
      have w1 : IntKind.i64.wrap ((i : Int) + 1) = i + 1 := wrap64 (by omega) (by omega)
      have ho : nearI o = o := hn (c, o) (List.mem_of_getElem? hr)
      have hst := escL_snoc (wk v) l i hr
      generalize hA : escL (wk v) (l.take i) = A at *
      by_cases h38 : c = 38
      · subst h38
        have hw : escB (wk v) 38 = [38, 97, 109, 112, 59] := by cases v <;> decide
        have k0 : (((38 : UInt8).toNat : Int) == 38) = true := rfl
        simp only [wrap64, EV0, e_condB, Nat.reduceBEq, reduceIte, Nat.reduceAdd, Nat.reduceLeDiff, Nat.reduceLT, Nat.reduceSub, Nat.reduceMul, reduceCtorEq, Int.reduceNeg, Int.reduceSub, Int.reduceAdd, Int.reduceLE, Int.reduceLT, Int.reduceMul, Int.reduceToNat, Int.reduceEq, Int.reduceBEq, Int.reduceBNe, Nat.reduceEqDiff, c0, c1, hrow, cRows_length, k0]
        refine vk_call rfl (CallR.call ⟨[.str [38, 97, 109, 112, 59], .int .i64 o], .inl rfl, ref_all [38, 97, 109, 112, 59] o (by decide)⟩) ?_
        have e9 : cRows A ++ cRows ([38, 97, 109, 112, 59].map fun b => (b, o)) = cRows (escL (wk v) (l.take (i + 1))) := by rw [hst, hw]; exact cRows_append _ _
        have e8 : A.length + 5 = (escL (wk v) (l.take (i + 1))).length := by rw [hst, hw, List.length_append]; rfl
        simp only [List.map_cons, List.map_nil] at e9
        simp only [ho, wrap64, EV0, e_condB, Nat.reduceBEq, reduceIte, Nat.reduceAdd, Nat.reduceLeDiff, Nat.reduceLT, Nat.reduceSub, Nat.reduceMul, reduceCtorEq, Int.reduceNeg, Int.reduceSub, Int.reduceAdd, Int.reduceLE, Int.reduceLT, Int.reduceMul, Int.reduceToNat, Int.reduceEq, Int.reduceBEq, Int.reduceBNe, Nat.reduceEqDiff, c9, cRows_take, cRows_length, w1]
        refine ⟨⟨by omega, by omega⟩, ?_⟩
        rw [e9, e8]
        refine hN _ (i + 1) hlt (by omega) ?_
        exact ⟨[some 1], rfl, rfl, rfl, rfl, ⟨.same _ rfl, .same _ rfl, .ref rfl, .same _ rfl, trivial⟩, ⟨⟨_, rfl, .arr (.refl _)⟩, trivial⟩⟩
      by_cases h60 : c = 60
      · subst h60
        have hw : escB (wk v) 60 = [38, 108, 116, 59] := by cases v <;> decide
        have k0 : (((60 : UInt8).toNat : Int) == 38) = false := rfl
        have k1 : (((60 : UInt8).toNat : Int) == 60) = true := rfl
        simp only [wrap64, EV0, e_condB, Nat.reduceBEq, reduceIte, Nat.reduceAdd, Nat.reduceLeDiff, Nat.reduceLT, Nat.reduceSub, Nat.reduceMul, reduceCtorEq, Int.reduceNeg, Int.reduceSub, Int.reduceAdd, Int.reduceLE, Int.reduceLT, Int.reduceMul, Int.reduceToNat, Int.reduceEq, Int.reduceBEq, Int.reduceBNe, Nat.reduceEqDiff, c0, c1, hrow, cRows_length, k0, k1]
        refine vk_call rfl (CallR.call ⟨[.str [38, 108, 116, 59], .int .i64 o], .inl rfl, ref_all [38, 108, 116, 59] o (by decide)⟩) ?_
        have e9 : cRows A ++ cRows ([38, 108, 116, 59].map fun b => (b, o)) = cRows (escL (wk v) (l.take (i + 1))) := by rw [hst, hw]; exact cRows_append _ _
        have e8 : A.length + 4 = (escL (wk v) (l.take (i + 1))).length := by rw [hst, hw, List.length_append]; rfl
        simp only [List.map_cons, List.map_nil] at e9
        simp only [ho, wrap64, EV0, e_condB, Nat.reduceBEq, reduceIte, Nat.reduceAdd, Nat.reduceLeDiff, Nat.reduceLT, Nat.reduceSub, Nat.reduceMul, reduceCtorEq, Int.reduceNeg, Int.reduceSub, Int.reduceAdd, Int.reduceLE, Int.reduceLT, Int.reduceMul, Int.reduceToNat, Int.reduceEq, Int.reduceBEq, Int.reduceBNe, Nat.reduceEqDiff, c9, cRows_take, cRows_length, w1]
        refine ⟨⟨by omega, by omega⟩, ?_⟩
        rw [e9, e8]
        refine hN _ (i + 1) hlt (by omega) ?_
        exact ⟨[some 1], rfl, rfl, rfl, rfl, ⟨.same _ rfl, .same _ rfl, .ref rfl, .same _ rfl, trivial⟩, ⟨⟨_, rfl, .arr (.refl _)⟩, trivial⟩⟩
      by_cases h62 : c = 62
      · subst h62
        have hw : escB (wk v) 62 = [38, 103, 116, 59] := by cases v <;> decide
        have k0 : (((62 : UInt8).toNat : Int) == 38) = false := rfl
        have k1 : (((62 : UInt8).toNat : Int) == 60) = false := rfl
        have k2 : (((62 : UInt8).toNat : Int) == 62) = true := rfl
        simp only [wrap64, EV0, e_condB, Nat.reduceBEq, reduceIte, Nat.reduceAdd, Nat.reduceLeDiff, Nat.reduceLT, Nat.reduceSub, Nat.reduceMul, reduceCtorEq, Int.reduceNeg, Int.reduceSub, Int.reduceAdd, Int.reduceLE, Int.reduceLT, Int.reduceMul, Int.reduceToNat, Int.reduceEq, Int.reduceBEq, Int.reduceBNe, Nat.reduceEqDiff, c0, c1, hrow, cRows_length, k0, k1, k2]
        refine vk_call rfl (CallR.call ⟨[.str [38, 103, 116, 59], .int .i64 o], .inl rfl, ref_all [38, 103, 116, 59] o (by decide)⟩) ?_
        have e9 : cRows A ++ cRows ([38, 103, 116, 59].map fun b => (b, o)) = cRows (escL (wk v) (l.take (i + 1))) := by rw [hst, hw]; exact cRows_append _ _
        have e8 : A.length + 4 = (escL (wk v) (l.take (i + 1))).length := by rw [hst, hw, List.length_append]; rfl
        simp only [List.map_cons, List.map_nil] at e9
        simp only [ho, wrap64, EV0, e_condB, Nat.reduceBEq, reduceIte, Nat.reduceAdd, Nat.reduceLeDiff, Nat.reduceLT, Nat.reduceSub, Nat.reduceMul, reduceCtorEq, Int.reduceNeg, Int.reduceSub, Int.reduceAdd, Int.reduceLE, Int.reduceLT, Int.reduceMul, Int.reduceToNat, Int.reduceEq, Int.reduceBEq, Int.reduceBNe, Nat.reduceEqDiff, c9, cRows_take, cRows_length, w1]
        refine ⟨⟨by omega, by omega⟩, ?_⟩
        rw [e9, e8]
        refine hN _ (i + 1) hlt (by omega) ?_
        exact ⟨[some 1], rfl, rfl, rfl, rfl, ⟨.same _ rfl, .same _ rfl, .ref rfl, .same _ rfl, trivial⟩, ⟨⟨_, rfl, .arr (.refl _)⟩, trivial⟩⟩
      by_cases h13 : c = 13
      · subst h13
        have hw : escB (wk v) 13 = [38, 35, 49, 51, 59] := by cases v <;> decide
        have k0 : (((13 : UInt8).toNat : Int) == 38) = false := rfl
        have k1 : (((13 : UInt8).toNat : Int) == 60) = false := rfl
        have k2 : (((13 : UInt8).toNat : Int) == 62) = false := rfl
        have k3 : (((13 : UInt8).toNat : Int) == 13) = true := rfl
        simp only [wrap64, EV0, e_condB, Nat.reduceBEq, reduceIte, Nat.reduceAdd, Nat.reduceLeDiff, Nat.reduceLT, Nat.reduceSub, Nat.reduceMul, reduceCtorEq, Int.reduceNeg, Int.reduceSub, Int.reduceAdd, Int.reduceLE, Int.reduceLT, Int.reduceMul, Int.reduceToNat, Int.reduceEq, Int.reduceBEq, Int.reduceBNe, Nat.reduceEqDiff, c0, c1, hrow, cRows_length, k0, k1, k2, k3]
        refine vk_call rfl (CallR.call ⟨[.str [38, 35, 49, 51, 59], .int .i64 o], .inl rfl, ref_all [38, 35, 49, 51, 59] o (by decide)⟩) ?_
        have e9 : cRows A ++ cRows ([38, 35, 49, 51, 59].map fun b => (b, o)) = cRows (escL (wk v) (l.take (i + 1))) := by rw [hst, hw]; exact cRows_append _ _
        have e8 : A.length + 5 = (escL (wk v) (l.take (i + 1))).length := by rw [hst, hw, List.length_append]; rfl
        simp only [List.map_cons, List.map_nil] at e9
        simp only [ho, wrap64, EV0, e_condB, Nat.reduceBEq, reduceIte, Nat.reduceAdd, Nat.reduceLeDiff, Nat.reduceLT, Nat.reduceSub, Nat.reduceMul, reduceCtorEq, Int.reduceNeg, Int.reduceSub, Int.reduceAdd, Int.reduceLE, Int.reduceLT, Int.reduceMul, Int.reduceToNat, Int.reduceEq, Int.reduceBEq, Int.reduceBNe, Nat.reduceEqDiff, c9, cRows_take, cRows_length, w1]
        refine ⟨⟨by omega, by omega⟩, ?_⟩
        rw [e9, e8]
        refine hN _ (i + 1) hlt (by omega) ?_
        exact ⟨[some 1], rfl, rfl, rfl, rfl, ⟨.same _ rfl, .same _ rfl, .ref rfl, .same _ rfl, trivial⟩, ⟨⟨_, rfl, .arr (.refl _)⟩, trivial⟩⟩
      by_cases h34 : c = 34 ∧ v = true
      · obtain ⟨h34, hv⟩ := h34
        subst h34; subst hv
        have hw : escB (wk true) 34 = [38, 113, 117, 111, 116, 59] := by decide
        have k0 : (((34 : UInt8).toNat : Int) == 38) = false := rfl
        have k1 : (((34 : UInt8).toNat : Int) == 60) = false := rfl
        have k2 : (((34 : UInt8).toNat : Int) == 62) = false := rfl
        have k3 : (((34 : UInt8).toNat : Int) == 13) = false := rfl
        have k4 : (((34 : UInt8).toNat : Int) == 34) = true := rfl
        simp only [wrap64, EV0, e_condB, Nat.reduceBEq, reduceIte, Nat.reduceAdd, Nat.reduceLeDiff, Nat.reduceLT, Nat.reduceSub, Nat.reduceMul, reduceCtorEq, Int.reduceNeg, Int.reduceSub, Int.reduceAdd, Int.reduceLE, Int.reduceLT, Int.reduceMul, Int.reduceToNat, Int.reduceEq, Int.reduceBEq, Int.reduceBNe, Nat.reduceEqDiff, c0, c1, hrow, cRows_length, k0, k1, k2, k3, k4]
        refine vk_call rfl (CallR.call ⟨[.str [38, 113, 117, 111, 116, 59], .int .i64 o], .inl rfl, ref_all [38, 113, 117, 111, 116, 59] o (by decide)⟩) ?_
        have e9 : cRows A ++ cRows ([38, 113, 117, 111, 116, 59].map fun b => (b, o)) = cRows (escL (wk true) (l.take (i + 1))) := by rw [hst, hw]; exact cRows_append _ _
        have e8 : A.length + 6 = (escL (wk true) (l.take (i + 1))).length := by rw [hst, hw, List.length_append]; rfl
        simp only [List.map_cons, List.map_nil] at e9
        simp only [ho, wrap64, EV0, e_condB, Nat.reduceBEq, reduceIte, Nat.reduceAdd, Nat.reduceLeDiff, Nat.reduceLT, Nat.reduceSub, Nat.reduceMul, reduceCtorEq, Int.reduceNeg, Int.reduceSub, Int.reduceAdd, Int.reduceLE, Int.reduceLT, Int.reduceMul, Int.reduceToNat, Int.reduceEq, Int.reduceBEq, Int.reduceBNe, Nat.reduceEqDiff, c9, cRows_take, cRows_length, w1]
        refine ⟨⟨by omega, by omega⟩, ?_⟩
        rw [e9, e8]
        refine hN _ (i + 1) hlt (by omega) ?_
        exact ⟨[some 1], rfl, rfl, rfl, rfl, ⟨.same _ rfl, .same _ rfl, .ref rfl, .same _ rfl, trivial⟩, ⟨⟨_, rfl, .arr (.refl _)⟩, trivial⟩⟩
      have hw : escB (wk v) c = [c] := escB_other h38 h60 h62 h13 (fun hv hc => h34 ⟨hc, hv⟩)
      have k0 : ((c.toNat : Int) == 38) = false := byte_ne (d := 38) rfl h38
      have k1 : ((c.toNat : Int) == 60) = false := byte_ne (d := 60) rfl h60
      have k2 : ((c.toNat : Int) == 62) = false := byte_ne (d := 62) rfl h62
      have k3 : ((c.toNat : Int) == 13) = false := byte_ne (d := 13) rfl h13
      have hcb : rowsBytes [[V.int IntKind.u8 c.toNat]] = some [c] := rowsBytes_bRows [c]
      cases v with
      | true =>
        have k4 : ((c.toNat : Int) == 34) = false := byte_ne (d := 34) rfl (fun hc => h34 ⟨hc, rfl⟩)
        simp only [wrap64, EV0, e_condB, Nat.reduceBEq, reduceIte, Nat.reduceAdd, Nat.reduceLeDiff, Nat.reduceLT, Nat.reduceSub, Nat.reduceMul, reduceCtorEq, Int.reduceNeg, Int.reduceSub, Int.reduceAdd, Int.reduceLE, Int.reduceLT, Int.reduceMul, Int.reduceToNat, Int.reduceEq, Int.reduceBEq, Int.reduceBNe, Nat.reduceEqDiff, c0, c1, hrow, cRows_length, k0, k1, k2, k3, k4, hcb]
        refine vk_call rfl (CallR.call ⟨[.str [c], .int .i64 o], .inl rfl, ref_all [c] o (by simp)⟩) ?_
        have e9 : cRows A ++ cRows ([c].map fun b => (b, o)) = cRows (escL (wk true) (l.take (i + 1))) := by rw [hst, hw]; exact cRows_append _ _
        have e8 : A.length + 1 = (escL (wk true) (l.take (i + 1))).length := by rw [hst, hw, List.length_append]; rfl
        simp only [List.map_cons, List.map_nil] at e9
        simp only [ho, wrap64, EV0, e_condB, Nat.reduceBEq, reduceIte, Nat.reduceAdd, Nat.reduceLeDiff, Nat.reduceLT, Nat.reduceSub, Nat.reduceMul, reduceCtorEq, Int.reduceNeg, Int.reduceSub, Int.reduceAdd, Int.reduceLE, Int.reduceLT, Int.reduceMul, Int.reduceToNat, Int.reduceEq, Int.reduceBEq, Int.reduceBNe, Nat.reduceEqDiff, c9, cRows_take, cRows_length, w1]
        refine ⟨⟨by omega, by omega⟩, ?_⟩
        rw [e9, e8]
        refine hN _ (i + 1) hlt (by omega) ?_
        exact ⟨[some 1], rfl, rfl, rfl, rfl, ⟨.same _ rfl, .same _ rfl, .ref rfl, .same _ rfl, trivial⟩, ⟨⟨_, rfl, .arr (.refl _)⟩, trivial⟩⟩
      | false =>
        by_cases h34b : c = 34
        · subst h34b
          have k4 : (((34 : UInt8).toNat : Int) == 34) = true := rfl
          simp only [wrap64, EV0, e_condB, Nat.reduceBEq, reduceIte, Nat.reduceAdd, Nat.reduceLeDiff, Nat.reduceLT, Nat.reduceSub, Nat.reduceMul, reduceCtorEq, Int.reduceNeg, Int.reduceSub, Int.reduceAdd, Int.reduceLE, Int.reduceLT, Int.reduceMul, Int.reduceToNat, Int.reduceEq, Int.reduceBEq, Int.reduceBNe, Nat.reduceEqDiff, c0, c1, hrow, cRows_length, k0, k1, k2, k3, k4, hcb]
          refine vk_call rfl (CallR.call ⟨[.str [34], .int .i64 o], .inl rfl, ref_all [34] o (by simp)⟩) ?_
          have e9 : cRows A ++ cRows ([34].map fun b => (b, o)) = cRows (escL (wk false) (l.take (i + 1))) := by rw [hst, hw]; exact cRows_append _ _
          have e8 : A.length + 1 = (escL (wk false) (l.take (i + 1))).length := by rw [hst, hw, List.length_append]; rfl
          simp only [List.map_cons, List.map_nil] at e9
          simp only [ho, wrap64, EV0, e_condB, Nat.reduceBEq, reduceIte, Nat.reduceAdd, Nat.reduceLeDiff, Nat.reduceLT, Nat.reduceSub, Nat.reduceMul, reduceCtorEq, Int.reduceNeg, Int.reduceSub, Int.reduceAdd, Int.reduceLE, Int.reduceLT, Int.reduceMul, Int.reduceToNat, Int.reduceEq, Int.reduceBEq, Int.reduceBNe, Nat.reduceEqDiff, c9, cRows_take, cRows_length, w1]
          refine ⟨⟨by omega, by omega⟩, ?_⟩
          rw [e9, e8]
          refine hN _ (i + 1) hlt (by omega) ?_
          exact ⟨[some 1], rfl, rfl, rfl, rfl, ⟨.same _ rfl, .same _ rfl, .ref rfl, .same _ rfl, trivial⟩, ⟨⟨_, rfl, .arr (.refl _)⟩, trivial⟩⟩
        · have k4 : ((c.toNat : Int) == 34) = false := byte_ne (d := 34) rfl h34b
          simp only [wrap64, EV0, e_condB, Nat.reduceBEq, reduceIte, Nat.reduceAdd, Nat.reduceLeDiff, Nat.reduceLT, Nat.reduceSub, Nat.reduceMul, reduceCtorEq, Int.reduceNeg, Int.reduceSub, Int.reduceAdd, Int.reduceLE, Int.reduceLT, Int.reduceMul, Int.reduceToNat, Int.reduceEq, Int.reduceBEq, Int.reduceBNe, Nat.reduceEqDiff, c0, c1, hrow, cRows_length, k0, k1, k2, k3, k4, hcb]
          refine vk_call rfl (CallR.call ⟨[.str [c], .int .i64 o], .inl rfl, ref_all [c] o (by simp)⟩) ?_
          have e9 : cRows A ++ cRows ([c].map fun b => (b, o)) = cRows (escL (wk false) (l.take (i + 1))) := by rw [hst, hw]; exact cRows_append _ _
          have e8 : A.length + 1 = (escL (wk false) (l.take (i + 1))).length := by rw [hst, hw, List.length_append]; rfl
          simp only [List.map_cons, List.map_nil] at e9
          simp only [ho, wrap64, EV0, e_condB, Nat.reduceBEq, reduceIte, Nat.reduceAdd, Nat.reduceLeDiff, Nat.reduceLT, Nat.reduceSub, Nat.reduceMul, reduceCtorEq, Int.reduceNeg, Int.reduceSub, Int.reduceAdd, Int.reduceLE, Int.reduceLT, Int.reduceMul, Int.reduceToNat, Int.reduceEq, Int.reduceBEq, Int.reduceBNe, Nat.reduceEqDiff, c9, cRows_take, cRows_length, w1]
          refine ⟨⟨by omega, by omega⟩, ?_⟩
          rw [e9, e8]
          refine hN _ (i + 1) hlt (by omega) ?_
          exact ⟨[some 1], rfl, rfl, rfl, rfl, ⟨.same _ rfl, .same _ rfl, .ref rfl, .same _ rfl, trivial⟩, ⟨⟨_, rfl, .arr (.refl _)⟩, trivial⟩⟩
    · have c1 : ((i : Int) < (l.length : Int)) = False := by simp; omega
      have e1 : l.take i = l := List.take_of_length_le hge
      rw [e1]
      simp only [wrap64, EV0, e_condB, Nat.reduceBEq, reduceIte, Nat.reduceAdd, Nat.reduceLeDiff, Nat.reduceLT, Nat.reduceSub, Nat.reduceMul, reduceCtorEq, Int.reduceNeg, Int.reduceSub, Int.reduceAdd, Int.reduceLE, Int.reduceLT, Int.reduceMul, Int.reduceToNat, Int.reduceEq, Int.reduceBEq, Int.reduceBNe, Nat.reduceEqDiff, c0, c1, cRows_length]
      refine hE _ _ ?_
      simp only [wrap64, EV0, e_condB, Nat.reduceBEq, reduceIte, Nat.reduceAdd, Nat.reduceLeDiff, Nat.reduceLT, Nat.reduceSub, Nat.reduceMul, reduceCtorEq, Int.reduceNeg, Int.reduceSub, Int.reduceAdd, Int.reduceLE, Int.reduceLT, Int.reduceMul, Int.reduceToNat, Int.reduceEq, Int.reduceBEq, Int.reduceBNe, Nat.reduceEqDiff]
      exact ⟨_, _, rfl, lend_rows rfl (by rw [cRows_length]), .refl _⟩
end Go.Proofs.VL

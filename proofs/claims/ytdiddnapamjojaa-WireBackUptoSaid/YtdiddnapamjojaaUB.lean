/- Contracts of functions of the program, for what calls them, and the law that its name tells. -/
import Derived.Test.YtdiddnapamjojaaUA
namespace Go.Proofs.VL
open Go Go.RowKit
set_option maxRecDepth 100000
set_option maxHeartbeats 2000000
set_option linter.unusedSimpArgs false
set_option linter.unusedVariables false
attribute [local irreducible] vwp vk

def patsB (ps : List Pat) : List UInt8 := ps.flatMap patB
theorem patsB_len (ps : List Pat) : (patsB ps).length = (patsO ps).length := by
  induction ps with
  | nil => rfl
  | cons p ps ih => unfold patsB patsO at ih ⊢; rw [List.flatMap_cons, List.flatMap_cons, List.length_append, List.length_append, ih, patB_len]
theorem patsB_snoc (ps : List Pat) (p : Pat) : patsB (ps ++ [p]) = patsB ps ++ patB p := by simp [patsB]
theorem patsB_eq (ps : List Pat) (h : ps.any patOdd = false) : patsB ps = patsO ps := by
  induction ps with
  | nil => rfl
  | cons p ps ih =>
    rw [List.any_cons, Bool.or_eq_false_iff] at h
    have := ih h.2
    unfold patsB patsO at this ⊢
    rw [List.flatMap_cons, List.flatMap_cons, this, patB_eq h.1]

theorem wireTells (ps : List Pat) (t : List UInt8) (rs : Runs) (ht : t.length ≤ 100000000) (hrs : rs.length ≤ 100000000) (hl : ps.length ≤ 100000000) (hs : ∀ p ∈ ps, PTiny p) (hw : ∀ p ∈ ps, PWide p) (hb : (patsO ps).length ≤ 200000000) : VFn Try.prog 11 [.sl 16 (pRows ps), rawV t rs] (.bool true) := by
  refine VFn.intro ok11 (Nat.le_of_ble_eq_true rfl) (vk_start ?_)
  have ha := alive48
  have hpl := pRows_length ps
  have htk : List.take 40 (pRows ps) = pRows (ps.take 40) := by simp [pRows, List.map_take]
  have hs' : ∀ p ∈ ps.take 40, PTiny p := fun p hp => hs p (List.mem_of_mem_take hp)
  have hw' : ∀ p ∈ ps.take 40, PWide p := fun p hp => hw p (List.mem_of_mem_take hp)
  have hb' := patsO_take ps 40
  have hl' : (ps.take 40).length ≤ 40 := by rw [List.length_take]; omega
  simp (maxSteps := 4000000) (disch := omega) only [EW, Nat.reduceBEq, reduceIte, Nat.reduceAdd, Nat.reduceLeDiff, Nat.reduceLT, Nat.reduceSub, Nat.reduceMul, reduceCtorEq, Int.reduceNeg, Int.reduceSub, Int.reduceAdd, Int.reduceLE, Int.reduceLT, Int.reduceMul, Int.reduceToNat, Int.reduceEq, Int.reduceBEq, Int.reduceBNe, Nat.reduceEqDiff, vc11, rs11, rawV]
  (refine vk_callR rfl ⟨_, .inl rfl, ha⟩ ?_; simp (maxSteps := 4000000) (disch := omega) only [EW, Nat.reduceBEq, reduceIte, Nat.reduceAdd, Nat.reduceLeDiff, Nat.reduceLT, Nat.reduceSub, Nat.reduceMul, reduceCtorEq, Int.reduceNeg, Int.reduceSub, Int.reduceAdd, Int.reduceLE, Int.reduceLT, Int.reduceMul, Int.reduceToNat, Int.reduceEq, Int.reduceBEq, Int.reduceBNe, Nat.reduceEqDiff])
  refine vk_joinR (γ := Unit) (fun _ => { tm := [(0, .sl 16 (pRows (ps.take 40))), (3, .ptr 0 0)], ob := [some (.box [.str t, .sl 2 (rowsOf rs)])], base := 0 }) (fun _ => True) ?_ ?_
  · intro R hN hE hR
    by_cases h : 40 < ps.length
    · simp (maxSteps := 4000000) (disch := omega) only [EW, Nat.reduceBEq, reduceIte, Nat.reduceAdd, Nat.reduceLeDiff, Nat.reduceLT, Nat.reduceSub, Nat.reduceMul, reduceCtorEq, Int.reduceNeg, Int.reduceSub, Int.reduceAdd, Int.reduceLE, Int.reduceLT, Int.reduceMul, Int.reduceToNat, Int.reduceEq, Int.reduceBEq, Int.reduceBNe, Nat.reduceEqDiff, hpl, htk]
      refine hN _ () trivial ?_
      exact ⟨[some 0], rfl, rfl, rfl, rfl, ⟨.same _ rfl, .ptr rfl, trivial⟩, ⟨⟨_, rfl, .box (.cons (.same _ rfl) (.cons (.same _ rfl) .nil))⟩, trivial⟩⟩
    · have e : ps.take 40 = ps := List.take_of_length_le (by omega)
      rw [e] at hN
      simp (maxSteps := 4000000) (disch := omega) only [EW, Nat.reduceBEq, reduceIte, Nat.reduceAdd, Nat.reduceLeDiff, Nat.reduceLT, Nat.reduceSub, Nat.reduceMul, reduceCtorEq, Int.reduceNeg, Int.reduceSub, Int.reduceAdd, Int.reduceLE, Int.reduceLT, Int.reduceMul, Int.reduceToNat, Int.reduceEq, Int.reduceBEq, Int.reduceBNe, Nat.reduceEqDiff, hpl]
      refine hN _ () trivial ?_
      exact ⟨[some 0], rfl, rfl, rfl, rfl, ⟨.same _ rfl, .ptr rfl, trivial⟩, ⟨⟨_, rfl, .box (.cons (.same _ rfl) (.cons (.same _ rfl) .nil))⟩, trivial⟩⟩
  · rintro - -
    generalize ps.take 40 = qs at *
    clear hs hw htk hpl
    have hql := pRows_length qs
    have hput := wire_put qs (by omega) hs' (by omega)
    simp (maxSteps := 4000000) (disch := omega) only [EW, Nat.reduceBEq, reduceIte, Nat.reduceAdd, Nat.reduceLeDiff, Nat.reduceLT, Nat.reduceSub, Nat.reduceMul, reduceCtorEq, Int.reduceNeg, Int.reduceSub, Int.reduceAdd, Int.reduceLE, Int.reduceLT, Int.reduceMul, Int.reduceToNat, Int.reduceEq, Int.reduceBEq, Int.reduceBNe, Nat.reduceEqDiff]
    refine vk_loopR (γ := Nat) (fun j => { tm := [(0, .sl 16 (pRows qs)), (3, .ptr 0 0), (5, .ref 1 (patsB (qs.take j)).length), (6, .int .i64 (if (qs.take j).any patOdd then 4 else 0)), (7, .int .i64 j)], ob := [some (.box [.str t, .sl 2 (rowsOf rs)]), some (.arr 5 1 (bRows (patsB (qs.take j))))], base := 0 })
      (fun j => j ≤ qs.length) (fun j => qs.length - j) 0 (Nat.zero_le _) ?_ ?_
    · rw [List.take_zero]
      exact ⟨[some 0, none], rfl, rfl, rfl, rfl, ⟨.same _ rfl, .ptr rfl, .nref rfl, .same _ rfl, .same _ rfl, trivial⟩, ⟨⟨_, rfl, .box (.cons (.same _ rfl) (.cons (.same _ rfl) .nil))⟩, ⟨⟨_, _, rfl⟩, trivial⟩⟩⟩
    · rintro j hj R hN hE hR
      rcases Nat.lt_or_ge j qs.length with hlt | hge
      · obtain ⟨p, hp⟩ : ∃ p, qs[j]? = some p := ⟨_, List.getElem?_eq_getElem hlt⟩
        have hrow : (pRows qs)[j]? = some (pCells p) := by rw [pRows_get, hp]; rfl
        have htk : qs.take (j + 1) = qs.take j ++ [p] := by rw [List.take_add_one, hp]; rfl
        have hoc := ref_octets p (hs' p (List.mem_of_getElem? hp)) (hw' p (List.mem_of_getElem? hp))
        have hfin := fun s' hs => hN s' (j + 1) hlt (by omega) hs
        simp only [htk, patsB_snoc, List.any_append, List.any_cons, List.any_nil, Bool.or_false] at hfin
        have hlen : (patsB (qs.take j) ++ patB p).length ≤ 200000000 := by rw [← patsB_snoc, ← htk, patsB_len]; have := patsO_take qs (j + 1); omega
        rw [List.length_append] at hlen
        generalize (qs.take j).any patOdd = od at *
        generalize patsB (qs.take j) = f at *
        have q1 := bRows_length f
        have q2 := bRows_length (patB p)
        have q3 := bRows_take f
        cases od with
        | true =>
          rcases Bool.eq_false_or_eq_true (patOdd p) with h | h
          all_goals
            rw [h] at hoc
            simp (maxSteps := 4000000) (disch := omega) only [EW, Nat.reduceBEq, reduceIte, Nat.reduceAdd, Nat.reduceLeDiff, Nat.reduceLT, Nat.reduceSub, Nat.reduceMul, reduceCtorEq, Int.reduceNeg, Int.reduceSub, Int.reduceAdd, Int.reduceLE, Int.reduceLT, Int.reduceMul, Int.reduceToNat, Int.reduceEq, Int.reduceBEq, Int.reduceBNe, Nat.reduceEqDiff, hrow, hql, PCp]
            (refine vk_callR rfl ⟨_, .inl rfl, hoc⟩ ?_; simp (maxSteps := 4000000) (disch := omega) only [EW, Nat.reduceBEq, reduceIte, Nat.reduceAdd, Nat.reduceLeDiff, Nat.reduceLT, Nat.reduceSub, Nat.reduceMul, reduceCtorEq, Int.reduceNeg, Int.reduceSub, Int.reduceAdd, Int.reduceLE, Int.reduceLT, Int.reduceMul, Int.reduceToNat, Int.reduceEq, Int.reduceBEq, Int.reduceBNe, Nat.reduceEqDiff, q1, q2, q3, bRows_append])
            refine hfin _ ?_
            exact ⟨[some 0, some 2], rfl, rfl, rfl, rfl, ⟨.same _ rfl, .ptr rfl, (.refE rfl (by simp [bRows_length])), .same _ rfl, .same _ rfl, trivial⟩, ⟨⟨_, rfl, .box (.cons (.same _ rfl) (.cons (.same _ rfl) .nil))⟩, ⟨⟨_, rfl, .arr (.refl _)⟩, trivial⟩⟩⟩
        | false =>
          rcases Bool.eq_false_or_eq_true (patOdd p) with h | h
          all_goals
            rw [h] at hoc hfin
            simp (maxSteps := 4000000) (disch := omega) only [EW, Nat.reduceBEq, reduceIte, Nat.reduceAdd, Nat.reduceLeDiff, Nat.reduceLT, Nat.reduceSub, Nat.reduceMul, reduceCtorEq, Int.reduceNeg, Int.reduceSub, Int.reduceAdd, Int.reduceLE, Int.reduceLT, Int.reduceMul, Int.reduceToNat, Int.reduceEq, Int.reduceBEq, Int.reduceBNe, Nat.reduceEqDiff, hrow, hql, PCp]
            (refine vk_callR rfl ⟨_, .inl rfl, hoc⟩ ?_; simp (maxSteps := 4000000) (disch := omega) only [EW, Nat.reduceBEq, reduceIte, Nat.reduceAdd, Nat.reduceLeDiff, Nat.reduceLT, Nat.reduceSub, Nat.reduceMul, reduceCtorEq, Int.reduceNeg, Int.reduceSub, Int.reduceAdd, Int.reduceLE, Int.reduceLT, Int.reduceMul, Int.reduceToNat, Int.reduceEq, Int.reduceBEq, Int.reduceBNe, Nat.reduceEqDiff, q1, q2, q3, bRows_append])
            refine hfin _ ?_
            exact ⟨[some 0, some 2], rfl, rfl, rfl, rfl, ⟨.same _ rfl, .ptr rfl, (.refE rfl (by simp [bRows_length])), .same _ rfl, .same _ rfl, trivial⟩, ⟨⟨_, rfl, .box (.cons (.same _ rfl) (.cons (.same _ rfl) .nil))⟩, ⟨⟨_, rfl, .arr (.refl _)⟩, trivial⟩⟩⟩
      · have e : j = qs.length := by omega
        subst e
        rw [List.take_length]
        clear hN
        simp (maxSteps := 4000000) (disch := omega) only [EW, Nat.reduceBEq, reduceIte, Nat.reduceAdd, Nat.reduceLeDiff, Nat.reduceLT, Nat.reduceSub, Nat.reduceMul, reduceCtorEq, Int.reduceNeg, Int.reduceSub, Int.reduceAdd, Int.reduceLE, Int.reduceLT, Int.reduceMul, Int.reduceToNat, Int.reduceEq, Int.reduceBEq, Int.reduceBNe, Nat.reduceEqDiff, hql]
        refine hE _ _ ?_
        clear hE hR
        simp (maxSteps := 4000000) (disch := omega) only [EW, Nat.reduceBEq, reduceIte, Nat.reduceAdd, Nat.reduceLeDiff, Nat.reduceLT, Nat.reduceSub, Nat.reduceMul, reduceCtorEq, Int.reduceNeg, Int.reduceSub, Int.reduceAdd, Int.reduceLE, Int.reduceLT, Int.reduceMul, Int.reduceToNat, Int.reduceEq, Int.reduceBEq, Int.reduceBNe, Nat.reduceEqDiff]
        obtain ⟨w0, hw0⟩ : ∃ w0 : Int, w0 = if qs.any patOdd then 4 else 0 := ⟨_, rfl⟩
        have hzl : (patsB qs).length ≤ 200000000 := by rw [patsB_len]; omega
        have hz1 := bRows_length (patsB qs)
        have hz2 := bRows_take (patsB qs)
        rw [← hw0]
        refine vk_loopR (γ := Nat) (fun j => { tm := [(0, .sl 16 (pRows qs)), (3, .ptr 0 0), (5, .ref 1 (patsB qs).length), (6, .int .i64 (if (qs.take j).all kindOk then w0 else 12)), (10, .int .i64 j)], ob := [some (.box [.str t, .sl 2 (rowsOf rs)]), some (.arr 5 1 (bRows (patsB qs)))], base := 0 })
          (fun j => j ≤ qs.length) (fun j => qs.length - j) 0 (Nat.zero_le _) ?_ ?_
        · rw [List.take_zero]
          exact ⟨[some 0, some 1], rfl, rfl, rfl, rfl, ⟨.same _ rfl, .ptr rfl, .ref rfl, .same _ rfl, .same _ rfl, trivial⟩, ⟨⟨_, rfl, .box (.cons (.same _ rfl) (.cons (.same _ rfl) .nil))⟩, ⟨⟨_, rfl, .arr (.refl _)⟩, trivial⟩⟩⟩
        · rintro j hj R hN hE hR
          rcases Nat.lt_or_ge j qs.length with hlt | hge
          · obtain ⟨p, hp⟩ : ∃ p, qs[j]? = some p := ⟨_, List.getElem?_eq_getElem hlt⟩
            have hrow : (pRows qs)[j]? = some (pCells p) := by rw [pRows_get, hp]; rfl
            have htk : qs.take (j + 1) = qs.take j ++ [p] := by rw [List.take_add_one, hp]; rfl
            have hfin := fun s' hs => hN s' (j + 1) hlt (by omega) hs
            simp only [htk, List.all_append, List.all_cons, List.all_nil, Bool.and_true] at hfin
            generalize (qs.take j).all kindOk = kd at *
            rcases (by omega : p.op < 1 ∨ (1 ≤ p.op ∧ p.op ≤ 7) ∨ 7 < p.op) with h | h | h
            · have hk : kindOk p = false := by unfold kindOk; simp; omega
              rw [hk, Bool.and_false] at hfin
              simp (maxSteps := 4000000) (disch := omega) only [EW, Nat.reduceBEq, reduceIte, Nat.reduceAdd, Nat.reduceLeDiff, Nat.reduceLT, Nat.reduceSub, Nat.reduceMul, reduceCtorEq, Int.reduceNeg, Int.reduceSub, Int.reduceAdd, Int.reduceLE, Int.reduceLT, Int.reduceMul, Int.reduceToNat, Int.reduceEq, Int.reduceBEq, Int.reduceBNe, Nat.reduceEqDiff, hrow, hql, PCp]
              refine hfin _ ?_
              exact ⟨[some 0, some 1], rfl, rfl, rfl, rfl, ⟨.same _ rfl, .ptr rfl, .ref rfl, .same _ rfl, .same _ rfl, trivial⟩, ⟨⟨_, rfl, .box (.cons (.same _ rfl) (.cons (.same _ rfl) .nil))⟩, ⟨⟨_, rfl, .arr (.refl _)⟩, trivial⟩⟩⟩
            · have hk : kindOk p = true := by unfold kindOk; simp; omega
              rw [hk, Bool.and_true] at hfin
              simp (maxSteps := 4000000) (disch := omega) only [EW, Nat.reduceBEq, reduceIte, Nat.reduceAdd, Nat.reduceLeDiff, Nat.reduceLT, Nat.reduceSub, Nat.reduceMul, reduceCtorEq, Int.reduceNeg, Int.reduceSub, Int.reduceAdd, Int.reduceLE, Int.reduceLT, Int.reduceMul, Int.reduceToNat, Int.reduceEq, Int.reduceBEq, Int.reduceBNe, Nat.reduceEqDiff, hrow, hql, PCp]
              refine hfin _ ?_
              exact ⟨[some 0, some 1], rfl, rfl, rfl, rfl, ⟨.same _ rfl, .ptr rfl, .ref rfl, .same _ rfl, .same _ rfl, trivial⟩, ⟨⟨_, rfl, .box (.cons (.same _ rfl) (.cons (.same _ rfl) .nil))⟩, ⟨⟨_, rfl, .arr (.refl _)⟩, trivial⟩⟩⟩
            · have hk : kindOk p = false := by unfold kindOk; simp; omega
              rw [hk, Bool.and_false] at hfin
              simp (maxSteps := 4000000) (disch := omega) only [EW, Nat.reduceBEq, reduceIte, Nat.reduceAdd, Nat.reduceLeDiff, Nat.reduceLT, Nat.reduceSub, Nat.reduceMul, reduceCtorEq, Int.reduceNeg, Int.reduceSub, Int.reduceAdd, Int.reduceLE, Int.reduceLT, Int.reduceMul, Int.reduceToNat, Int.reduceEq, Int.reduceBEq, Int.reduceBNe, Nat.reduceEqDiff, hrow, hql, PCp]
              refine hfin _ ?_
              exact ⟨[some 0, some 1], rfl, rfl, rfl, rfl, ⟨.same _ rfl, .ptr rfl, .ref rfl, .same _ rfl, .same _ rfl, trivial⟩, ⟨⟨_, rfl, .box (.cons (.same _ rfl) (.cons (.same _ rfl) .nil))⟩, ⟨⟨_, rfl, .arr (.refl _)⟩, trivial⟩⟩⟩
          · have e : j = qs.length := by omega
            subst e
            rw [List.take_length]
            clear hN
            simp (maxSteps := 4000000) (disch := omega) only [EW, Nat.reduceBEq, reduceIte, Nat.reduceAdd, Nat.reduceLeDiff, Nat.reduceLT, Nat.reduceSub, Nat.reduceMul, reduceCtorEq, Int.reduceNeg, Int.reduceSub, Int.reduceAdd, Int.reduceLE, Int.reduceLT, Int.reduceMul, Int.reduceToNat, Int.reduceEq, Int.reduceBEq, Int.reduceBNe, Nat.reduceEqDiff, hql]
            refine hE _ _ ?_
            clear hE hR
            obtain ⟨w1, hw1⟩ : ∃ w1 : Int, w1 = if qs.all kindOk then w0 else 12 := ⟨_, rfl⟩
            rw [← hw1]
            have hcase : w1 = 0 ∨ w1 = 4 ∨ w1 = 12 := by rw [hw1, hw0]; split <;> (try split) <;> simp
            have hp0 : (putB qs).2 = if w1 = 0 then (if 65536 < (patsB qs).length then 5 else 0) else w1 := by
              rw [hw1, hw0, patsB_len]; unfold putB
              cases qs.all kindOk <;> cases qs.any patOdd <;> simp
              split <;> rfl
            have hp1 : (putB qs).2 ≠ 0 → (putB qs).1 = [] := by
              unfold putB
              cases qs.all kindOk <;> cases qs.any patOdd <;> simp
              intro h; split at h <;> simp_all
            have hp2 : (putB qs).2 = 0 → (putB qs).1 = patsB qs := by
              unfold putB
              cases hall : qs.all kindOk <;> cases hany : qs.any patOdd <;> simp
              intro h; rw [patsB_eq _ hany]; have hn : ¬ 65536 < (patsO qs).length := fun hc => by rw [if_pos hc] at h; simp at h
              rw [if_neg hn]
            have hws := wire_str (t := t) (rs := rs) rfl ht hrs
            have hwr := ref_wstr (t := t) (rs := rs) rfl ht hrs
            generalize putB qs = pb at *
            obtain ⟨pb1, pb2⟩ := pb
            simp only at hp0 hp1 hp2 hput
            generalize patsB qs = z at *
            clear hw0 hw1
            simp (maxSteps := 4000000) (disch := omega) only [EW, Nat.reduceBEq, reduceIte, Nat.reduceAdd, Nat.reduceLeDiff, Nat.reduceLT, Nat.reduceSub, Nat.reduceMul, reduceCtorEq, Int.reduceNeg, Int.reduceSub, Int.reduceAdd, Int.reduceLE, Int.reduceLT, Int.reduceMul, Int.reduceToNat, Int.reduceEq, Int.reduceBEq, Int.reduceBNe, Nat.reduceEqDiff]
            refine vk_joinR (γ := Unit) (fun _ => { tm := [(0, .sl 16 (pRows qs)), (3, .ptr 0 0), (5, .ref 1 z.length), (6, .int .i64 pb2)], ob := [some (.box [.str t, .sl 2 (rowsOf rs)]), some (.arr 5 1 (bRows z))], base := 0 }) (fun _ => True) ?_ ?_
            · intro R hN hE hR
              rcases hcase with h | h | h
              · subst h
                rw [if_pos rfl] at hp0
                by_cases hz : 65536 < z.length
                · rw [if_pos hz] at hp0
                  rw [hp0] at hN
                  simp (maxSteps := 4000000) (disch := omega) only [EW, Nat.reduceBEq, reduceIte, Nat.reduceAdd, Nat.reduceLeDiff, Nat.reduceLT, Nat.reduceSub, Nat.reduceMul, reduceCtorEq, Int.reduceNeg, Int.reduceSub, Int.reduceAdd, Int.reduceLE, Int.reduceLT, Int.reduceMul, Int.reduceToNat, Int.reduceEq, Int.reduceBEq, Int.reduceBNe, Nat.reduceEqDiff]
                  refine hN _ () trivial ?_
                  exact ⟨[some 0, some 1], rfl, rfl, rfl, rfl, ⟨.same _ rfl, .ptr rfl, .ref rfl, .same _ rfl, trivial⟩, ⟨⟨_, rfl, .box (.cons (.same _ rfl) (.cons (.same _ rfl) .nil))⟩, ⟨⟨_, rfl, .arr (.refl _)⟩, trivial⟩⟩⟩
                · rw [if_neg hz] at hp0
                  rw [hp0] at hN
                  simp (maxSteps := 4000000) (disch := omega) only [EW, Nat.reduceBEq, reduceIte, Nat.reduceAdd, Nat.reduceLeDiff, Nat.reduceLT, Nat.reduceSub, Nat.reduceMul, reduceCtorEq, Int.reduceNeg, Int.reduceSub, Int.reduceAdd, Int.reduceLE, Int.reduceLT, Int.reduceMul, Int.reduceToNat, Int.reduceEq, Int.reduceBEq, Int.reduceBNe, Nat.reduceEqDiff]
                  refine hN _ () trivial ?_
                  exact ⟨[some 0, some 1], rfl, rfl, rfl, rfl, ⟨.same _ rfl, .ptr rfl, .ref rfl, .same _ rfl, trivial⟩, ⟨⟨_, rfl, .box (.cons (.same _ rfl) (.cons (.same _ rfl) .nil))⟩, ⟨⟨_, rfl, .arr (.refl _)⟩, trivial⟩⟩⟩
              · subst h
                rw [if_neg (by decide)] at hp0
                rw [hp0] at hN
                simp (maxSteps := 4000000) (disch := omega) only [EW, Nat.reduceBEq, reduceIte, Nat.reduceAdd, Nat.reduceLeDiff, Nat.reduceLT, Nat.reduceSub, Nat.reduceMul, reduceCtorEq, Int.reduceNeg, Int.reduceSub, Int.reduceAdd, Int.reduceLE, Int.reduceLT, Int.reduceMul, Int.reduceToNat, Int.reduceEq, Int.reduceBEq, Int.reduceBNe, Nat.reduceEqDiff]
                refine hN _ () trivial ?_
                exact ⟨[some 0, some 1], rfl, rfl, rfl, rfl, ⟨.same _ rfl, .ptr rfl, .ref rfl, .same _ rfl, trivial⟩, ⟨⟨_, rfl, .box (.cons (.same _ rfl) (.cons (.same _ rfl) .nil))⟩, ⟨⟨_, rfl, .arr (.refl _)⟩, trivial⟩⟩⟩
              · subst h
                rw [if_neg (by decide)] at hp0
                rw [hp0] at hN
                simp (maxSteps := 4000000) (disch := omega) only [EW, Nat.reduceBEq, reduceIte, Nat.reduceAdd, Nat.reduceLeDiff, Nat.reduceLT, Nat.reduceSub, Nat.reduceMul, reduceCtorEq, Int.reduceNeg, Int.reduceSub, Int.reduceAdd, Int.reduceLE, Int.reduceLT, Int.reduceMul, Int.reduceToNat, Int.reduceEq, Int.reduceBEq, Int.reduceBNe, Nat.reduceEqDiff]
                refine hN _ () trivial ?_
                exact ⟨[some 0, some 1], rfl, rfl, rfl, rfl, ⟨.same _ rfl, .ptr rfl, .ref rfl, .same _ rfl, trivial⟩, ⟨⟨_, rfl, .box (.cons (.same _ rfl) (.cons (.same _ rfl) .nil))⟩, ⟨⟨_, rfl, .arr (.refl _)⟩, trivial⟩⟩⟩
            · rintro - -
              clear hp0 hcase
              simp (maxSteps := 4000000) (disch := omega) only [EW, Nat.reduceBEq, reduceIte, Nat.reduceAdd, Nat.reduceLeDiff, Nat.reduceLT, Nat.reduceSub, Nat.reduceMul, reduceCtorEq, Int.reduceNeg, Int.reduceSub, Int.reduceAdd, Int.reduceLE, Int.reduceLT, Int.reduceMul, Int.reduceToNat, Int.reduceEq, Int.reduceBEq, Int.reduceBNe, Nat.reduceEqDiff]
              (refine vk_callR rfl ⟨_, .inl rfl, hput⟩ ?_; simp (maxSteps := 4000000) (disch := omega) only [EW, Nat.reduceBEq, reduceIte, Nat.reduceAdd, Nat.reduceLeDiff, Nat.reduceLT, Nat.reduceSub, Nat.reduceMul, reduceCtorEq, Int.reduceNeg, Int.reduceSub, Int.reduceAdd, Int.reduceLE, Int.reduceLT, Int.reduceMul, Int.reduceToNat, Int.reduceEq, Int.reduceBEq, Int.reduceBNe, Nat.reduceEqDiff])
              refine vk_callR rfl ⟨[rawV t rs], .inl rfl, hws⟩ ?_
              simp (maxSteps := 4000000) (disch := omega) only [EW, Nat.reduceBEq, reduceIte, Nat.reduceAdd, Nat.reduceLeDiff, Nat.reduceLT, Nat.reduceSub, Nat.reduceMul, reduceCtorEq, Int.reduceNeg, Int.reduceSub, Int.reduceAdd, Int.reduceLE, Int.reduceLT, Int.reduceMul, Int.reduceToNat, Int.reduceEq, Int.reduceBEq, Int.reduceBNe, Nat.reduceEqDiff, rowsBytes_bRows, Option.map_some]
              refine vk_callR rfl ⟨[rawV t rs], .inl rfl, hwr⟩ ?_
              by_cases h0 : pb2 = 0
              · have h1 := hp2 h0
                subst h0
                subst h1
                simp (maxSteps := 4000000) (disch := omega) only [EW, Nat.reduceBEq, reduceIte, Nat.reduceAdd, Nat.reduceLeDiff, Nat.reduceLT, Nat.reduceSub, Nat.reduceMul, reduceCtorEq, Int.reduceNeg, Int.reduceSub, Int.reduceAdd, Int.reduceLE, Int.reduceLT, Int.reduceMul, Int.reduceToNat, Int.reduceEq, Int.reduceBEq, Int.reduceBNe, Nat.reduceEqDiff, rowsBytes_bRows, Option.map_some, hz2]
                exact fin rfl
              · have h1 := hp1 h0
                subst h1
                have b0 : (bRows ([] : List UInt8)).length = 0 := rfl
                simp (maxSteps := 4000000) (disch := omega) only [EW, Nat.reduceBEq, reduceIte, Nat.reduceAdd, Nat.reduceLeDiff, Nat.reduceLT, Nat.reduceSub, Nat.reduceMul, reduceCtorEq, Int.reduceNeg, Int.reduceSub, Int.reduceAdd, Int.reduceLE, Int.reduceLT, Int.reduceMul, Int.reduceToNat, Int.reduceEq, Int.reduceBEq, Int.reduceBNe, Nat.reduceEqDiff, rowsBytes_bRows, Option.map_some, b0]
                exact fin rfl
end Go.Proofs.VL

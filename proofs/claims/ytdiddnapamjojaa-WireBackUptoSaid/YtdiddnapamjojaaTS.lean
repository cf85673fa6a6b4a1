/- Contracts of functions of the program, for what calls them, and the law that its name tells. -/
import Derived.Test.YtdiddnapamjojaaTR
namespace Go.Proofs.VL
open Go Go.RowKit
set_option maxRecDepth 100000
set_option maxHeartbeats 2000000
set_option linter.unusedSimpArgs false
set_option linter.unusedVariables false
attribute [local irreducible] vwp vk

def kindOk (p : Pat) : Bool := decide (1 ≤ p.op ∧ p.op ≤ 7)

theorem patch_check (ps : List Pat) (hl : ps.length ≤ 100000000) : VFn Try.prog 98 [.sl 16 (pRows ps)] (.int .i64 (if ps.all kindOk = true then 0 else 12)) := by
  refine VFn.intro ok98 (Nat.le_of_ble_eq_true rfl) (vk_start ?_)
  have hpl := pRows_length ps
  obtain ⟨z, hz⟩ : ∃ z : Int, z = if ps.all kindOk = true then 0 else 12 := ⟨_, rfl⟩
  rw [← hz]
  simp (maxSteps := 4000000) (disch := omega) only [EW, Nat.reduceBEq, reduceIte, Nat.reduceAdd, Nat.reduceLeDiff, Nat.reduceLT, Nat.reduceSub, Nat.reduceMul, reduceCtorEq, Int.reduceNeg, Int.reduceSub, Int.reduceAdd, Int.reduceLE, Int.reduceLT, Int.reduceMul, Int.reduceToNat, Int.reduceEq, Int.reduceBEq, Int.reduceBNe, Nat.reduceEqDiff, vc98, rs98, hpl]
  refine vk_loopR (γ := Nat) (fun i => { tm := [(5, .sl 16 (pRows ps)), (6, .int .i64 ps.length), (7, .int .i64 i)], ob := [], base := 0 })
    (fun i => i ≤ ps.length ∧ z = if (ps.drop i).all kindOk = true then 0 else 12) (fun i => ps.length - i) 0 ⟨Nat.zero_le _, hz⟩ ?_ ?_
  · exact ⟨[], rfl, rfl, rfl, rfl, ⟨.same _ rfl, .same _ rfl, .same _ rfl, trivial⟩, trivial⟩
  · rintro i ⟨hi, hI⟩ R hN hE hR
    rcases Nat.lt_or_ge i ps.length with hlt | hge
    · obtain ⟨x, hx⟩ : ∃ x, ps[i]? = some x := ⟨_, List.getElem?_eq_getElem hlt⟩
      have hr : (pRows ps)[i]? = some (pCells x) := by rw [pRows_get, hx]; rfl
      rw [drop_at' hx, List.all_cons] at hI
      by_cases h1 : x.op < 1
      · have e : kindOk x = false := decide_eq_false (by omega)
        rw [e, Bool.false_and, if_neg (by simp)] at hI
        simp (maxSteps := 4000000) (disch := omega) only [EW, Nat.reduceBEq, reduceIte, Nat.reduceAdd, Nat.reduceLeDiff, Nat.reduceLT, Nat.reduceSub, Nat.reduceMul, reduceCtorEq, Int.reduceNeg, Int.reduceSub, Int.reduceAdd, Int.reduceLE, Int.reduceLT, Int.reduceMul, Int.reduceToNat, Int.reduceEq, Int.reduceBEq, Int.reduceBNe, Nat.reduceEqDiff, hr, PCp]
        refine hR _ ?_
        simp (maxSteps := 4000000) (disch := omega) only [EW, Nat.reduceBEq, reduceIte, Nat.reduceAdd, Nat.reduceLeDiff, Nat.reduceLT, Nat.reduceSub, Nat.reduceMul, reduceCtorEq, Int.reduceNeg, Int.reduceSub, Int.reduceAdd, Int.reduceLE, Int.reduceLT, Int.reduceMul, Int.reduceToNat, Int.reduceEq, Int.reduceBEq, Int.reduceBNe, Nat.reduceEqDiff, hI]
        exact fin rfl
      · by_cases h2 : 7 < x.op
        · have e : kindOk x = false := decide_eq_false (by omega)
          rw [e, Bool.false_and, if_neg (by simp)] at hI
          simp (maxSteps := 4000000) (disch := omega) only [EW, Nat.reduceBEq, reduceIte, Nat.reduceAdd, Nat.reduceLeDiff, Nat.reduceLT, Nat.reduceSub, Nat.reduceMul, reduceCtorEq, Int.reduceNeg, Int.reduceSub, Int.reduceAdd, Int.reduceLE, Int.reduceLT, Int.reduceMul, Int.reduceToNat, Int.reduceEq, Int.reduceBEq, Int.reduceBNe, Nat.reduceEqDiff, hr, PCp]
          refine hR _ ?_
          simp (maxSteps := 4000000) (disch := omega) only [EW, Nat.reduceBEq, reduceIte, Nat.reduceAdd, Nat.reduceLeDiff, Nat.reduceLT, Nat.reduceSub, Nat.reduceMul, reduceCtorEq, Int.reduceNeg, Int.reduceSub, Int.reduceAdd, Int.reduceLE, Int.reduceLT, Int.reduceMul, Int.reduceToNat, Int.reduceEq, Int.reduceBEq, Int.reduceBNe, Nat.reduceEqDiff, hI]
          exact fin rfl
        · have e : kindOk x = true := decide_eq_true (by omega)
          rw [e, Bool.true_and] at hI
          simp (maxSteps := 4000000) (disch := omega) only [EW, Nat.reduceBEq, reduceIte, Nat.reduceAdd, Nat.reduceLeDiff, Nat.reduceLT, Nat.reduceSub, Nat.reduceMul, reduceCtorEq, Int.reduceNeg, Int.reduceSub, Int.reduceAdd, Int.reduceLE, Int.reduceLT, Int.reduceMul, Int.reduceToNat, Int.reduceEq, Int.reduceBEq, Int.reduceBNe, Nat.reduceEqDiff, hr, PCp]
          refine hN _ (i + 1) ⟨hlt, hI⟩ (by omega) ?_
          exact ⟨[], rfl, rfl, rfl, rfl, ⟨.same _ rfl, .same _ rfl, .same _ rfl, trivial⟩, trivial⟩
    · rw [List.drop_eq_nil_of_le hge] at hI
      have hI2 : z = 0 := hI
      simp (maxSteps := 4000000) (disch := omega) only [EW, Nat.reduceBEq, reduceIte, Nat.reduceAdd, Nat.reduceLeDiff, Nat.reduceLT, Nat.reduceSub, Nat.reduceMul, reduceCtorEq, Int.reduceNeg, Int.reduceSub, Int.reduceAdd, Int.reduceLE, Int.reduceLT, Int.reduceMul, Int.reduceToNat, Int.reduceEq, Int.reduceBEq, Int.reduceBNe, Nat.reduceEqDiff]
      refine hE _ _ ?_
      simp (maxSteps := 4000000) (disch := omega) only [EW, Nat.reduceBEq, reduceIte, Nat.reduceAdd, Nat.reduceLeDiff, Nat.reduceLT, Nat.reduceSub, Nat.reduceMul, reduceCtorEq, Int.reduceNeg, Int.reduceSub, Int.reduceAdd, Int.reduceLE, Int.reduceLT, Int.reduceMul, Int.reduceToNat, Int.reduceEq, Int.reduceBEq, Int.reduceBNe, Nat.reduceEqDiff, hI2]
      exact fin rfl

def patsO (ps : List Pat) : List UInt8 := ps.flatMap patO
def putB (ps : List Pat) : List UInt8 × Int :=
  if ps.all kindOk = true then (if ps.any patOdd = true then ([], 4) else if 65536 < (patsO ps).length then ([], 5) else (patsO ps, 0)) else ([], 12)

theorem patsO_snoc (ps : List Pat) (p : Pat) : patsO (ps ++ [p]) = patsO ps ++ patO p := by simp [patsO]
theorem patsO_take (ps : List Pat) (n : Nat) : (patsO (ps.take n)).length ≤ (patsO ps).length := by
  have : patsO ps = patsO (ps.take n) ++ patsO (ps.drop n) := by unfold patsO; rw [← List.flatMap_append, List.take_append_drop]
  rw [this, List.length_append]; omega

theorem wire_put (ps : List Pat) (hl : ps.length ≤ 100000000) (hs : ∀ p ∈ ps, PTiny p) (hb : (patsO ps).length ≤ 200000000) : VFn Try.prog 49 [.sl 16 (pRows ps)] (.tup [.sl 1 (bRows (putB ps).1), .int .i64 (putB ps).2]) := by
  refine VFn.intro ok49 (Nat.le_of_ble_eq_true rfl) (vk_start ?_)
  have hpl := pRows_length ps
  have hck := patch_check ps hl
  obtain ⟨z, hz⟩ : ∃ z, z = putB ps := ⟨_, rfl⟩
  rw [← hz]
  cases hk : ps.all kindOk with
  | false =>
    rw [hk, if_neg (by simp)] at hck
    have e : z = ([], 12) := by rw [hz]; unfold putB; rw [if_neg (by rw [hk]; simp)]
    simp (maxSteps := 4000000) (disch := omega) only [EW, Nat.reduceBEq, reduceIte, Nat.reduceAdd, Nat.reduceLeDiff, Nat.reduceLT, Nat.reduceSub, Nat.reduceMul, reduceCtorEq, Int.reduceNeg, Int.reduceSub, Int.reduceAdd, Int.reduceLE, Int.reduceLT, Int.reduceMul, Int.reduceToNat, Int.reduceEq, Int.reduceBEq, Int.reduceBNe, Nat.reduceEqDiff, vc49, rs49, hpl]
    (refine vk_callR rfl ⟨_, .inl rfl, hck⟩ ?_; simp (maxSteps := 4000000) (disch := omega) only [EW, Nat.reduceBEq, reduceIte, Nat.reduceAdd, Nat.reduceLeDiff, Nat.reduceLT, Nat.reduceSub, Nat.reduceMul, reduceCtorEq, Int.reduceNeg, Int.reduceSub, Int.reduceAdd, Int.reduceLE, Int.reduceLT, Int.reduceMul, Int.reduceToNat, Int.reduceEq, Int.reduceBEq, Int.reduceBNe, Nat.reduceEqDiff])
    rw [e]
    exact ⟨_, _, rfl, rfl, by (show Sub (.tup [.nils, .int .i64 12]) (.tup [.sl 1 [], .int .i64 12])); exact .tup (.cons (.nil _) (.cons (.refl _) .nil))⟩
  | true =>
    rw [hk, if_pos rfl] at hck
    have e : z = if ps.any patOdd = true then ([], 4) else if 65536 < (patsO ps).length then ([], 5) else (patsO ps, 0) := by rw [hz]; unfold putB; rw [if_pos hk]
    simp (maxSteps := 4000000) (disch := omega) only [EW, Nat.reduceBEq, reduceIte, Nat.reduceAdd, Nat.reduceLeDiff, Nat.reduceLT, Nat.reduceSub, Nat.reduceMul, reduceCtorEq, Int.reduceNeg, Int.reduceSub, Int.reduceAdd, Int.reduceLE, Int.reduceLT, Int.reduceMul, Int.reduceToNat, Int.reduceEq, Int.reduceBEq, Int.reduceBNe, Nat.reduceEqDiff, vc49, rs49, hpl]
    (refine vk_callR rfl ⟨_, .inl rfl, hck⟩ ?_; simp (maxSteps := 4000000) (disch := omega) only [EW, Nat.reduceBEq, reduceIte, Nat.reduceAdd, Nat.reduceLeDiff, Nat.reduceLT, Nat.reduceSub, Nat.reduceMul, reduceCtorEq, Int.reduceNeg, Int.reduceSub, Int.reduceAdd, Int.reduceLE, Int.reduceLT, Int.reduceMul, Int.reduceToNat, Int.reduceEq, Int.reduceBEq, Int.reduceBNe, Nat.reduceEqDiff, hpl])
    refine vk_loopR (γ := Nat) (fun j => { tm := [(5, .ptr 0 0), (15, .sl 16 (pRows ps)), (16, .int .i64 ps.length), (17, .int .i64 j)], ob := [some (.box [.ref 1 (patsO (ps.take j)).length, .bool ((ps.take j).any patOdd)]), some (.arr 5 1 (bRows (patsO (ps.take j))))], base := 0 })
      (fun j => j ≤ ps.length) (fun j => ps.length - j) 0 (Nat.zero_le _) ?_ ?_
    · exact ⟨[some 0, none], rfl, rfl, rfl, rfl, ⟨.ptr rfl, .same _ rfl, (.of_eq (by rw [← hpl]; rfl) rfl), .same _ rfl, trivial⟩, ⟨⟨_, rfl, .box (.cons (.nref rfl) (.cons (.same _ rfl) .nil))⟩, ⟨⟨_, _, rfl⟩, trivial⟩⟩⟩
    · rintro j hj R hN hE hR
      rcases Nat.lt_or_ge j ps.length with hlt | hge
      · obtain ⟨x, hx⟩ : ∃ x, ps[j]? = some x := ⟨_, List.getElem?_eq_getElem hlt⟩
        have hr : (pRows ps)[j]? = some (pCells x) := by rw [pRows_get, hx]; rfl
        have htk : ps.take (j + 1) = ps.take j ++ [x] := by rw [List.take_add_one, hx]; rfl
        have hpt := patsO_take ps j
        have hn := fun B k0 k1 h0 h1 hne => w_at (w_patch (patsO (ps.take j)) ((ps.take j).any patOdd) x (hs x (List.mem_of_getElem? hx)) (by omega)) rfl (B := B) (k0 := k0) (k1 := k1) h0 h1 hne
        have hfin := fun s' hs => hN s' (j + 1) hlt (by omega) hs
        simp only [htk, patsO_snoc, List.any_append, List.any_cons, List.any_nil, Bool.or_false] at hfin
        generalize patsO (ps.take j) ++ patO x = g at *
        generalize patsO (ps.take j) = f at *
        generalize ((ps.take j).any patOdd || patOdd x) = o2 at *
        generalize (ps.take j).any patOdd = o1 at *
        simp (maxSteps := 4000000) (disch := omega) only [EW, Nat.reduceBEq, reduceIte, Nat.reduceAdd, Nat.reduceLeDiff, Nat.reduceLT, Nat.reduceSub, Nat.reduceMul, reduceCtorEq, Int.reduceNeg, Int.reduceSub, Int.reduceAdd, Int.reduceLE, Int.reduceLT, Int.reduceMul, Int.reduceToNat, Int.reduceEq, Int.reduceBEq, Int.reduceBNe, Nat.reduceEqDiff, hr, PCp]
        refine vk_call rfl (hn _ 0 1 rfl rfl (by decide)) ?_
        simp (maxSteps := 4000000) (disch := omega) only [EW, Nat.reduceBEq, reduceIte, Nat.reduceAdd, Nat.reduceLeDiff, Nat.reduceLT, Nat.reduceSub, Nat.reduceMul, reduceCtorEq, Int.reduceNeg, Int.reduceSub, Int.reduceAdd, Int.reduceLE, Int.reduceLT, Int.reduceMul, Int.reduceToNat, Int.reduceEq, Int.reduceBEq, Int.reduceBNe, Nat.reduceEqDiff]
        refine hfin _ ?_
        exact ⟨[some 0, some 3], rfl, rfl, rfl, rfl, ⟨.ptr rfl, .same _ rfl, .same _ rfl, .same _ rfl, trivial⟩, ⟨⟨_, rfl, .box (.cons (.ref rfl) (.cons (.same _ rfl) .nil))⟩, ⟨⟨_, rfl, .arr (.refl _)⟩, trivial⟩⟩⟩
      · have ej : j = ps.length := by omega
        subst ej
        rw [List.take_length]
        simp (maxSteps := 4000000) (disch := omega) only [EW, Nat.reduceBEq, reduceIte, Nat.reduceAdd, Nat.reduceLeDiff, Nat.reduceLT, Nat.reduceSub, Nat.reduceMul, reduceCtorEq, Int.reduceNeg, Int.reduceSub, Int.reduceAdd, Int.reduceLE, Int.reduceLT, Int.reduceMul, Int.reduceToNat, Int.reduceEq, Int.reduceBEq, Int.reduceBNe, Nat.reduceEqDiff]
        refine hE _ _ ?_
        cases ho : ps.any patOdd with
        | true =>
          rw [ho, if_pos rfl] at e
          simp (maxSteps := 4000000) (disch := omega) only [EW, Nat.reduceBEq, reduceIte, Nat.reduceAdd, Nat.reduceLeDiff, Nat.reduceLT, Nat.reduceSub, Nat.reduceMul, reduceCtorEq, Int.reduceNeg, Int.reduceSub, Int.reduceAdd, Int.reduceLE, Int.reduceLT, Int.reduceMul, Int.reduceToNat, Int.reduceEq, Int.reduceBEq, Int.reduceBNe, Nat.reduceEqDiff]
          rw [e]
          exact ⟨_, _, rfl, rfl, by (show Sub (.tup [.nils, .int .i64 4]) (.tup [.sl 1 [], .int .i64 4])); exact .tup (.cons (.nil _) (.cons (.refl _) .nil))⟩
        | false =>
          rw [ho, if_neg (by simp)] at e
          by_cases hlong : 65536 < (patsO ps).length
          · rw [if_pos hlong] at e
            simp (maxSteps := 4000000) (disch := omega) only [EW, Nat.reduceBEq, reduceIte, Nat.reduceAdd, Nat.reduceLeDiff, Nat.reduceLT, Nat.reduceSub, Nat.reduceMul, reduceCtorEq, Int.reduceNeg, Int.reduceSub, Int.reduceAdd, Int.reduceLE, Int.reduceLT, Int.reduceMul, Int.reduceToNat, Int.reduceEq, Int.reduceBEq, Int.reduceBNe, Nat.reduceEqDiff]
            rw [e]
            exact ⟨_, _, rfl, rfl, by (show Sub (.tup [.nils, .int .i64 5]) (.tup [.sl 1 [], .int .i64 5])); exact .tup (.cons (.nil _) (.cons (.refl _) .nil))⟩
          · rw [if_neg hlong] at e
            simp (maxSteps := 4000000) (disch := omega) only [EW, Nat.reduceBEq, reduceIte, Nat.reduceAdd, Nat.reduceLeDiff, Nat.reduceLT, Nat.reduceSub, Nat.reduceMul, reduceCtorEq, Int.reduceNeg, Int.reduceSub, Int.reduceAdd, Int.reduceLE, Int.reduceLT, Int.reduceMul, Int.reduceToNat, Int.reduceEq, Int.reduceBEq, Int.reduceBNe, Nat.reduceEqDiff]
            rw [e]
            have hbl := bRows_length (patsO ps)
            refine ⟨_, .tup [.sl 1 (bRows (patsO ps)), .int .i64 0], rfl, ?_, .refl _⟩
            simp only [lendV, lendL, objRows, List.getElem?_cons_succ, List.getElem?_cons_zero, hbl]
            rw [if_pos (Nat.le_refl _), ← hbl, List.take_length]
end Go.Proofs.VL

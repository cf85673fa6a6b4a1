/- Contracts of functions of the program, for what calls them, and the law that its name tells. -/
import Derived.Test.YtdiddnapamjojaaPA
import Derived.Test.YtdiddnapamjojaaSA6
import Derived.Test.YtdiddnapamjojaaSH
namespace Go.Proofs.VL
open Go Go.RowKit
set_option maxRecDepth 100000
set_option maxHeartbeats 2000000
set_option linter.unusedSimpArgs false
set_option linter.unusedVariables false
attribute [local irreducible] vwp vk

theorem patch_index {α : Type} (ls : List α) (g : α → List V) (f : FuncId) (caps : List V) (p : α → Bool) (hw : wfV 0 (.fn f [] caps) = true) (hcl : lendL [] caps = some caps) (hgl : ∀ r ∈ ls, lendL [] (g r) = some (g r)) (hsz : ∀ r ∈ ls, (g r).length = 16) (hl : ls.length ≤ 1000000000000) (h : ∀ r ∈ ls, VFn Try.prog f ([.agg (g r)] ++ caps) (.bool (p r))) :
    VFn Try.prog 117 [.sl 16 (ls.map g), .fn f [] caps] (.int .i64 (idxP p ls)) := by
  refine VFn.intro ok117 (Nat.le_of_ble_eq_true rfl) (vk_start ?_)
  simp (maxSteps := 4000000) (disch := omega) only [EW, Nat.reduceBEq, reduceIte, Nat.reduceAdd, Nat.reduceLeDiff, Nat.reduceLT, Nat.reduceSub, Nat.reduceMul, reduceCtorEq, Int.reduceNeg, Int.reduceSub, Int.reduceAdd, Int.reduceLE, Int.reduceLT, Int.reduceMul, Int.reduceToNat, Int.reduceEq, Int.reduceBEq, Int.reduceBNe, Nat.reduceEqDiff, vc117, rs117]
  refine vk_loopR (γ := Nat) (fun i => { tm := [(0, .sl 16 (ls.map g)), (1, .fn f [] caps), (7, .int .i64 ls.length), (8, .int .i64 i)], ob := [], base := 0 })
    (fun i => i ≤ ls.length ∧ idxP p ls = shiftI i (idxP p (ls.drop i))) (fun i => ls.length - i) 0 ⟨Nat.zero_le _, (shiftI_zero _).symm⟩ ?_ ?_
  · exact ⟨[], rfl, rfl, rfl, rfl, ⟨.same _ rfl, (.same _ hw), .same _ rfl, .same _ rfl, trivial⟩, trivial⟩
  · rintro i ⟨hi, hI⟩ R hN hE hR
    rcases Nat.lt_or_ge i ls.length with hlt | hge
    · obtain ⟨r, hr⟩ : ∃ r, ls[i]? = some r := ⟨_, List.getElem?_eq_getElem hlt⟩
      have hm := List.mem_of_getElem? hr
      have hrl := hsz r hm
      have htk : (g r).take 16 = g r := List.take_of_length_le (by omega)
      have hgr : (ls.map g)[i]? = some (g r) := by rw [List.getElem?_map, hr]; rfl
      have hc := h r hm
      rw [drop_at' hr] at hI
      simp (maxSteps := 4000000) (disch := omega) only [EW, Nat.reduceBEq, reduceIte, Nat.reduceAdd, Nat.reduceLeDiff, Nat.reduceLT, Nat.reduceSub, Nat.reduceMul, reduceCtorEq, Int.reduceNeg, Int.reduceSub, Int.reduceAdd, Int.reduceLE, Int.reduceLT, Int.reduceMul, Int.reduceToNat, Int.reduceEq, Int.reduceBEq, Int.reduceBNe, Nat.reduceEqDiff, hgr, htk, hrl]
      refine vk_callR rfl ⟨_, .inl (lend_app1 (hgl r hm) hcl), hc⟩ ?_
      cases hp : p r with
      | true =>
        simp (maxSteps := 4000000) (disch := omega) only [EW, Nat.reduceBEq, reduceIte, Nat.reduceAdd, Nat.reduceLeDiff, Nat.reduceLT, Nat.reduceSub, Nat.reduceMul, reduceCtorEq, Int.reduceNeg, Int.reduceSub, Int.reduceAdd, Int.reduceLE, Int.reduceLT, Int.reduceMul, Int.reduceToNat, Int.reduceEq, Int.reduceBEq, Int.reduceBNe, Nat.reduceEqDiff]
        refine hR _ ?_
        simp (maxSteps := 4000000) (disch := omega) only [EW, Nat.reduceBEq, reduceIte, Nat.reduceAdd, Nat.reduceLeDiff, Nat.reduceLT, Nat.reduceSub, Nat.reduceMul, reduceCtorEq, Int.reduceNeg, Int.reduceSub, Int.reduceAdd, Int.reduceLE, Int.reduceLT, Int.reduceMul, Int.reduceToNat, Int.reduceEq, Int.reduceBEq, Int.reduceBNe, Nat.reduceEqDiff]
        rw [hI, idxP_hit hp, shiftI_nat]
        exact fin rfl
      | false =>
        simp (maxSteps := 4000000) (disch := omega) only [EW, Nat.reduceBEq, reduceIte, Nat.reduceAdd, Nat.reduceLeDiff, Nat.reduceLT, Nat.reduceSub, Nat.reduceMul, reduceCtorEq, Int.reduceNeg, Int.reduceSub, Int.reduceAdd, Int.reduceLE, Int.reduceLT, Int.reduceMul, Int.reduceToNat, Int.reduceEq, Int.reduceBEq, Int.reduceBNe, Nat.reduceEqDiff]
        refine hN _ (i + 1) ⟨hlt, ?_⟩ (by omega) ?_
        · rw [hI, idxP_miss hp, shiftI_succ]
        · exact ⟨[], rfl, rfl, rfl, rfl, ⟨.same _ rfl, (.same _ hw), .same _ rfl, .same _ rfl, trivial⟩, trivial⟩
    · simp (maxSteps := 4000000) (disch := omega) only [EW, Nat.reduceBEq, reduceIte, Nat.reduceAdd, Nat.reduceLeDiff, Nat.reduceLT, Nat.reduceSub, Nat.reduceMul, reduceCtorEq, Int.reduceNeg, Int.reduceSub, Int.reduceAdd, Int.reduceLE, Int.reduceLT, Int.reduceMul, Int.reduceToNat, Int.reduceEq, Int.reduceBEq, Int.reduceBNe, Nat.reduceEqDiff]
      refine hE _ _ ?_
      rw [hI, List.drop_eq_nil_of_le hge]
      simp (maxSteps := 4000000) (disch := omega) only [EW, Nat.reduceBEq, reduceIte, Nat.reduceAdd, Nat.reduceLeDiff, Nat.reduceLT, Nat.reduceSub, Nat.reduceMul, reduceCtorEq, Int.reduceNeg, Int.reduceSub, Int.reduceAdd, Int.reduceLE, Int.reduceLT, Int.reduceMul, Int.reduceToNat, Int.reduceEq, Int.reduceBEq, Int.reduceBNe, Nat.reduceEqDiff]
      exact fin rfl

theorem patch_contains {α : Type} (ls : List α) (g : α → List V) (f : FuncId) (caps : List V) (p : α → Bool) (hw : wfV 0 (.fn f [] caps) = true) (hcl : lendL [] caps = some caps) (hgl : ∀ r ∈ ls, lendL [] (g r) = some (g r)) (hsz : ∀ r ∈ ls, (g r).length = 16) (hl : ls.length ≤ 1000000000000) (h : ∀ r ∈ ls, VFn Try.prog f ([.agg (g r)] ++ caps) (.bool (p r))) :
    VFn Try.prog 77 [.sl 16 (ls.map g), .fn f [] caps] (.bool (ls.any p)) := by
  refine VFn.intro ok77 (Nat.le_of_ble_eq_true rfl) (vk_start ?_)
  simp (maxSteps := 4000000) (disch := omega) only [EW, Nat.reduceBEq, reduceIte, Nat.reduceAdd, Nat.reduceLeDiff, Nat.reduceLT, Nat.reduceSub, Nat.reduceMul, reduceCtorEq, Int.reduceNeg, Int.reduceSub, Int.reduceAdd, Int.reduceLE, Int.reduceLT, Int.reduceMul, Int.reduceToNat, Int.reduceEq, Int.reduceBEq, Int.reduceBNe, Nat.reduceEqDiff, vc77, rs77]
  refine vk_callR rfl ⟨_, .inl (lend_slfn hcl), patch_index ls g f caps p hw hcl hgl hsz hl h⟩ ?_
  simp (maxSteps := 4000000) (disch := omega) only [EW, Nat.reduceBEq, reduceIte, Nat.reduceAdd, Nat.reduceLeDiff, Nat.reduceLT, Nat.reduceSub, Nat.reduceMul, reduceCtorEq, Int.reduceNeg, Int.reduceSub, Int.reduceAdd, Int.reduceLE, Int.reduceLT, Int.reduceMul, Int.reduceToNat, Int.reduceEq, Int.reduceBEq, Int.reduceBNe, Nat.reduceEqDiff]
  rw [← idxP_any]
  exact fin rfl

theorem beqL (a b : List UInt8) : (a == b) = decide (a = b) := by
  by_cases h : a = b
  · subst h; simp
  · simp [h]

theorem sq_attr (p : Pat) : VFn Try.prog 118 [.agg (pCells p)] (.bool (isAttrB p)) := by
  refine VFn.intro ok118 (Nat.le_of_ble_eq_true rfl) (vk_start ?_)
  by_cases h : p.op = 4
  · simp (maxSteps := 4000000) (disch := omega) only [EW, Nat.reduceBEq, reduceIte, Nat.reduceAdd, Nat.reduceLeDiff, Nat.reduceLT, Nat.reduceSub, Nat.reduceMul, reduceCtorEq, Int.reduceNeg, Int.reduceSub, Int.reduceAdd, Int.reduceLE, Int.reduceLT, Int.reduceMul, Int.reduceToNat, Int.reduceEq, Int.reduceBEq, Int.reduceBNe, Nat.reduceEqDiff, vc118, rs118, PCp]
    have e : isAttrB p = true := by simp [isAttrB, h]
    rw [e]; exact fin rfl
  · by_cases h2 : p.op = 5
    · simp (maxSteps := 4000000) (disch := omega) only [EW, Nat.reduceBEq, reduceIte, Nat.reduceAdd, Nat.reduceLeDiff, Nat.reduceLT, Nat.reduceSub, Nat.reduceMul, reduceCtorEq, Int.reduceNeg, Int.reduceSub, Int.reduceAdd, Int.reduceLE, Int.reduceLT, Int.reduceMul, Int.reduceToNat, Int.reduceEq, Int.reduceBEq, Int.reduceBNe, Nat.reduceEqDiff, vc118, rs118, PCp]
      have e : isAttrB p = true := by simp [isAttrB, h2]
      rw [e]; exact fin rfl
    · simp (maxSteps := 4000000) (disch := omega) only [EW, Nat.reduceBEq, reduceIte, Nat.reduceAdd, Nat.reduceLeDiff, Nat.reduceLT, Nat.reduceSub, Nat.reduceMul, reduceCtorEq, Int.reduceNeg, Int.reduceSub, Int.reduceAdd, Int.reduceLE, Int.reduceLT, Int.reduceMul, Int.reduceToNat, Int.reduceEq, Int.reduceBEq, Int.reduceBNe, Nat.reduceEqDiff, vc118, rs118, PCp]
      have e : isAttrB p = false := by simp [isAttrB, h, h2]
      rw [e]; exact fin rfl

theorem sq_over (p q : Pat) : VFn Try.prog 79 [.agg (pCells p), .agg (pCells q)] (.bool (overB p q)) := by
  refine VFn.intro ok79 (Nat.le_of_ble_eq_true rfl) (vk_start ?_)
  have ha := sq_attr p
  have hb := sq_attr q
  unfold overB
  by_cases h : q.node ≠ p.node ∨ p.op < 4 ∨ 7 < p.op
  · rw [if_pos h]
    by_cases h1 : q.node = p.node
    · by_cases h2 : p.op < 4
      · simp (maxSteps := 4000000) (disch := omega) only [EW, Nat.reduceBEq, reduceIte, Nat.reduceAdd, Nat.reduceLeDiff, Nat.reduceLT, Nat.reduceSub, Nat.reduceMul, reduceCtorEq, Int.reduceNeg, Int.reduceSub, Int.reduceAdd, Int.reduceLE, Int.reduceLT, Int.reduceMul, Int.reduceToNat, Int.reduceEq, Int.reduceBEq, Int.reduceBNe, Nat.reduceEqDiff, vc79, rs79, PCp]
        exact fin rfl
      · simp (maxSteps := 4000000) (disch := omega) only [EW, Nat.reduceBEq, reduceIte, Nat.reduceAdd, Nat.reduceLeDiff, Nat.reduceLT, Nat.reduceSub, Nat.reduceMul, reduceCtorEq, Int.reduceNeg, Int.reduceSub, Int.reduceAdd, Int.reduceLE, Int.reduceLT, Int.reduceMul, Int.reduceToNat, Int.reduceEq, Int.reduceBEq, Int.reduceBNe, Nat.reduceEqDiff, vc79, rs79, PCp]
        exact fin rfl
    · simp (maxSteps := 4000000) (disch := omega) only [EW, Nat.reduceBEq, reduceIte, Nat.reduceAdd, Nat.reduceLeDiff, Nat.reduceLT, Nat.reduceSub, Nat.reduceMul, reduceCtorEq, Int.reduceNeg, Int.reduceSub, Int.reduceAdd, Int.reduceLE, Int.reduceLT, Int.reduceMul, Int.reduceToNat, Int.reduceEq, Int.reduceBEq, Int.reduceBNe, Nat.reduceEqDiff, vc79, rs79, PCp]
      exact fin rfl
  · rw [if_neg h]
    have h1 : q.node = p.node := by omega
    by_cases h2 : q.op = 2
    · rw [if_pos h2]
      simp (maxSteps := 4000000) (disch := omega) only [EW, Nat.reduceBEq, reduceIte, Nat.reduceAdd, Nat.reduceLeDiff, Nat.reduceLT, Nat.reduceSub, Nat.reduceMul, reduceCtorEq, Int.reduceNeg, Int.reduceSub, Int.reduceAdd, Int.reduceLE, Int.reduceLT, Int.reduceMul, Int.reduceToNat, Int.reduceEq, Int.reduceBEq, Int.reduceBNe, Nat.reduceEqDiff, vc79, rs79, PCp]
      exact fin rfl
    · rw [if_neg h2]
      cases hA : isAttrB p with
      | true =>
        rw [hA] at ha
        rw [if_pos rfl]
        simp (maxSteps := 4000000) (disch := omega) only [EW, Nat.reduceBEq, reduceIte, Nat.reduceAdd, Nat.reduceLeDiff, Nat.reduceLT, Nat.reduceSub, Nat.reduceMul, reduceCtorEq, Int.reduceNeg, Int.reduceSub, Int.reduceAdd, Int.reduceLE, Int.reduceLT, Int.reduceMul, Int.reduceToNat, Int.reduceEq, Int.reduceBEq, Int.reduceBNe, Nat.reduceEqDiff, vc79, rs79, PCp]
        (refine vk_callR rfl ⟨_, .inl rfl, ha⟩ ?_; simp (maxSteps := 4000000) (disch := omega) only [EW, Nat.reduceBEq, reduceIte, Nat.reduceAdd, Nat.reduceLeDiff, Nat.reduceLT, Nat.reduceSub, Nat.reduceMul, reduceCtorEq, Int.reduceNeg, Int.reduceSub, Int.reduceAdd, Int.reduceLE, Int.reduceLT, Int.reduceMul, Int.reduceToNat, Int.reduceEq, Int.reduceBEq, Int.reduceBNe, Nat.reduceEqDiff, PCp])
        cases hB : isAttrB q with
        | true =>
          rw [hB] at hb
          (refine vk_callR rfl ⟨_, .inl rfl, hb⟩ ?_; simp (maxSteps := 4000000) (disch := omega) only [EW, Nat.reduceBEq, reduceIte, Nat.reduceAdd, Nat.reduceLeDiff, Nat.reduceLT, Nat.reduceSub, Nat.reduceMul, reduceCtorEq, Int.reduceNeg, Int.reduceSub, Int.reduceAdd, Int.reduceLE, Int.reduceLT, Int.reduceMul, Int.reduceToNat, Int.reduceEq, Int.reduceBEq, Int.reduceBNe, Nat.reduceEqDiff, PCp])
          rw [← beqL]
          exact fin rfl
        | false =>
          rw [hB] at hb
          (refine vk_callR rfl ⟨_, .inl rfl, hb⟩ ?_; simp (maxSteps := 4000000) (disch := omega) only [EW, Nat.reduceBEq, reduceIte, Nat.reduceAdd, Nat.reduceLeDiff, Nat.reduceLT, Nat.reduceSub, Nat.reduceMul, reduceCtorEq, Int.reduceNeg, Int.reduceSub, Int.reduceAdd, Int.reduceLE, Int.reduceLT, Int.reduceMul, Int.reduceToNat, Int.reduceEq, Int.reduceBEq, Int.reduceBNe, Nat.reduceEqDiff, PCp])
          exact fin rfl
      | false =>
        rw [hA] at ha
        rw [if_neg (by simp)]
        simp (maxSteps := 4000000) (disch := omega) only [EW, Nat.reduceBEq, reduceIte, Nat.reduceAdd, Nat.reduceLeDiff, Nat.reduceLT, Nat.reduceSub, Nat.reduceMul, reduceCtorEq, Int.reduceNeg, Int.reduceSub, Int.reduceAdd, Int.reduceLE, Int.reduceLT, Int.reduceMul, Int.reduceToNat, Int.reduceEq, Int.reduceBEq, Int.reduceBNe, Nat.reduceEqDiff, vc79, rs79, PCp]
        by_cases h5 : q.op = p.op
        · (refine vk_callR rfl ⟨_, .inl rfl, ha⟩ ?_; simp (maxSteps := 4000000) (disch := omega) only [EW, Nat.reduceBEq, reduceIte, Nat.reduceAdd, Nat.reduceLeDiff, Nat.reduceLT, Nat.reduceSub, Nat.reduceMul, reduceCtorEq, Int.reduceNeg, Int.reduceSub, Int.reduceAdd, Int.reduceLE, Int.reduceLT, Int.reduceMul, Int.reduceToNat, Int.reduceEq, Int.reduceBEq, Int.reduceBNe, Nat.reduceEqDiff, PCp])
          exact fin rfl
        · (refine vk_callR rfl ⟨_, .inl rfl, ha⟩ ?_; simp (maxSteps := 4000000) (disch := omega) only [EW, Nat.reduceBEq, reduceIte, Nat.reduceAdd, Nat.reduceLeDiff, Nat.reduceLT, Nat.reduceSub, Nat.reduceMul, reduceCtorEq, Int.reduceNeg, Int.reduceSub, Int.reduceAdd, Int.reduceLE, Int.reduceLT, Int.reduceMul, Int.reduceToNat, Int.reduceEq, Int.reduceBEq, Int.reduceBNe, Nat.reduceEqDiff, PCp])
          exact fin rfl

theorem sq_idle1 (p q : Pat) : VFn Try.prog 78 [.agg (pCells q), .iptr (pCells p)] (.bool (overB p q)) := by
  refine VFn.intro ok78 (Nat.le_of_ble_eq_true rfl) (vk_start ?_)
  have h := sq_over p q
  simp (maxSteps := 4000000) (disch := omega) only [EW, Nat.reduceBEq, reduceIte, Nat.reduceAdd, Nat.reduceLeDiff, Nat.reduceLT, Nat.reduceSub, Nat.reduceMul, reduceCtorEq, Int.reduceNeg, Int.reduceSub, Int.reduceAdd, Int.reduceLE, Int.reduceLT, Int.reduceMul, Int.reduceToNat, Int.reduceEq, Int.reduceBEq, Int.reduceBNe, Nat.reduceEqDiff, vc78, rs78, PCp]
  (refine vk_callR rfl ⟨_, .inl rfl, h⟩ ?_; simp (maxSteps := 4000000) (disch := omega) only [EW, Nat.reduceBEq, reduceIte, Nat.reduceAdd, Nat.reduceLeDiff, Nat.reduceLT, Nat.reduceSub, Nat.reduceMul, reduceCtorEq, Int.reduceNeg, Int.reduceSub, Int.reduceAdd, Int.reduceLE, Int.reduceLT, Int.reduceMul, Int.reduceToNat, Int.reduceEq, Int.reduceBEq, Int.reduceBNe, Nat.reduceEqDiff])
  exact fin rfl

theorem sq_again (p : Pat) (ps : List Pat) (hl : ps.length ≤ 1000000000000) : VFn Try.prog 76 [.agg (pCells p), .sl 16 (pRows ps)] (.bool (againB p ps)) := by
  refine VFn.intro ok76 (Nat.le_of_ble_eq_true rfl) (vk_start ?_)
  have hpl := pRows_length ps
  simp (maxSteps := 4000000) (disch := omega) only [EW, Nat.reduceBEq, reduceIte, Nat.reduceAdd, Nat.reduceLeDiff, Nat.reduceLT, Nat.reduceSub, Nat.reduceMul, reduceCtorEq, Int.reduceNeg, Int.reduceSub, Int.reduceAdd, Int.reduceLE, Int.reduceLT, Int.reduceMul, Int.reduceToNat, Int.reduceEq, Int.reduceBEq, Int.reduceBNe, Nat.reduceEqDiff, vc76, rs76, PCp]
  refine vk_loopR (γ := Nat) (fun i => { tm := [(2, .ptr 0 0), (7, .sl 16 (pRows ps)), (8, .int .i64 ps.length), (9, .int .i64 i)], ob := [some (.box (pCells p))], base := 0 })
    (fun i => i ≤ ps.length ∧ againB p ps = againB p (ps.drop i)) (fun i => ps.length - i) 0 ⟨Nat.zero_le _, rfl⟩ ?_ ?_
  · exact ⟨[some 0], rfl, rfl, rfl, rfl, ⟨.ptr rfl, .same _ rfl, (.of_eq (by rw [← hpl]; rfl) rfl), .same _ rfl, trivial⟩, ⟨⟨_, rfl, .box (SubML.same _ rfl)⟩, trivial⟩⟩
  · rintro i ⟨hi, hI⟩ R hN hE hR
    rcases Nat.lt_or_ge i ps.length with hlt | hge
    · obtain ⟨x, hx⟩ : ∃ x, ps[i]? = some x := ⟨_, List.getElem?_eq_getElem hlt⟩
      have hr : (pRows ps)[i]? = some (pCells x) := by rw [pRows_get, hx]; rfl
      rw [drop_at' hx] at hI
      by_cases h : x.op ≤ 3
      · have e : againB p (x :: ps.drop (i + 1)) = decide (x.op = 3 ∧ x.node = p.node) := if_pos h
        rw [e] at hI
        by_cases h3 : x.op = 3
        · by_cases hn : x.node = p.node
          · rw [decide_eq_true ⟨h3, hn⟩] at hI
            simp (maxSteps := 4000000) (disch := omega) only [EW, Nat.reduceBEq, reduceIte, Nat.reduceAdd, Nat.reduceLeDiff, Nat.reduceLT, Nat.reduceSub, Nat.reduceMul, reduceCtorEq, Int.reduceNeg, Int.reduceSub, Int.reduceAdd, Int.reduceLE, Int.reduceLT, Int.reduceMul, Int.reduceToNat, Int.reduceEq, Int.reduceBEq, Int.reduceBNe, Nat.reduceEqDiff, hr, PCp]
            refine hR _ ?_
            simp (maxSteps := 4000000) (disch := omega) only [EW, Nat.reduceBEq, reduceIte, Nat.reduceAdd, Nat.reduceLeDiff, Nat.reduceLT, Nat.reduceSub, Nat.reduceMul, reduceCtorEq, Int.reduceNeg, Int.reduceSub, Int.reduceAdd, Int.reduceLE, Int.reduceLT, Int.reduceMul, Int.reduceToNat, Int.reduceEq, Int.reduceBEq, Int.reduceBNe, Nat.reduceEqDiff, hI]
            exact fin rfl
          · rw [decide_eq_false (fun q => hn q.2)] at hI
            simp (maxSteps := 4000000) (disch := omega) only [EW, Nat.reduceBEq, reduceIte, Nat.reduceAdd, Nat.reduceLeDiff, Nat.reduceLT, Nat.reduceSub, Nat.reduceMul, reduceCtorEq, Int.reduceNeg, Int.reduceSub, Int.reduceAdd, Int.reduceLE, Int.reduceLT, Int.reduceMul, Int.reduceToNat, Int.reduceEq, Int.reduceBEq, Int.reduceBNe, Nat.reduceEqDiff, hr, PCp]
            refine hR _ ?_
            simp (maxSteps := 4000000) (disch := omega) only [EW, Nat.reduceBEq, reduceIte, Nat.reduceAdd, Nat.reduceLeDiff, Nat.reduceLT, Nat.reduceSub, Nat.reduceMul, reduceCtorEq, Int.reduceNeg, Int.reduceSub, Int.reduceAdd, Int.reduceLE, Int.reduceLT, Int.reduceMul, Int.reduceToNat, Int.reduceEq, Int.reduceBEq, Int.reduceBNe, Nat.reduceEqDiff, hI]
            exact fin rfl
        · rw [decide_eq_false (fun q => h3 q.1)] at hI
          simp (maxSteps := 4000000) (disch := omega) only [EW, Nat.reduceBEq, reduceIte, Nat.reduceAdd, Nat.reduceLeDiff, Nat.reduceLT, Nat.reduceSub, Nat.reduceMul, reduceCtorEq, Int.reduceNeg, Int.reduceSub, Int.reduceAdd, Int.reduceLE, Int.reduceLT, Int.reduceMul, Int.reduceToNat, Int.reduceEq, Int.reduceBEq, Int.reduceBNe, Nat.reduceEqDiff, hr, PCp]
          refine hR _ ?_
          simp (maxSteps := 4000000) (disch := omega) only [EW, Nat.reduceBEq, reduceIte, Nat.reduceAdd, Nat.reduceLeDiff, Nat.reduceLT, Nat.reduceSub, Nat.reduceMul, reduceCtorEq, Int.reduceNeg, Int.reduceSub, Int.reduceAdd, Int.reduceLE, Int.reduceLT, Int.reduceMul, Int.reduceToNat, Int.reduceEq, Int.reduceBEq, Int.reduceBNe, Nat.reduceEqDiff, hI]
          exact fin rfl
      · have e : againB p (x :: ps.drop (i + 1)) = againB p (ps.drop (i + 1)) := if_neg h
        rw [e] at hI
        simp (maxSteps := 4000000) (disch := omega) only [EW, Nat.reduceBEq, reduceIte, Nat.reduceAdd, Nat.reduceLeDiff, Nat.reduceLT, Nat.reduceSub, Nat.reduceMul, reduceCtorEq, Int.reduceNeg, Int.reduceSub, Int.reduceAdd, Int.reduceLE, Int.reduceLT, Int.reduceMul, Int.reduceToNat, Int.reduceEq, Int.reduceBEq, Int.reduceBNe, Nat.reduceEqDiff, hr, PCp]
        refine hN _ (i + 1) ⟨hlt, hI⟩ (by omega) ?_
        exact ⟨[some 0], rfl, rfl, rfl, rfl, ⟨.ptr rfl, .same _ rfl, .same _ rfl, .same _ rfl, trivial⟩, ⟨⟨_, rfl, .box (SubML.same _ rfl)⟩, trivial⟩⟩
    · rw [List.drop_eq_nil_of_le hge] at hI
      simp (maxSteps := 4000000) (disch := omega) only [EW, Nat.reduceBEq, reduceIte, Nat.reduceAdd, Nat.reduceLeDiff, Nat.reduceLT, Nat.reduceSub, Nat.reduceMul, reduceCtorEq, Int.reduceNeg, Int.reduceSub, Int.reduceAdd, Int.reduceLE, Int.reduceLT, Int.reduceMul, Int.reduceToNat, Int.reduceEq, Int.reduceBEq, Int.reduceBNe, Nat.reduceEqDiff]
      refine hE _ _ ?_
      simp (maxSteps := 4000000) (disch := omega) only [EW, Nat.reduceBEq, reduceIte, Nat.reduceAdd, Nat.reduceLeDiff, Nat.reduceLT, Nat.reduceSub, Nat.reduceMul, reduceCtorEq, Int.reduceNeg, Int.reduceSub, Int.reduceAdd, Int.reduceLE, Int.reduceLT, Int.reduceMul, Int.reduceToNat, Int.reduceEq, Int.reduceBEq, Int.reduceBNe, Nat.reduceEqDiff, hI]
      exact fin rfl

theorem pRows_drop (ps : List Pat) (n : Nat) : (pRows ps).drop n = pRows (ps.drop n) := by simp [pRows]

theorem sq_idle (ps : List Pat) (i : Int) (hl : ps.length ≤ 1000000000000) : VFn Try.prog 25 [.sl 16 (pRows ps), .int .i64 i] (.bool (idleI ps i)) := by
  refine VFn.intro ok25 (Nat.le_of_ble_eq_true rfl) (vk_start ?_)
  have hpl := pRows_length ps
  have htk : List.take ps.length (pRows ps) = pRows ps := List.take_of_length_le (by omega)
  by_cases h0 : 0 ≤ i
  · obtain ⟨n, rfl⟩ : ∃ n : Nat, i = n := ⟨i.toNat, by omega⟩
    have e : idleI ps n = idleB ps n := by unfold idleI; rw [if_pos h0]; rfl
    rw [e]
    rcases Nat.lt_or_ge n ps.length with hlt | hge
    · obtain ⟨x, hx⟩ : ∃ x, ps[n]? = some x := ⟨_, List.getElem?_eq_getElem hlt⟩
      have hr : (pRows ps)[n]? = some (pCells x) := by rw [pRows_get, hx]; rfl
      have hd : (ps.drop (n + 1)).length ≤ 1000000000000 := by rw [List.length_drop]; omega
      unfold idleB
      rw [hx]
      simp only []
      by_cases h3 : x.op = 3
      · have hg := sq_again x _ hd
        rw [if_pos h3]
        simp (maxSteps := 4000000) (disch := omega) only [EW, Nat.reduceBEq, reduceIte, Nat.reduceAdd, Nat.reduceLeDiff, Nat.reduceLT, Nat.reduceSub, Nat.reduceMul, reduceCtorEq, Int.reduceNeg, Int.reduceSub, Int.reduceAdd, Int.reduceLE, Int.reduceLT, Int.reduceMul, Int.reduceToNat, Int.reduceEq, Int.reduceBEq, Int.reduceBNe, Nat.reduceEqDiff, vc25, rs25, hr, PCp, hpl, htk, pRows_drop]
        (refine vk_callR rfl ⟨_, .inl rfl, hg⟩ ?_; simp (maxSteps := 4000000) (disch := omega) only [EW, Nat.reduceBEq, reduceIte, Nat.reduceAdd, Nat.reduceLeDiff, Nat.reduceLT, Nat.reduceSub, Nat.reduceMul, reduceCtorEq, Int.reduceNeg, Int.reduceSub, Int.reduceAdd, Int.reduceLE, Int.reduceLT, Int.reduceMul, Int.reduceToNat, Int.reduceEq, Int.reduceBEq, Int.reduceBNe, Nat.reduceEqDiff])
        exact fin rfl
      · have hg := patch_contains (ps.drop (n + 1)) pCells 78 [.iptr (pCells x)] (overB x) rfl rfl (fun r _ => rfl) (fun r _ => rfl) hd (fun r _ => sq_idle1 x r)
        rw [if_neg h3]
        simp (maxSteps := 4000000) (disch := omega) only [EW, Nat.reduceBEq, reduceIte, Nat.reduceAdd, Nat.reduceLeDiff, Nat.reduceLT, Nat.reduceSub, Nat.reduceMul, reduceCtorEq, Int.reduceNeg, Int.reduceSub, Int.reduceAdd, Int.reduceLE, Int.reduceLT, Int.reduceMul, Int.reduceToNat, Int.reduceEq, Int.reduceBEq, Int.reduceBNe, Nat.reduceEqDiff, vc25, rs25, hr, PCp, hpl, htk, pRows_drop]
        refine vk_callR rfl ⟨_, .inr ⟨rfl, rfl⟩, hg⟩ ?_
        simp (maxSteps := 4000000) (disch := omega) only [EW, Nat.reduceBEq, reduceIte, Nat.reduceAdd, Nat.reduceLeDiff, Nat.reduceLT, Nat.reduceSub, Nat.reduceMul, reduceCtorEq, Int.reduceNeg, Int.reduceSub, Int.reduceAdd, Int.reduceLE, Int.reduceLT, Int.reduceMul, Int.reduceToNat, Int.reduceEq, Int.reduceBEq, Int.reduceBNe, Nat.reduceEqDiff]
        exact fin rfl
    · unfold idleB
      rw [List.getElem?_eq_none hge]
      simp (maxSteps := 4000000) (disch := omega) only [EW, Nat.reduceBEq, reduceIte, Nat.reduceAdd, Nat.reduceLeDiff, Nat.reduceLT, Nat.reduceSub, Nat.reduceMul, reduceCtorEq, Int.reduceNeg, Int.reduceSub, Int.reduceAdd, Int.reduceLE, Int.reduceLT, Int.reduceMul, Int.reduceToNat, Int.reduceEq, Int.reduceBEq, Int.reduceBNe, Nat.reduceEqDiff, vc25, rs25, hpl]
      exact fin rfl
  · have e : idleI ps i = false := by unfold idleI; rw [if_neg h0]
    rw [e]
    simp (maxSteps := 4000000) (disch := omega) only [EW, Nat.reduceBEq, reduceIte, Nat.reduceAdd, Nat.reduceLeDiff, Nat.reduceLT, Nat.reduceSub, Nat.reduceMul, reduceCtorEq, Int.reduceNeg, Int.reduceSub, Int.reduceAdd, Int.reduceLE, Int.reduceLT, Int.reduceMul, Int.reduceToNat, Int.reduceEq, Int.reduceBEq, Int.reduceBNe, Nat.reduceEqDiff, vc25, rs25, hpl]
    exact fin rfl
end Go.Proofs.VL

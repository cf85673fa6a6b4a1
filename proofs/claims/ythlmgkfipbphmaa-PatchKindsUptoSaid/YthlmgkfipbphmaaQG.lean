/- Contracts of functions of the program, for what calls them, and the law that its name tells. -/
import Derived.Test.YthlmgkfipbphmaaQF
import Derived.Test.YthlmgkfipbphmaaCglazierlaw24
namespace Go.Proofs.VL
open Go Go.RowKit
set_option maxRecDepth 100000
set_option maxHeartbeats 8000000
set_option linter.unusedSimpArgs false
set_option linter.unusedVariables false
attribute [local irreducible] vwp vk

def opOk (p : Pat) : Bool := decide (1 ≤ p.op ∧ p.op ≤ 7)
def wantI (b : Bool) : Int := if b = true then 0 else 12
theorem patch_chk (ps : List Pat) (hl : ps.length ≤ 100000000) : VFn Try.prog 28 [.sl 16 (pRows ps)] (.int .i64 (wantI (ps.all opOk))) := by
  refine VFn.intro ok28 (Nat.le_of_ble_eq_true rfl) (vk_start ?_)
  have hpl := pRows_length ps
  obtain ⟨z, hz⟩ : ∃ z : Int, z = wantI (ps.all opOk) := ⟨_, rfl⟩
  rw [← hz]
  simp (maxSteps := 4000000) (disch := omega) only [EW, Nat.reduceBEq, reduceIte, Nat.reduceAdd, Nat.reduceLeDiff, Nat.reduceLT, Nat.reduceSub, Nat.reduceMul, reduceCtorEq, Int.reduceNeg, Int.reduceSub, Int.reduceAdd, Int.reduceLE, Int.reduceLT, Int.reduceMul, Int.reduceToNat, Int.reduceEq, Int.reduceBEq, Int.reduceBNe, Nat.reduceEqDiff, vc28, rs28, hpl]
  refine vk_loopR (γ := Nat) (fun i => { tm := [(5, .sl 16 (pRows ps)), (6, .int .i64 ps.length), (7, .int .i64 i)], ob := [], base := 0 })
    (fun i => i ≤ ps.length ∧ z = wantI ((ps.drop i).all opOk)) (fun i => ps.length - i) 0 ⟨Nat.zero_le _, hz⟩ ?_ ?_
  · exact ⟨[], rfl, rfl, rfl, rfl, ⟨.same _ rfl, .same _ rfl, .same _ rfl, trivial⟩, trivial⟩
  · rintro i ⟨hi, hI⟩ R hN hE hR
    rcases Nat.lt_or_ge i ps.length with hlt | hge
    · obtain ⟨x, hx⟩ : ∃ x, ps[i]? = some x := ⟨_, List.getElem?_eq_getElem hlt⟩
      have hr : (pRows ps)[i]? = some (pCells x) := by rw [pRows_get, hx]; rfl
      rw [drop_at' hx, List.all_cons] at hI
      by_cases h1 : x.op < 1
      · have e : opOk x = false := decide_eq_false (by omega)
        rw [e, Bool.false_and] at hI
        have hI2 : z = 12 := hI
        simp (maxSteps := 4000000) (disch := omega) only [EW, Nat.reduceBEq, reduceIte, Nat.reduceAdd, Nat.reduceLeDiff, Nat.reduceLT, Nat.reduceSub, Nat.reduceMul, reduceCtorEq, Int.reduceNeg, Int.reduceSub, Int.reduceAdd, Int.reduceLE, Int.reduceLT, Int.reduceMul, Int.reduceToNat, Int.reduceEq, Int.reduceBEq, Int.reduceBNe, Nat.reduceEqDiff, hr, PCp]
        refine hR _ ?_
        simp (maxSteps := 4000000) (disch := omega) only [EW, Nat.reduceBEq, reduceIte, Nat.reduceAdd, Nat.reduceLeDiff, Nat.reduceLT, Nat.reduceSub, Nat.reduceMul, reduceCtorEq, Int.reduceNeg, Int.reduceSub, Int.reduceAdd, Int.reduceLE, Int.reduceLT, Int.reduceMul, Int.reduceToNat, Int.reduceEq, Int.reduceBEq, Int.reduceBNe, Nat.reduceEqDiff, hI2]
        exact fin rfl
      · by_cases h2 : 7 < x.op
        · have e : opOk x = false := decide_eq_false (by omega)
          rw [e, Bool.false_and] at hI
          have hI2 : z = 12 := hI
          simp (maxSteps := 4000000) (disch := omega) only [EW, Nat.reduceBEq, reduceIte, Nat.reduceAdd, Nat.reduceLeDiff, Nat.reduceLT, Nat.reduceSub, Nat.reduceMul, reduceCtorEq, Int.reduceNeg, Int.reduceSub, Int.reduceAdd, Int.reduceLE, Int.reduceLT, Int.reduceMul, Int.reduceToNat, Int.reduceEq, Int.reduceBEq, Int.reduceBNe, Nat.reduceEqDiff, hr, PCp]
          refine hR _ ?_
          simp (maxSteps := 4000000) (disch := omega) only [EW, Nat.reduceBEq, reduceIte, Nat.reduceAdd, Nat.reduceLeDiff, Nat.reduceLT, Nat.reduceSub, Nat.reduceMul, reduceCtorEq, Int.reduceNeg, Int.reduceSub, Int.reduceAdd, Int.reduceLE, Int.reduceLT, Int.reduceMul, Int.reduceToNat, Int.reduceEq, Int.reduceBEq, Int.reduceBNe, Nat.reduceEqDiff, hI2]
          exact fin rfl
        · have e : opOk x = true := decide_eq_true (by omega)
          rw [e, Bool.true_and] at hI
          simp (maxSteps := 4000000) (disch := omega) only [EW, Nat.reduceBEq, reduceIte, Nat.reduceAdd, Nat.reduceLeDiff, Nat.reduceLT, Nat.reduceSub, Nat.reduceMul, reduceCtorEq, Int.reduceNeg, Int.reduceSub, Int.reduceAdd, Int.reduceLE, Int.reduceLT, Int.reduceMul, Int.reduceToNat, Int.reduceEq, Int.reduceBEq, Int.reduceBNe, Nat.reduceEqDiff, hr, PCp]
          refine hN _ (i + 1) ⟨hlt, hI⟩ (by omega) ?_
          exact ⟨[], rfl, rfl, rfl, rfl, ⟨.same _ rfl, .same _ rfl, .same _ rfl, trivial⟩, trivial⟩
    · rw [List.drop_eq_nil_of_le hge] at hI
      have hI2 : z = 0 := hI
      simp (maxSteps := 4000000) (disch := omega) only [EW, Nat.reduceBEq, reduceIte, Nat.reduceAdd, Nat.reduceLeDiff, Nat.reduceLT, Nat.reduceSub, Nat.reduceMul, reduceCtorEq, Int.reduceNeg, Int.reduceSub, Int.reduceAdd, Int.reduceLE, Int.reduceLT, Int.reduceMul, Int.reduceToNat, Int.reduceEq, Int.reduceBEq, Int.reduceBNe, Nat.reduceEqDiff]
      refine hE _ _ ?_
      simp (maxSteps := 4000000) (disch := omega) only [EW, Nat.reduceBEq, reduceIte, Nat.reduceAdd, Nat.reduceLeDiff, Nat.reduceLT, Nat.reduceSub, Nat.reduceMul, reduceCtorEq, Int.reduceNeg, Int.reduceSub, Int.reduceAdd, Int.reduceLE, Int.reduceLT, Int.reduceMul, Int.reduceToNat, Int.reduceEq, Int.reduceBEq, Int.reduceBNe, Nat.reduceEqDiff, hI2]
      exact fin rfl
theorem alive24 : VFn Try.prog 25 [] (.bool true) := runFT_sound tabP_ok 1000 60 (by kernel_rfl)
theorem apply_none (rows : List (List V)) : VFn Try.prog 26 [.nilp, .sl 16 rows] (.tup [.nilp, .int .i64 9]) := runFV_sound tabP_ok 1000 60 (by kernel_rfl)
theorem new_at (B : List (Option VObj)) : VCall Try.prog 11 [] B (.ptr B.length 0) (B ++ [some (.box (aCells (B.length + 1) newA)), some (.map (mV newA.es) newA.clock)]) := by
  have := VCall.app a_new B rfl rfl rfl
  simpa [renV, renL, renO, aOb, aCells] using this
theorem one_at {p : Pat} {r : Int} (h : oneR p r) (c : List V) : VCall Try.prog 27 [.ptr 1 0, .agg (pCells p)] [some (.box c), some (.box (aCells 2 newA)), some (.map (mV newA.es) newA.clock)] (.int .i64 r) [some (.box c), none, none] := by
  have hw : wfL 0 (pCells p) = true := rfl
  have hf := VCall.frame h [1, 2] [some (.box c), some (.box (aCells 2 newA)), some (.map (mV newA.es) newA.clock)] ⟨rfl, by decide, fun i j hj => by
    match i, hj with
    | 0, hj => simp at hj; subst hj; exact ⟨by simp, fun o' ho => by simp [aOb] at ho; subst ho; simp [renO, aCells, renL, renV, nameOf]⟩
    | 1, hj => simp at hj; subst hj; exact ⟨by simp, fun o' ho => by simp [aOb] at ho; subst ho; simp [renO]⟩
    | i + 2, hj => simp at hj⟩ rfl rfl rfl rfl (Nat.le_refl _)
  exact hf
theorem take_all {ps : List Pat} {i : Nat} {x : Pat} (h : ps[i]? = some x) : (ps.take (i + 1)).all opOk = ((ps.take i).all opOk && opOk x) := by
  rw [List.take_add_one, h, List.all_append]; simp
theorem patchKinds (ps : List Pat) (p : Pat) (b : Nat) (hb : b ≤ 2000000) (h3 : 3 ≤ b) (hl : ps.length ≤ 100000000) (ht : rawOk b p.tag) (ha : rawOk b p.name ∧ rawOk b p.value) (hh : p.hooks.length ≤ b) :
    VFn Try.prog 6 [.sl 16 (pRows ps), .agg (pCells p)] (.bool true) := by
  refine VFn.intro ok6 (Nat.le_of_ble_eq_true rfl) (vk_start ?_)
  have hpl := pRows_length ps
  have hck := patch_chk ps hl
  have hap := apply_none (pRows ps)
  have hq : ∃ r, oneR p r ∧ (r = 12 ∨ (1 ≤ p.op ∧ p.op ≤ 7)) := by
    by_cases ho : 1 ≤ p.op ∧ p.op ≤ 7
    · obtain ⟨r, hr⟩ := one_any p b hb h3 ho ht ha hh
      exact ⟨r, hr, .inr ho⟩
    · exact ⟨12, one_bad p (by omega), .inl rfl⟩
  obtain ⟨r, hr, hro⟩ := hq
  simp (maxSteps := 4000000) (disch := omega) only [EW, Nat.reduceBEq, reduceIte, Nat.reduceAdd, Nat.reduceLeDiff, Nat.reduceLT, Nat.reduceSub, Nat.reduceMul, reduceCtorEq, Int.reduceNeg, Int.reduceSub, Int.reduceAdd, Int.reduceLE, Int.reduceLT, Int.reduceMul, Int.reduceToNat, Int.reduceEq, Int.reduceBEq, Int.reduceBNe, Nat.reduceEqDiff, vc6, rs6]
  (refine vk_callR rfl ⟨_, .inl rfl, alive24⟩ ?_; simp (maxSteps := 4000000) (disch := omega) only [EW, Nat.reduceBEq, reduceIte, Nat.reduceAdd, Nat.reduceLeDiff, Nat.reduceLT, Nat.reduceSub, Nat.reduceMul, reduceCtorEq, Int.reduceNeg, Int.reduceSub, Int.reduceAdd, Int.reduceLE, Int.reduceLT, Int.reduceMul, Int.reduceToNat, Int.reduceEq, Int.reduceBEq, Int.reduceBNe, Nat.reduceEqDiff, hpl])
  refine vk_loopR (γ := Nat) (fun i => { tm := [(0, .sl 16 (pRows ps)), (3, .ptr 0 0), (5, .int .i64 (wantI ((ps.take i).all opOk))), (6, .int .i64 i)], ob := [some (.box (pCells p))], base := 0 })
    (fun i => i ≤ ps.length) (fun i => ps.length - i) 0 (Nat.zero_le _) ?_ ?_
  · exact ⟨[some 0], rfl, rfl, rfl, rfl, ⟨.same _ rfl, .ptr rfl, .same _ rfl, .same _ rfl, trivial⟩, ⟨⟨_, rfl, .box (SubML.same _ rfl)⟩, trivial⟩⟩
  · rintro i hi R hN hE hR
    rcases Nat.lt_or_ge i ps.length with hlt | hge
    · obtain ⟨x, hx⟩ : ∃ x, ps[i]? = some x := ⟨_, List.getElem?_eq_getElem hlt⟩
      have hrw : (pRows ps)[i]? = some (pCells x) := by rw [pRows_get, hx]; rfl
      have hta := take_all hx
      by_cases h1 : x.op < 1
      · have e : opOk x = false := decide_eq_false (by omega)
        rw [e, Bool.and_false] at hta
        simp (maxSteps := 4000000) (disch := omega) only [EW, Nat.reduceBEq, reduceIte, Nat.reduceAdd, Nat.reduceLeDiff, Nat.reduceLT, Nat.reduceSub, Nat.reduceMul, reduceCtorEq, Int.reduceNeg, Int.reduceSub, Int.reduceAdd, Int.reduceLE, Int.reduceLT, Int.reduceMul, Int.reduceToNat, Int.reduceEq, Int.reduceBEq, Int.reduceBNe, Nat.reduceEqDiff, hrw, PCp, hpl]
        refine hN _ (i + 1) hlt (by omega) ?_
        rw [hta]
        exact ⟨[some 0], rfl, rfl, rfl, rfl, ⟨.same _ rfl, .ptr rfl, .same _ rfl, .same _ rfl, trivial⟩, ⟨⟨_, rfl, .box (SubML.same _ rfl)⟩, trivial⟩⟩
      · by_cases h2 : 7 < x.op
        · have e : opOk x = false := decide_eq_false (by omega)
          rw [e, Bool.and_false] at hta
          simp (maxSteps := 4000000) (disch := omega) only [EW, Nat.reduceBEq, reduceIte, Nat.reduceAdd, Nat.reduceLeDiff, Nat.reduceLT, Nat.reduceSub, Nat.reduceMul, reduceCtorEq, Int.reduceNeg, Int.reduceSub, Int.reduceAdd, Int.reduceLE, Int.reduceLT, Int.reduceMul, Int.reduceToNat, Int.reduceEq, Int.reduceBEq, Int.reduceBNe, Nat.reduceEqDiff, hrw, PCp, hpl]
          refine hN _ (i + 1) hlt (by omega) ?_
          rw [hta]
          exact ⟨[some 0], rfl, rfl, rfl, rfl, ⟨.same _ rfl, .ptr rfl, .same _ rfl, .same _ rfl, trivial⟩, ⟨⟨_, rfl, .box (SubML.same _ rfl)⟩, trivial⟩⟩
        · have e : opOk x = true := decide_eq_true (by omega)
          rw [e, Bool.and_true] at hta
          simp (maxSteps := 4000000) (disch := omega) only [EW, Nat.reduceBEq, reduceIte, Nat.reduceAdd, Nat.reduceLeDiff, Nat.reduceLT, Nat.reduceSub, Nat.reduceMul, reduceCtorEq, Int.reduceNeg, Int.reduceSub, Int.reduceAdd, Int.reduceLE, Int.reduceLT, Int.reduceMul, Int.reduceToNat, Int.reduceEq, Int.reduceBEq, Int.reduceBNe, Nat.reduceEqDiff, hrw, PCp, hpl]
          refine hN _ (i + 1) hlt (by omega) ?_
          rw [hta]
          exact ⟨[some 0], rfl, rfl, rfl, rfl, ⟨.same _ rfl, .ptr rfl, .same _ rfl, .same _ rfl, trivial⟩, ⟨⟨_, rfl, .box (SubML.same _ rfl)⟩, trivial⟩⟩
    · have e : i = ps.length := by omega
      subst e
      rw [List.take_length]
      generalize wantI (ps.all opOk) = wnt at hck
      simp (maxSteps := 4000000) (disch := omega) only [EW, Nat.reduceBEq, reduceIte, Nat.reduceAdd, Nat.reduceLeDiff, Nat.reduceLT, Nat.reduceSub, Nat.reduceMul, reduceCtorEq, Int.reduceNeg, Int.reduceSub, Int.reduceAdd, Int.reduceLE, Int.reduceLT, Int.reduceMul, Int.reduceToNat, Int.reduceEq, Int.reduceBEq, Int.reduceBNe, Nat.reduceEqDiff, hpl]
      refine hE _ _ ?_
      simp (maxSteps := 4000000) (disch := omega) only [EW, Nat.reduceBEq, reduceIte, Nat.reduceAdd, Nat.reduceLeDiff, Nat.reduceLT, Nat.reduceSub, Nat.reduceMul, reduceCtorEq, Int.reduceNeg, Int.reduceSub, Int.reduceAdd, Int.reduceLE, Int.reduceLT, Int.reduceMul, Int.reduceToNat, Int.reduceEq, Int.reduceBEq, Int.reduceBNe, Nat.reduceEqDiff]
      (refine vk_callR rfl ⟨_, .inl rfl, hap⟩ ?_; simp (maxSteps := 4000000) (disch := omega) only [EW, Nat.reduceBEq, reduceIte, Nat.reduceAdd, Nat.reduceLeDiff, Nat.reduceLT, Nat.reduceSub, Nat.reduceMul, reduceCtorEq, Int.reduceNeg, Int.reduceSub, Int.reduceAdd, Int.reduceLE, Int.reduceLT, Int.reduceMul, Int.reduceToNat, Int.reduceEq, Int.reduceBEq, Int.reduceBNe, Nat.reduceEqDiff])
      refine vk_areg (fun h => by cases h) (by decide) ?_
      intro i hi o ho
      change i ∈ [0, 1] at hi
      simp only [List.mem_cons, List.not_mem_nil, or_false] at hi
      rcases hi with rfl | rfl
      · injection ho with ho
        subst ho
        refine vk_call rfl (new_at _) ?_
        simp (maxSteps := 4000000) (disch := omega) only [EW, Nat.reduceBEq, reduceIte, Nat.reduceAdd, Nat.reduceLeDiff, Nat.reduceLT, Nat.reduceSub, Nat.reduceMul, reduceCtorEq, Int.reduceNeg, Int.reduceSub, Int.reduceAdd, Int.reduceLE, Int.reduceLT, Int.reduceMul, Int.reduceToNat, Int.reduceEq, Int.reduceBEq, Int.reduceBNe, Nat.reduceEqDiff]
        refine vk_areg (fun h => by cases h) (by decide) ?_
        intro i hi o ho
        change i ∈ [1] at hi
        simp only [List.mem_singleton] at hi
        subst hi
        injection ho with ho
        subst ho
        simp (maxSteps := 4000000) (disch := omega) only [EW, Nat.reduceBEq, reduceIte, Nat.reduceAdd, Nat.reduceLeDiff, Nat.reduceLT, Nat.reduceSub, Nat.reduceMul, reduceCtorEq, Int.reduceNeg, Int.reduceSub, Int.reduceAdd, Int.reduceLE, Int.reduceLT, Int.reduceMul, Int.reduceToNat, Int.reduceEq, Int.reduceBEq, Int.reduceBNe, Nat.reduceEqDiff, PCp]
        refine vk_areg (fun h => by cases h) (by decide) ?_
        intro i hi o ho
        change i ∈ [2] at hi
        simp only [List.mem_singleton] at hi
        subst hi
        injection ho with ho
        subst ho
        refine vk_call rfl (one_at hr _) ?_
        simp (maxSteps := 4000000) (disch := omega) only [EW, Nat.reduceBEq, reduceIte, Nat.reduceAdd, Nat.reduceLeDiff, Nat.reduceLT, Nat.reduceSub, Nat.reduceMul, reduceCtorEq, Int.reduceNeg, Int.reduceSub, Int.reduceAdd, Int.reduceLE, Int.reduceLT, Int.reduceMul, Int.reduceToNat, Int.reduceEq, Int.reduceBEq, Int.reduceBNe, Nat.reduceEqDiff]
        refine vk_areg (fun h => by cases h) (by decide) ?_
        intro i hi o ho
        change i ∈ [3] at hi
        simp only [List.mem_singleton] at hi
        subst hi
        injection ho with ho
        subst ho
        simp (maxSteps := 4000000) (disch := omega) only [EW, Nat.reduceBEq, reduceIte, Nat.reduceAdd, Nat.reduceLeDiff, Nat.reduceLT, Nat.reduceSub, Nat.reduceMul, reduceCtorEq, Int.reduceNeg, Int.reduceSub, Int.reduceAdd, Int.reduceLE, Int.reduceLT, Int.reduceMul, Int.reduceToNat, Int.reduceEq, Int.reduceBEq, Int.reduceBNe, Nat.reduceEqDiff]
        refine vk_areg_end (by decide) ?_
        simp (maxSteps := 4000000) (disch := omega) only [EW, Nat.reduceBEq, reduceIte, Nat.reduceAdd, Nat.reduceLeDiff, Nat.reduceLT, Nat.reduceSub, Nat.reduceMul, reduceCtorEq, Int.reduceNeg, Int.reduceSub, Int.reduceAdd, Int.reduceLE, Int.reduceLT, Int.reduceMul, Int.reduceToNat, Int.reduceEq, Int.reduceBEq, Int.reduceBNe, Nat.reduceEqDiff]
        (refine vk_callR rfl ⟨_, .inl rfl, hck⟩ ?_; simp (maxSteps := 4000000) (disch := omega) only [EW, Nat.reduceBEq, reduceIte, Nat.reduceAdd, Nat.reduceLeDiff, Nat.reduceLT, Nat.reduceSub, Nat.reduceMul, reduceCtorEq, Int.reduceNeg, Int.reduceSub, Int.reduceAdd, Int.reduceLE, Int.reduceLT, Int.reduceMul, Int.reduceToNat, Int.reduceEq, Int.reduceBEq, Int.reduceBNe, Nat.reduceEqDiff, PCp])
        by_cases h12 : r = 12
        · subst h12
          simp (maxSteps := 4000000) (disch := omega) only [EW, Nat.reduceBEq, reduceIte, Nat.reduceAdd, Nat.reduceLeDiff, Nat.reduceLT, Nat.reduceSub, Nat.reduceMul, reduceCtorEq, Int.reduceNeg, Int.reduceSub, Int.reduceAdd, Int.reduceLE, Int.reduceLT, Int.reduceMul, Int.reduceToNat, Int.reduceEq, Int.reduceBEq, Int.reduceBNe, Nat.reduceEqDiff, PCp]
          exact fin rfl
        · have ho := hro.resolve_left h12
          simp (maxSteps := 4000000) (disch := omega) only [EW, Nat.reduceBEq, reduceIte, Nat.reduceAdd, Nat.reduceLeDiff, Nat.reduceLT, Nat.reduceSub, Nat.reduceMul, reduceCtorEq, Int.reduceNeg, Int.reduceSub, Int.reduceAdd, Int.reduceLE, Int.reduceLT, Int.reduceMul, Int.reduceToNat, Int.reduceEq, Int.reduceBEq, Int.reduceBNe, Nat.reduceEqDiff, PCp]
          exact fin rfl
      · injection ho with ho
        subst ho
        simp (maxSteps := 4000000) (disch := omega) only [EW, Nat.reduceBEq, reduceIte, Nat.reduceAdd, Nat.reduceLeDiff, Nat.reduceLT, Nat.reduceSub, Nat.reduceMul, reduceCtorEq, Int.reduceNeg, Int.reduceSub, Int.reduceAdd, Int.reduceLE, Int.reduceLT, Int.reduceMul, Int.reduceToNat, Int.reduceEq, Int.reduceBEq, Int.reduceBNe, Nat.reduceEqDiff, PCp]
        refine vk_areg (fun h => by cases h) (by decide) ?_
        intro i hi o ho
        change i ∈ [0] at hi
        simp only [List.mem_singleton] at hi
        subst hi
        injection ho with ho
        subst ho
        refine vk_call rfl (new_at _) ?_
        simp (maxSteps := 4000000) (disch := omega) only [EW, Nat.reduceBEq, reduceIte, Nat.reduceAdd, Nat.reduceLeDiff, Nat.reduceLT, Nat.reduceSub, Nat.reduceMul, reduceCtorEq, Int.reduceNeg, Int.reduceSub, Int.reduceAdd, Int.reduceLE, Int.reduceLT, Int.reduceMul, Int.reduceToNat, Int.reduceEq, Int.reduceBEq, Int.reduceBNe, Nat.reduceEqDiff]
        refine vk_areg (fun h => by cases h) (by decide) ?_
        intro i hi o ho
        change i ∈ [2] at hi
        simp only [List.mem_singleton] at hi
        subst hi
        injection ho with ho
        subst ho
        refine vk_call rfl (one_at hr _) ?_
        simp (maxSteps := 4000000) (disch := omega) only [EW, Nat.reduceBEq, reduceIte, Nat.reduceAdd, Nat.reduceLeDiff, Nat.reduceLT, Nat.reduceSub, Nat.reduceMul, reduceCtorEq, Int.reduceNeg, Int.reduceSub, Int.reduceAdd, Int.reduceLE, Int.reduceLT, Int.reduceMul, Int.reduceToNat, Int.reduceEq, Int.reduceBEq, Int.reduceBNe, Nat.reduceEqDiff]
        refine vk_areg (fun h => by cases h) (by decide) ?_
        intro i hi o ho
        change i ∈ [3] at hi
        simp only [List.mem_singleton] at hi
        subst hi
        injection ho with ho
        subst ho
        simp (maxSteps := 4000000) (disch := omega) only [EW, Nat.reduceBEq, reduceIte, Nat.reduceAdd, Nat.reduceLeDiff, Nat.reduceLT, Nat.reduceSub, Nat.reduceMul, reduceCtorEq, Int.reduceNeg, Int.reduceSub, Int.reduceAdd, Int.reduceLE, Int.reduceLT, Int.reduceMul, Int.reduceToNat, Int.reduceEq, Int.reduceBEq, Int.reduceBNe, Nat.reduceEqDiff]
        refine vk_areg_end (by decide) ?_
        simp (maxSteps := 4000000) (disch := omega) only [EW, Nat.reduceBEq, reduceIte, Nat.reduceAdd, Nat.reduceLeDiff, Nat.reduceLT, Nat.reduceSub, Nat.reduceMul, reduceCtorEq, Int.reduceNeg, Int.reduceSub, Int.reduceAdd, Int.reduceLE, Int.reduceLT, Int.reduceMul, Int.reduceToNat, Int.reduceEq, Int.reduceBEq, Int.reduceBNe, Nat.reduceEqDiff]
        (refine vk_callR rfl ⟨_, .inl rfl, hck⟩ ?_; simp (maxSteps := 4000000) (disch := omega) only [EW, Nat.reduceBEq, reduceIte, Nat.reduceAdd, Nat.reduceLeDiff, Nat.reduceLT, Nat.reduceSub, Nat.reduceMul, reduceCtorEq, Int.reduceNeg, Int.reduceSub, Int.reduceAdd, Int.reduceLE, Int.reduceLT, Int.reduceMul, Int.reduceToNat, Int.reduceEq, Int.reduceBEq, Int.reduceBNe, Nat.reduceEqDiff, PCp])
        by_cases h12 : r = 12
        · subst h12
          simp (maxSteps := 4000000) (disch := omega) only [EW, Nat.reduceBEq, reduceIte, Nat.reduceAdd, Nat.reduceLeDiff, Nat.reduceLT, Nat.reduceSub, Nat.reduceMul, reduceCtorEq, Int.reduceNeg, Int.reduceSub, Int.reduceAdd, Int.reduceLE, Int.reduceLT, Int.reduceMul, Int.reduceToNat, Int.reduceEq, Int.reduceBEq, Int.reduceBNe, Nat.reduceEqDiff, PCp]
          exact fin rfl
        · have ho := hro.resolve_left h12
          simp (maxSteps := 4000000) (disch := omega) only [EW, Nat.reduceBEq, reduceIte, Nat.reduceAdd, Nat.reduceLeDiff, Nat.reduceLT, Nat.reduceSub, Nat.reduceMul, reduceCtorEq, Int.reduceNeg, Int.reduceSub, Int.reduceAdd, Int.reduceLE, Int.reduceLT, Int.reduceMul, Int.reduceToNat, Int.reduceEq, Int.reduceBEq, Int.reduceBNe, Nat.reduceEqDiff, PCp]
          exact fin rfl
end Go.Proofs.VL

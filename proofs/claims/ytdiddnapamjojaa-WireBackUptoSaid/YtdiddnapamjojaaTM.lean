/- Contracts of functions of the program, for what calls them, and the law that its name tells. -/
import Derived.Test.YtdiddnapamjojaaTL
namespace Go.Proofs.VL
open Go Go.RowKit
set_option maxRecDepth 100000
set_option maxHeartbeats 2000000
set_option linter.unusedSimpArgs false
set_option linter.unusedVariables false
attribute [local irreducible] vwp vk

/-- What is left of the first ones. -/
def fewN (ps : List Pat) (n : Nat) : List Pat := ((List.range n).filter fun i => !idleB ps i).filterMap fun i => ps[i]?
theorem fewN_zero (ps : List Pat) : fewN ps 0 = [] := rfl
theorem fewN_idle {ps : List Pat} {n : Nat} (h : idleB ps n = true) : fewN ps (n + 1) = fewN ps n := by
  unfold fewN; rw [List.range_succ, List.filter_append]; simp [h]
theorem fewN_put {ps : List Pat} {n : Nat} {p : Pat} (h : idleB ps n = false) (hp : ps[n]? = some p) : fewN ps (n + 1) = fewN ps n ++ [p] := by
  unfold fewN; rw [List.range_succ, List.filter_append, List.filterMap_append]; simp [h, hp]
theorem fewN_len (ps : List Pat) (n : Nat) : (fewN ps n).length ≤ n := by
  unfold fewN
  refine Nat.le_trans (List.length_filterMap_le _ _) (Nat.le_trans (List.length_filter_le _ _) ?_)
  simp
theorem pRows_snoc (ps : List Pat) (p : Pat) : pRows ps ++ [pCells p] = pRows (ps ++ [p]) := by simp [pRows]

theorem sq_fewer (ps : List Pat) (hl : ps.length ≤ 1000000) : VFn Try.prog 27 [.sl 16 (pRows ps)] (.sl 16 (pRows (fewN ps ps.length))) := by
  refine VFn.intro ok27 (Nat.le_of_ble_eq_true rfl) (vk_start ?_)
  have hpl := pRows_length ps
  simp (maxSteps := 4000000) (disch := omega) only [EW, Nat.reduceBEq, reduceIte, Nat.reduceAdd, Nat.reduceLeDiff, Nat.reduceLT, Nat.reduceSub, Nat.reduceMul, reduceCtorEq, Int.reduceNeg, Int.reduceSub, Int.reduceAdd, Int.reduceLE, Int.reduceLT, Int.reduceMul, Int.reduceToNat, Int.reduceEq, Int.reduceBEq, Int.reduceBNe, Nat.reduceEqDiff, vc27, rs27, hpl]
  refine vk_loopR (γ := Nat) (fun i => { tm := [(0, .sl 16 (pRows ps)), (3, .ref 0 (fewN ps i).length), (6, .sl 16 (pRows ps)), (7, .int .i64 ps.length), (8, .int .i64 i)], ob := [some (.arr 39 16 (pRows (fewN ps i)))], base := 0 })
    (fun i => i ≤ ps.length) (fun i => ps.length - i) 0 (Nat.zero_le _) ?_ ?_
  · exact ⟨[none], rfl, rfl, rfl, rfl, ⟨.same _ rfl, .nref rfl, .same _ rfl, .same _ rfl, .same _ rfl, trivial⟩, ⟨⟨_, _, rfl⟩, trivial⟩⟩
  · rintro i hi R hN hE hR
    have hfl := fewN_len ps i
    have hfp := pRows_length (fewN ps i)
    have htk : List.take (fewN ps i).length (pRows (fewN ps i)) = pRows (fewN ps i) := List.take_of_length_le (by omega)
    rcases Nat.lt_or_ge i ps.length with hlt | hge
    · obtain ⟨x, hx⟩ : ∃ x, ps[i]? = some x := ⟨_, List.getElem?_eq_getElem hlt⟩
      have hr : (pRows ps)[i]? = some (pCells x) := by rw [pRows_get, hx]; rfl
      have hg := sq_idle ps i (by omega)
      have e : idleI ps i = idleB ps i := by unfold idleI; rw [if_pos (by omega)]; rfl
      rw [e] at hg
      cases hI : idleB ps i with
      | true =>
        rw [hI] at hg
        simp (maxSteps := 4000000) (disch := omega) only [EW, Nat.reduceBEq, reduceIte, Nat.reduceAdd, Nat.reduceLeDiff, Nat.reduceLT, Nat.reduceSub, Nat.reduceMul, reduceCtorEq, Int.reduceNeg, Int.reduceSub, Int.reduceAdd, Int.reduceLE, Int.reduceLT, Int.reduceMul, Int.reduceToNat, Int.reduceEq, Int.reduceBEq, Int.reduceBNe, Nat.reduceEqDiff, hr, PCp]
        (refine vk_callR rfl ⟨_, .inl rfl, hg⟩ ?_; simp (maxSteps := 4000000) (disch := omega) only [EW, Nat.reduceBEq, reduceIte, Nat.reduceAdd, Nat.reduceLeDiff, Nat.reduceLT, Nat.reduceSub, Nat.reduceMul, reduceCtorEq, Int.reduceNeg, Int.reduceSub, Int.reduceAdd, Int.reduceLE, Int.reduceLT, Int.reduceMul, Int.reduceToNat, Int.reduceEq, Int.reduceBEq, Int.reduceBNe, Nat.reduceEqDiff])
        refine hN _ (i + 1) hlt (by omega) ?_
        rw [fewN_idle hI]
        exact ⟨[some 0], rfl, rfl, rfl, rfl, ⟨.same _ rfl, .ref rfl, .same _ rfl, .same _ rfl, .same _ rfl, trivial⟩, ⟨⟨_, rfl, .arr (.refl _)⟩, trivial⟩⟩
      | false =>
        rw [hI] at hg
        have e1 := pRows_snoc (fewN ps i) x
        simp (maxSteps := 4000000) (disch := omega) only [EW, Nat.reduceBEq, reduceIte, Nat.reduceAdd, Nat.reduceLeDiff, Nat.reduceLT, Nat.reduceSub, Nat.reduceMul, reduceCtorEq, Int.reduceNeg, Int.reduceSub, Int.reduceAdd, Int.reduceLE, Int.reduceLT, Int.reduceMul, Int.reduceToNat, Int.reduceEq, Int.reduceBEq, Int.reduceBNe, Nat.reduceEqDiff, hr, PCp]
        (refine vk_callR rfl ⟨_, .inl rfl, hg⟩ ?_; simp (maxSteps := 4000000) (disch := omega) only [EW, Nat.reduceBEq, reduceIte, Nat.reduceAdd, Nat.reduceLeDiff, Nat.reduceLT, Nat.reduceSub, Nat.reduceMul, reduceCtorEq, Int.reduceNeg, Int.reduceSub, Int.reduceAdd, Int.reduceLE, Int.reduceLT, Int.reduceMul, Int.reduceToNat, Int.reduceEq, Int.reduceBEq, Int.reduceBNe, Nat.reduceEqDiff, htk, e1, PCp])
        refine hN _ (i + 1) hlt (by omega) ?_
        rw [fewN_put hI hx, pRows_length]
        exact ⟨[some 2], rfl, rfl, rfl, rfl, ⟨.same _ rfl, .ref rfl, .same _ rfl, .same _ rfl, .same _ rfl, trivial⟩, ⟨⟨_, rfl, .arr (.refl _)⟩, trivial⟩⟩
    · have e : i = ps.length := by omega
      subst e
      simp (maxSteps := 4000000) (disch := omega) only [EW, Nat.reduceBEq, reduceIte, Nat.reduceAdd, Nat.reduceLeDiff, Nat.reduceLT, Nat.reduceSub, Nat.reduceMul, reduceCtorEq, Int.reduceNeg, Int.reduceSub, Int.reduceAdd, Int.reduceLE, Int.reduceLT, Int.reduceMul, Int.reduceToNat, Int.reduceEq, Int.reduceBEq, Int.reduceBNe, Nat.reduceEqDiff]
      refine hE _ _ ?_
      simp (maxSteps := 4000000) (disch := omega) only [EW, Nat.reduceBEq, reduceIte, Nat.reduceAdd, Nat.reduceLeDiff, Nat.reduceLT, Nat.reduceSub, Nat.reduceMul, reduceCtorEq, Int.reduceNeg, Int.reduceSub, Int.reduceAdd, Int.reduceLE, Int.reduceLT, Int.reduceMul, Int.reduceToNat, Int.reduceEq, Int.reduceBEq, Int.reduceBNe, Nat.reduceEqDiff]
      exact fin (lend_rows rfl hfp.symm)

theorem plain_str (t : List UInt8) (rs : Runs) (t' : List UInt8) (rs' : Runs) (ht : t.length ≤ 1000000000) (hrs : rs.length ≤ 1000000000) (ht' : t'.length ≤ 1000000000) (hrs' : rs'.length ≤ 1000000000) :
    VFn Try.prog 80 [rawV t rs, rawV t' rs'] (.bool (decide (lab t rs = lab t' rs'))) := by
  refine VFn.intro ok80 (Nat.le_of_ble_eq_true rfl) (vk_start ?_)
  have h1 := ref_of t rs ht hrs
  have h2 := ref_of t' rs' ht' hrs'
  have h3 := ref_same (lab t rs) (lab t' rs') (by rw [lab_length]; omega) (by rw [lab_length]; omega)
  simp (maxSteps := 4000000) (disch := omega) only [EW, Nat.reduceBEq, reduceIte, Nat.reduceAdd, Nat.reduceLeDiff, Nat.reduceLT, Nat.reduceSub, Nat.reduceMul, reduceCtorEq, Int.reduceNeg, Int.reduceSub, Int.reduceAdd, Int.reduceLE, Int.reduceLT, Int.reduceMul, Int.reduceToNat, Int.reduceEq, Int.reduceBEq, Int.reduceBNe, Nat.reduceEqDiff, vc80, rs80, rawV]
  (refine vk_callR rfl ⟨_, .inl rfl, h1⟩ ?_; simp (maxSteps := 4000000) (disch := omega) only [EW, Nat.reduceBEq, reduceIte, Nat.reduceAdd, Nat.reduceLeDiff, Nat.reduceLT, Nat.reduceSub, Nat.reduceMul, reduceCtorEq, Int.reduceNeg, Int.reduceSub, Int.reduceAdd, Int.reduceLE, Int.reduceLT, Int.reduceMul, Int.reduceToNat, Int.reduceEq, Int.reduceBEq, Int.reduceBNe, Nat.reduceEqDiff])
  (refine vk_callR rfl ⟨_, .inl rfl, h2⟩ ?_; simp (maxSteps := 4000000) (disch := omega) only [EW, Nat.reduceBEq, reduceIte, Nat.reduceAdd, Nat.reduceLeDiff, Nat.reduceLT, Nat.reduceSub, Nat.reduceMul, reduceCtorEq, Int.reduceNeg, Int.reduceSub, Int.reduceAdd, Int.reduceLE, Int.reduceLT, Int.reduceMul, Int.reduceToNat, Int.reduceEq, Int.reduceBEq, Int.reduceBNe, Nat.reduceEqDiff])
  (refine vk_callR rfl ⟨_, .inl rfl, h3⟩ ?_; simp (maxSteps := 4000000) (disch := omega) only [EW, Nat.reduceBEq, reduceIte, Nat.reduceAdd, Nat.reduceLeDiff, Nat.reduceLT, Nat.reduceSub, Nat.reduceMul, reduceCtorEq, Int.reduceNeg, Int.reduceSub, Int.reduceAdd, Int.reduceLE, Int.reduceLT, Int.reduceMul, Int.reduceToNat, Int.reduceEq, Int.reduceBEq, Int.reduceBNe, Nat.reduceEqDiff])
  exact fin rfl

theorem plain_hooks (hs : List (Int × Bool × Int)) (hl : hs.length ≤ 1000000000) : VFn Try.prog 81 [.sl 3 (hRows hs), .sl 3 (hRows hs)] (.bool true) := by
  refine VFn.intro ok81 (Nat.le_of_ble_eq_true rfl) (vk_start ?_)
  have hhl : (hRows hs).length = hs.length := by simp [hRows]
  simp (maxSteps := 4000000) (disch := omega) only [EW, Nat.reduceBEq, reduceIte, Nat.reduceAdd, Nat.reduceLeDiff, Nat.reduceLT, Nat.reduceSub, Nat.reduceMul, reduceCtorEq, Int.reduceNeg, Int.reduceSub, Int.reduceAdd, Int.reduceLE, Int.reduceLT, Int.reduceMul, Int.reduceToNat, Int.reduceEq, Int.reduceBEq, Int.reduceBNe, Nat.reduceEqDiff, vc81, rs81, hhl]
  refine vk_loopR (γ := Nat) (fun i => { tm := [(0, .sl 3 (hRows hs)), (1, .sl 3 (hRows hs)), (5, .int .i64 i)], ob := [], base := 0 })
    (fun i => i ≤ hs.length) (fun i => hs.length - i) 0 (Nat.zero_le _) ?_ ?_
  · exact ⟨[], rfl, rfl, rfl, rfl, ⟨.same _ rfl, .same _ rfl, .same _ rfl, trivial⟩, trivial⟩
  · rintro i hi R hN hE hR
    rcases Nat.lt_or_ge i hs.length with hlt | hge
    · obtain ⟨x, hx⟩ : ∃ x, hs[i]? = some x := ⟨_, List.getElem?_eq_getElem hlt⟩
      have hr : (hRows hs)[i]? = some [.int .i64 x.1, .bool x.2.1, .int .i64 x.2.2] := by simp [hRows, hx]
      simp (maxSteps := 4000000) (disch := omega) only [EW, Nat.reduceBEq, reduceIte, Nat.reduceAdd, Nat.reduceLeDiff, Nat.reduceLT, Nat.reduceSub, Nat.reduceMul, reduceCtorEq, Int.reduceNeg, Int.reduceSub, Int.reduceAdd, Int.reduceLE, Int.reduceLT, Int.reduceMul, Int.reduceToNat, Int.reduceEq, Int.reduceBEq, Int.reduceBNe, Nat.reduceEqDiff, hr, hhl]
      refine hN _ (i + 1) hlt (by omega) ?_
      exact ⟨[], rfl, rfl, rfl, rfl, ⟨.same _ rfl, .same _ rfl, .same _ rfl, trivial⟩, trivial⟩
    · simp (maxSteps := 4000000) (disch := omega) only [EW, Nat.reduceBEq, reduceIte, Nat.reduceAdd, Nat.reduceLeDiff, Nat.reduceLT, Nat.reduceSub, Nat.reduceMul, reduceCtorEq, Int.reduceNeg, Int.reduceSub, Int.reduceAdd, Int.reduceLE, Int.reduceLT, Int.reduceMul, Int.reduceToNat, Int.reduceEq, Int.reduceBEq, Int.reduceBNe, Nat.reduceEqDiff, hhl]
      refine hE _ _ ?_
      simp (maxSteps := 4000000) (disch := omega) only [EW, Nat.reduceBEq, reduceIte, Nat.reduceAdd, Nat.reduceLeDiff, Nat.reduceLT, Nat.reduceSub, Nat.reduceMul, reduceCtorEq, Int.reduceNeg, Int.reduceSub, Int.reduceAdd, Int.reduceLE, Int.reduceLT, Int.reduceMul, Int.reduceToNat, Int.reduceEq, Int.reduceBEq, Int.reduceBNe, Nat.reduceEqDiff]
      exact fin rfl

/-- Alike, but for how runs are told. -/
structure PSame (p q : Pat) : Prop where
  op : p.op = q.op
  node : p.node = q.node
  parent : p.parent = q.parent
  at_ : p.at_ = q.at_
  kind : p.kind = q.kind
  tag : lab p.tag.1 p.tag.2 = lab q.tag.1 q.tag.2
  key : p.key = q.key
  slot : p.slot = q.slot
  name : lab p.name.1 p.name.2 = lab q.name.1 q.name.2
  value : lab p.value.1 p.value.2 = lab q.value.1 q.value.2
  hooks : p.hooks = q.hooks
  text : lab p.text.1 p.text.2 = lab q.text.1 q.text.2
theorem PSame.refl (p : Pat) : PSame p p := ⟨rfl, rfl, rfl, rfl, rfl, rfl, rfl, rfl, rfl, rfl, rfl, rfl⟩
structure PSmall (p : Pat) : Prop where
  tag : p.tag.1.length ≤ 1000000000 ∧ p.tag.2.length ≤ 1000000000
  name : p.name.1.length ≤ 1000000000 ∧ p.name.2.length ≤ 1000000000
  value : p.value.1.length ≤ 1000000000 ∧ p.value.2.length ≤ 1000000000
  text : p.text.1.length ≤ 1000000000 ∧ p.text.2.length ≤ 1000000000
  hooks : p.hooks.length ≤ 1000000000
theorem rws_eq (l : Runs) : rws l = rowsOf l := rfl

theorem plain_patches (ps qs : List Pat) (hl : ps.length ≤ 1000000000) (hlen : ps.length = qs.length) (hs : ∀ (i : Nat) p q, ps[i]? = some p → qs[i]? = some q → PSame p q ∧ PSmall p ∧ PSmall q) :
    VFn Try.prog 26 [.sl 16 (pRows ps), .sl 16 (pRows qs)] (.bool true) := by
  refine VFn.intro ok26 (Nat.le_of_ble_eq_true rfl) (vk_start ?_)
  have hpl := pRows_length ps
  have hql := pRows_length qs
  simp (maxSteps := 4000000) (disch := omega) only [EW, Nat.reduceBEq, reduceIte, Nat.reduceAdd, Nat.reduceLeDiff, Nat.reduceLT, Nat.reduceSub, Nat.reduceMul, reduceCtorEq, Int.reduceNeg, Int.reduceSub, Int.reduceAdd, Int.reduceLE, Int.reduceLT, Int.reduceMul, Int.reduceToNat, Int.reduceEq, Int.reduceBEq, Int.reduceBNe, Nat.reduceEqDiff, vc26, rs26, hpl, hql]
  refine vk_loopR (γ := Nat) (fun i => { tm := [(0, .sl 16 (pRows ps)), (1, .sl 16 (pRows qs)), (5, .int .i64 i)], ob := [], base := 0 })
    (fun i => i ≤ ps.length) (fun i => ps.length - i) 0 (Nat.zero_le _) ?_ ?_
  · exact ⟨[], rfl, rfl, rfl, rfl, ⟨.same _ rfl, .same _ rfl, .same _ rfl, trivial⟩, trivial⟩
  · rintro i hi R hN hE hR
    rcases Nat.lt_or_ge i ps.length with hlt | hge
    · obtain ⟨p, hp⟩ : ∃ x, ps[i]? = some x := ⟨_, List.getElem?_eq_getElem hlt⟩
      obtain ⟨q, hq⟩ : ∃ x, qs[i]? = some x := ⟨_, List.getElem?_eq_getElem (by omega)⟩
      obtain ⟨hS, h1, h2⟩ := hs i p q hp hq
      have hr : (pRows ps)[i]? = some (pCells p) := by rw [pRows_get, hp]; rfl
      have hr2 : (pRows qs)[i]? = some (pCells q) := by rw [pRows_get, hq]; rfl
      have t1 := plain_str p.tag.1 p.tag.2 q.tag.1 q.tag.2 h1.tag.1 h1.tag.2 h2.tag.1 h2.tag.2
      have t2 := plain_str p.name.1 p.name.2 q.name.1 q.name.2 h1.name.1 h1.name.2 h2.name.1 h2.name.2
      have t3 := plain_str p.value.1 p.value.2 q.value.1 q.value.2 h1.value.1 h1.value.2 h2.value.1 h2.value.2
      have t4 := plain_str p.text.1 p.text.2 q.text.1 q.text.2 h1.text.1 h1.text.2 h2.text.1 h2.text.2
      have t5 := plain_hooks p.hooks h1.hooks
      rw [decide_eq_true hS.tag] at t1
      rw [decide_eq_true hS.name] at t2
      rw [decide_eq_true hS.value] at t3
      rw [decide_eq_true hS.text] at t4
      have c1 := hS.op
      have c2 := hS.node
      have c3 := hS.parent
      have c4 := hS.at_
      have c5 := hS.kind
      have c6 := hS.slot
      have c7 : (p.key == q.key) = true := by rw [hS.key]; simp
      have c8 := hS.hooks
      rw [c8] at t5
      simp (maxSteps := 4000000) (disch := omega) only [EW, Nat.reduceBEq, reduceIte, Nat.reduceAdd, Nat.reduceLeDiff, Nat.reduceLT, Nat.reduceSub, Nat.reduceMul, reduceCtorEq, Int.reduceNeg, Int.reduceSub, Int.reduceAdd, Int.reduceLE, Int.reduceLT, Int.reduceMul, Int.reduceToNat, Int.reduceEq, Int.reduceBEq, Int.reduceBNe, Nat.reduceEqDiff, hr, hr2, PCp, hpl, hql, c7]
      (refine vk_callR rfl ⟨_, .inl rfl, t1⟩ ?_; simp (maxSteps := 4000000) (disch := omega) only [EW, Nat.reduceBEq, reduceIte, Nat.reduceAdd, Nat.reduceLeDiff, Nat.reduceLT, Nat.reduceSub, Nat.reduceMul, reduceCtorEq, Int.reduceNeg, Int.reduceSub, Int.reduceAdd, Int.reduceLE, Int.reduceLT, Int.reduceMul, Int.reduceToNat, Int.reduceEq, Int.reduceBEq, Int.reduceBNe, Nat.reduceEqDiff, PCp])
      (refine vk_callR rfl ⟨_, .inl rfl, t2⟩ ?_; simp (maxSteps := 4000000) (disch := omega) only [EW, Nat.reduceBEq, reduceIte, Nat.reduceAdd, Nat.reduceLeDiff, Nat.reduceLT, Nat.reduceSub, Nat.reduceMul, reduceCtorEq, Int.reduceNeg, Int.reduceSub, Int.reduceAdd, Int.reduceLE, Int.reduceLT, Int.reduceMul, Int.reduceToNat, Int.reduceEq, Int.reduceBEq, Int.reduceBNe, Nat.reduceEqDiff, PCp])
      (refine vk_callR rfl ⟨_, .inl rfl, t3⟩ ?_; simp (maxSteps := 4000000) (disch := omega) only [EW, Nat.reduceBEq, reduceIte, Nat.reduceAdd, Nat.reduceLeDiff, Nat.reduceLT, Nat.reduceSub, Nat.reduceMul, reduceCtorEq, Int.reduceNeg, Int.reduceSub, Int.reduceAdd, Int.reduceLE, Int.reduceLT, Int.reduceMul, Int.reduceToNat, Int.reduceEq, Int.reduceBEq, Int.reduceBNe, Nat.reduceEqDiff, PCp])
      (refine vk_callR rfl ⟨_, .inl rfl, t4⟩ ?_; simp (maxSteps := 4000000) (disch := omega) only [EW, Nat.reduceBEq, reduceIte, Nat.reduceAdd, Nat.reduceLeDiff, Nat.reduceLT, Nat.reduceSub, Nat.reduceMul, reduceCtorEq, Int.reduceNeg, Int.reduceSub, Int.reduceAdd, Int.reduceLE, Int.reduceLT, Int.reduceMul, Int.reduceToNat, Int.reduceEq, Int.reduceBEq, Int.reduceBNe, Nat.reduceEqDiff, PCp])
      rw [c8]
      (refine vk_callR rfl ⟨_, .inl rfl, t5⟩ ?_; simp (maxSteps := 4000000) (disch := omega) only [EW, Nat.reduceBEq, reduceIte, Nat.reduceAdd, Nat.reduceLeDiff, Nat.reduceLT, Nat.reduceSub, Nat.reduceMul, reduceCtorEq, Int.reduceNeg, Int.reduceSub, Int.reduceAdd, Int.reduceLE, Int.reduceLT, Int.reduceMul, Int.reduceToNat, Int.reduceEq, Int.reduceBEq, Int.reduceBNe, Nat.reduceEqDiff, PCp])
      refine hN _ (i + 1) hlt (by omega) ?_
      exact ⟨[], rfl, rfl, rfl, rfl, ⟨.same _ rfl, .same _ rfl, .same _ rfl, trivial⟩, trivial⟩
    · simp (maxSteps := 4000000) (disch := omega) only [EW, Nat.reduceBEq, reduceIte, Nat.reduceAdd, Nat.reduceLeDiff, Nat.reduceLT, Nat.reduceSub, Nat.reduceMul, reduceCtorEq, Int.reduceNeg, Int.reduceSub, Int.reduceAdd, Int.reduceLE, Int.reduceLT, Int.reduceMul, Int.reduceToNat, Int.reduceEq, Int.reduceBEq, Int.reduceBNe, Nat.reduceEqDiff, hpl]
      refine hE _ _ ?_
      simp (maxSteps := 4000000) (disch := omega) only [EW, Nat.reduceBEq, reduceIte, Nat.reduceAdd, Nat.reduceLeDiff, Nat.reduceLT, Nat.reduceSub, Nat.reduceMul, reduceCtorEq, Int.reduceNeg, Int.reduceSub, Int.reduceAdd, Int.reduceLE, Int.reduceLT, Int.reduceMul, Int.reduceToNat, Int.reduceEq, Int.reduceBEq, Int.reduceBNe, Nat.reduceEqDiff]
      exact fin rfl
end Go.Proofs.VL

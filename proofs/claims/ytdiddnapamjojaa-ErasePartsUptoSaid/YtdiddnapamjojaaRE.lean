/- Contracts of functions of the program, for what calls them, and the law that its name tells. -/
import Derived.Test.YtdiddnapamjojaaRF
namespace Go.Proofs.VL
open Go Go.RowKit
set_option maxRecDepth 100000
set_option maxHeartbeats 4000000
set_option linter.unusedSimpArgs false
set_option linter.unusedVariables false

noncomputable def tabE : List (Nat × FE) := [(36, .code Try.f36.ntmps vc36 rs36), (89, .code Try.f89.ntmps vc89 rs89), (90, .code Try.f90.ntmps vc90 rs90), (91, .code Try.f91.ntmps vc91 rs91), (92, .code Try.f92.ntmps vc92 rs92), (34, .lent Try.f34.ntmps vc34 rs34), (33, .code Try.f33.ntmps vc33 rs33)]
theorem tabE_ok : TOk Try.prog tabE := .code ok36 (.code ok89 (.code ok90 (.code ok91 (.code ok92 (.lent ok34 (.code ok33 .nil))))))
theorem alive33 : VFn Try.prog 33 [] (.bool true) := runFT_sound tabE_ok 1000 60 (by kernel_rfl)
attribute [local irreducible] vwp vk

theorem oRows_cut (l : List Oc) {i : Nat} {x : Oc} (h : l[i]? = some x) : ((oRows l).take (i + 1)).drop i = [oCells x] := by
  have hlt := (List.getElem?_eq_some_iff.1 h).1
  unfold oRows
  rw [← List.map_take, ← List.map_drop, List.take_add_one, h, List.drop_left' (by rw [List.length_take]; omega)]
  rfl
theorem oRows_cut2 (l : List Oc) {i : Nat} {x : Oc} (h : l[i]? = some x) : ((oRows l).drop i).take 1 = [oCells x] := by
  have hlt := (List.getElem?_eq_some_iff.1 h).1
  unfold oRows
  rw [← List.map_drop, drop_at' h]; rfl

theorem eraseParts (l : List Stp) (o : List Oc) (owner : Int) (c : List (List V)) (hl : l.length ≤ 1000000000) (ho : o.length ≤ 1000000000) (hc : c.length ≤ 1000000000) (hsm : ∀ x ∈ o, OSmall x) (hlc : ∀ s ∈ l, s.cmds.length ≤ 1000000000) :
    VFn Try.prog 7 [.sl 14 (sRows l), .sl 4 (oRows o), .int .i64 owner, .sl 5 c] (.bool true) := by
  refine VFn.intro ok7 (Nat.le_of_ble_eq_true rfl) (vk_start ?_)
  have hsl := sRows_length l
  have hol := oRows_length o
  have h1 := er_answers o l owner (by omega) (by omega) hsm
  have h2 := er_steps l owner c (by omega) (by omega)
  have hal := oRows_length (ansAll l owner o)
  have hal2 := ansAll_len l owner o
  simp (maxSteps := 4000000) (disch := omega) only [EW, Nat.reduceBEq, reduceIte, Nat.reduceAdd, Nat.reduceLeDiff, Nat.reduceLT, Nat.reduceSub, Nat.reduceMul, reduceCtorEq, Int.reduceNeg, Int.reduceSub, Int.reduceAdd, Int.reduceLE, Int.reduceLT, Int.reduceMul, Int.reduceToNat, Int.reduceEq, Int.reduceBEq, Int.reduceBNe, Nat.reduceEqDiff, vc7, rs7]
  (refine vk_callR rfl ⟨_, .inl rfl, alive33⟩ ?_; simp (maxSteps := 4000000) (disch := omega) only [EW, Nat.reduceBEq, reduceIte, Nat.reduceAdd, Nat.reduceLeDiff, Nat.reduceLT, Nat.reduceSub, Nat.reduceMul, reduceCtorEq, Int.reduceNeg, Int.reduceSub, Int.reduceAdd, Int.reduceLE, Int.reduceLT, Int.reduceMul, Int.reduceToNat, Int.reduceEq, Int.reduceBEq, Int.reduceBNe, Nat.reduceEqDiff])
  (refine vk_callR rfl ⟨_, .inl rfl, h1⟩ ?_; simp (maxSteps := 4000000) (disch := omega) only [EW, Nat.reduceBEq, reduceIte, Nat.reduceAdd, Nat.reduceLeDiff, Nat.reduceLT, Nat.reduceSub, Nat.reduceMul, reduceCtorEq, Int.reduceNeg, Int.reduceSub, Int.reduceAdd, Int.reduceLE, Int.reduceLT, Int.reduceMul, Int.reduceToNat, Int.reduceEq, Int.reduceBEq, Int.reduceBNe, Nat.reduceEqDiff, hal, hal2, hol])
  refine vk_loopR (γ := Nat) (fun i => { tm := [(0, .sl 14 (sRows l)), (1, .sl 4 (oRows o)), (2, .int .i64 owner), (3, .sl 5 c), (9, .sl 4 (oRows (ansAll l owner o))), (10, .int .i64 i)], ob := [], base := 0 })
    (fun i => i ≤ o.length) (fun i => o.length - i) 0 (Nat.zero_le _) ?_ ?_
  · exact ⟨[], rfl, rfl, rfl, rfl, ⟨.same _ rfl, .same _ rfl, .same _ rfl, .same _ rfl, .same _ rfl, .same _ rfl, trivial⟩, trivial⟩
  · rintro i hi R hN hE hR
    rcases Nat.lt_or_ge i o.length with hlt | hge
    · obtain ⟨x, hx⟩ : ∃ x, o[i]? = some x := ⟨_, List.getElem?_eq_getElem hlt⟩
      have hxs := hsm x (List.mem_of_getElem? hx)
      have hg : (oRows o)[i]? = some [.int .i64 x.code, .int .i64 x.n, .sl 2 (rws x.ans), .sl 4 (kaRows x.calls)] := by rw [oRows_get, hx]; rfl
      have h3 := er_without x.calls owner (by have := hxs.2; omega)
      have hgA : (ansAll l owner o)[i]? = some (ansOne l owner i x) := by rw [ansAll_get, hx]; rfl
      have hcut := oRows_cut _ hgA
      have hcut2 := oRows_cut2 _ hgA
      simp (maxSteps := 4000000) (disch := omega) only [EW, Nat.reduceBEq, reduceIte, Nat.reduceAdd, Nat.reduceLeDiff, Nat.reduceLT, Nat.reduceSub, Nat.reduceMul, reduceCtorEq, Int.reduceNeg, Int.reduceSub, Int.reduceAdd, Int.reduceLE, Int.reduceLT, Int.reduceMul, Int.reduceToNat, Int.reduceEq, Int.reduceBEq, Int.reduceBNe, Nat.reduceEqDiff, hol, hg]
      (refine vk_callR rfl ⟨_, .inl rfl, h3⟩ ?_; simp (maxSteps := 4000000) (disch := omega) only [EW, Nat.reduceBEq, reduceIte, Nat.reduceAdd, Nat.reduceLeDiff, Nat.reduceLT, Nat.reduceSub, Nat.reduceMul, reduceCtorEq, Int.reduceNeg, Int.reduceSub, Int.reduceAdd, Int.reduceLE, Int.reduceLT, Int.reduceMul, Int.reduceToNat, Int.reduceEq, Int.reduceBEq, Int.reduceBNe, Nat.reduceEqDiff, hg, hol])
      obtain ⟨w, hw⟩ : ∃ w, w = ansOne l owner i x := ⟨_, rfl⟩
      have hws : OSmall w := by
        have hp := ansPre_small (st := l) (owner := owner) (i := i) hxs
        rw [hw]
        exact ⟨hp.1, Nat.le_trans (woC_len _ _) hp.2⟩
      refine vk_joinR (γ := Unit) (fun _ => { tm := [(0, .sl 14 (sRows l)), (1, .sl 4 (oRows o)), (2, .int .i64 owner), (3, .sl 5 c), (9, .sl 4 (oRows (ansAll l owner o))), (10, .int .i64 i), (11, .ptr 0 0)], ob := [some (.box [.int .i64 w.code, .int .i64 w.n, .sl 2 (rws w.ans), .sl 4 (kaRows w.calls)])], base := 0 }) (fun _ => True) ?_ ?_
      · intro R2 hN2 hE2 hR2
        by_cases hB : itsB l i owner = true
        · have hwe : w = ⟨0, 0, [], []⟩ := by rw [hw]; unfold ansOne ansPre; rw [hB]; rfl
          rcases Nat.lt_or_ge i l.length with hl2 | hl2
          · obtain ⟨s, hs⟩ : ∃ s, l[i]? = some s := ⟨_, List.getElem?_eq_getElem hl2⟩
            have hgs : (sRows l)[i]? = some (sCells s) := by rw [sRows_get, hs]; rfl
            have hk : s.kind = 2 ∧ s.a = owner := by unfold itsB at hB; rw [hs] at hB; simpa using hB
            have hk1 := hk.1
            have hk2 := hk.2
            simp (maxSteps := 4000000) (disch := omega) only [EW, Nat.reduceBEq, reduceIte, Nat.reduceAdd, Nat.reduceLeDiff, Nat.reduceLT, Nat.reduceSub, Nat.reduceMul, reduceCtorEq, Int.reduceNeg, Int.reduceSub, Int.reduceAdd, Int.reduceLE, Int.reduceLT, Int.reduceMul, Int.reduceToNat, Int.reduceEq, Int.reduceBEq, Int.reduceBNe, Nat.reduceEqDiff, hsl, hgs, sCells]
            refine hN2 _ () trivial ?_
            rw [hwe]
            exact ⟨[some 0], rfl, rfl, rfl, rfl, ⟨.same _ rfl, .same _ rfl, .same _ rfl, .same _ rfl, .same _ rfl, .same _ rfl, .ptr rfl, trivial⟩, ⟨⟨_, rfl, .box (.cons (.same _ rfl) (.cons (.same _ rfl) (.cons (.nil _) (.cons (.nil _) .nil))))⟩, trivial⟩⟩
          · unfold itsB at hB; rw [List.getElem?_eq_none (by omega)] at hB; simp at hB
        · rw [Bool.not_eq_true] at hB
          have hwe : w = { x with calls := woC owner x.calls } := by rw [hw]; unfold ansOne ansPre; rw [hB]
          rcases Nat.lt_or_ge i l.length with hl2 | hl2
          · obtain ⟨s, hs⟩ : ∃ s, l[i]? = some s := ⟨_, List.getElem?_eq_getElem hl2⟩
            have hgs : (sRows l)[i]? = some (sCells s) := by rw [sRows_get, hs]; rfl
            by_cases hk1 : s.kind = 2
            · have hk2 : ¬ s.a = owner := by intro hk2; unfold itsB at hB; rw [hs] at hB; simp [hk1, hk2] at hB
              simp (maxSteps := 4000000) (disch := omega) only [EW, Nat.reduceBEq, reduceIte, Nat.reduceAdd, Nat.reduceLeDiff, Nat.reduceLT, Nat.reduceSub, Nat.reduceMul, reduceCtorEq, Int.reduceNeg, Int.reduceSub, Int.reduceAdd, Int.reduceLE, Int.reduceLT, Int.reduceMul, Int.reduceToNat, Int.reduceEq, Int.reduceBEq, Int.reduceBNe, Nat.reduceEqDiff, hsl, hgs, sCells]
              refine hN2 _ () trivial ?_
              rw [hwe]
              exact ⟨[some 0], rfl, rfl, rfl, rfl, ⟨.same _ rfl, .same _ rfl, .same _ rfl, .same _ rfl, .same _ rfl, .same _ rfl, .ptr rfl, trivial⟩, ⟨⟨_, rfl, .box (SubML.same _ rfl)⟩, trivial⟩⟩
            · simp (maxSteps := 4000000) (disch := omega) only [EW, Nat.reduceBEq, reduceIte, Nat.reduceAdd, Nat.reduceLeDiff, Nat.reduceLT, Nat.reduceSub, Nat.reduceMul, reduceCtorEq, Int.reduceNeg, Int.reduceSub, Int.reduceAdd, Int.reduceLE, Int.reduceLT, Int.reduceMul, Int.reduceToNat, Int.reduceEq, Int.reduceBEq, Int.reduceBNe, Nat.reduceEqDiff, hsl, hgs, sCells]
              refine hN2 _ () trivial ?_
              rw [hwe]
              exact ⟨[some 0], rfl, rfl, rfl, rfl, ⟨.same _ rfl, .same _ rfl, .same _ rfl, .same _ rfl, .same _ rfl, .same _ rfl, .ptr rfl, trivial⟩, ⟨⟨_, rfl, .box (SubML.same _ rfl)⟩, trivial⟩⟩
          · simp (maxSteps := 4000000) (disch := omega) only [EW, Nat.reduceBEq, reduceIte, Nat.reduceAdd, Nat.reduceLeDiff, Nat.reduceLT, Nat.reduceSub, Nat.reduceMul, reduceCtorEq, Int.reduceNeg, Int.reduceSub, Int.reduceAdd, Int.reduceLE, Int.reduceLT, Int.reduceMul, Int.reduceToNat, Int.reduceEq, Int.reduceBEq, Int.reduceBNe, Nat.reduceEqDiff, hsl]
            refine hN2 _ () trivial ?_
            rw [hwe]
            exact ⟨[some 0], rfl, rfl, rfl, rfl, ⟨.same _ rfl, .same _ rfl, .same _ rfl, .same _ rfl, .same _ rfl, .same _ rfl, .ptr rfl, trivial⟩, ⟨⟨_, rfl, .box (SubML.same _ rfl)⟩, trivial⟩⟩
      · rintro _ _
        have h4 := er_same w hws
        rw [← hw] at hcut hcut2
        unfold oCells at h4 hcut hcut2
        have htn : ((i : Int) + 1).toNat = i + 1 := by omega
        simp (maxSteps := 4000000) (disch := omega) only [EW, Nat.reduceBEq, reduceIte, Nat.reduceAdd, Nat.reduceLeDiff, Nat.reduceLT, Nat.reduceSub, Nat.reduceMul, reduceCtorEq, Int.reduceNeg, Int.reduceSub, Int.reduceAdd, Int.reduceLE, Int.reduceLT, Int.reduceMul, Int.reduceToNat, Int.reduceEq, Int.reduceBEq, Int.reduceBNe, Nat.reduceEqDiff, hal, hal2, htn, hcut, hcut2]
        (refine vk_callR rfl ⟨_, .inl rfl, h4⟩ ?_; simp (maxSteps := 4000000) (disch := omega) only [EW, Nat.reduceBEq, reduceIte, Nat.reduceAdd, Nat.reduceLeDiff, Nat.reduceLT, Nat.reduceSub, Nat.reduceMul, reduceCtorEq, Int.reduceNeg, Int.reduceSub, Int.reduceAdd, Int.reduceLE, Int.reduceLT, Int.reduceMul, Int.reduceToNat, Int.reduceEq, Int.reduceBEq, Int.reduceBNe, Nat.reduceEqDiff])
        refine hN _ (i + 1) hlt (by omega) ?_
        exact ⟨[], rfl, rfl, rfl, rfl, ⟨.same _ rfl, .same _ rfl, .same _ rfl, .same _ rfl, .same _ rfl, .same _ rfl, trivial⟩, trivial⟩
    · have e : i = o.length := by omega
      subst e
      simp (maxSteps := 4000000) (disch := omega) only [EW, Nat.reduceBEq, reduceIte, Nat.reduceAdd, Nat.reduceLeDiff, Nat.reduceLT, Nat.reduceSub, Nat.reduceMul, reduceCtorEq, Int.reduceNeg, Int.reduceSub, Int.reduceAdd, Int.reduceLE, Int.reduceLT, Int.reduceMul, Int.reduceToNat, Int.reduceEq, Int.reduceBEq, Int.reduceBNe, Nat.reduceEqDiff, hol]
      refine hE _ _ ?_
      simp (maxSteps := 4000000) (disch := omega) only [EW, Nat.reduceBEq, reduceIte, Nat.reduceAdd, Nat.reduceLeDiff, Nat.reduceLT, Nat.reduceSub, Nat.reduceMul, reduceCtorEq, Int.reduceNeg, Int.reduceSub, Int.reduceAdd, Int.reduceLE, Int.reduceLT, Int.reduceMul, Int.reduceToNat, Int.reduceEq, Int.reduceBEq, Int.reduceBNe, Nat.reduceEqDiff]
      (refine vk_callR rfl ⟨_, .inl rfl, h2⟩ ?_; simp (maxSteps := 4000000) (disch := omega) only [EW, Nat.reduceBEq, reduceIte, Nat.reduceAdd, Nat.reduceLeDiff, Nat.reduceLT, Nat.reduceSub, Nat.reduceMul, reduceCtorEq, Int.reduceNeg, Int.reduceSub, Int.reduceAdd, Int.reduceLE, Int.reduceLT, Int.reduceMul, Int.reduceToNat, Int.reduceEq, Int.reduceBEq, Int.reduceBNe, Nat.reduceEqDiff])
      have hql := sRows_length (stpAll l owner c)
      have hql2 := stpAll_len l owner c
      refine vk_loopR (γ := Nat) (fun i => { tm := [(0, .sl 14 (sRows l)), (2, .int .i64 owner), (3, .sl 5 c), (12, .sl 14 (sRows (stpAll l owner c))), (13, .int .i64 i)], ob := [], base := 0 })
        (fun i => i ≤ l.length) (fun i => l.length - i) 0 (Nat.zero_le _) ?_ ?_
      · exact ⟨[], rfl, rfl, rfl, rfl, ⟨.same _ rfl, .same _ rfl, .same _ rfl, .same _ rfl, .same _ rfl, trivial⟩, trivial⟩
      · rintro i hi R hN hE hR
        rcases Nat.lt_or_ge i l.length with hlt | hge
        · obtain ⟨s, hs⟩ : ∃ s, l[i]? = some s := ⟨_, List.getElem?_eq_getElem hlt⟩
          have hgs : (sRows l)[i]? = some (sCells s) := by rw [sRows_get, hs]; rfl
          have hgq : (sRows (stpAll l owner c))[i]? = some (sCells (stpOne l owner c i s)) := by rw [sRows_get, stpAll_get, hs]; rfl
          have hcs := hlc s (List.mem_of_getElem? hs)
          have hq : ∃ qc : List (List V), (sRows (stpAll l owner c))[i]? = some [.int .i64 s.kind, .int .i64 s.a, .int .i64 s.b, s.v0, s.v1, s.v2, s.v3, s.v4, s.v5, s.v6, s.v7, s.v8, s.v9, .sl 5 qc] ∧ (itsB l i owner = true → qc.length = c.length) ∧ (itsB l i owner = false → qc.length = s.cmds.length) := by
            cases hB : itsB l i owner with
            | true =>
              have e : stpOne l owner c i s = { s with cmds := c } := by unfold stpOne; rw [hB]
              exact ⟨c, by rw [hgq, e]; rfl, fun _ => rfl, fun h => (by cases h)⟩
            | false =>
              have e : stpOne l owner c i s = s := by unfold stpOne; rw [hB]
              exact ⟨s.cmds, by rw [hgq, e]; rfl, fun h => (by cases h), fun _ => rfl⟩
          obtain ⟨qc, hqc, hb1, hb2⟩ := hq
          clear hgq
          have hgs1 : (sRows l)[i]? = some [.int .i64 s.kind, .int .i64 s.a, .int .i64 s.b, s.v0, s.v1, s.v2, s.v3, s.v4, s.v5, s.v6, s.v7, s.v8, s.v9, .sl 5 s.cmds] := hgs
          have hgo : ∀ T : List (Nat × V), (List.lookup 0 T).getD V.junk = .sl 14 (sRows l) → (List.lookup 2 T).getD V.junk = .int .i64 owner → (List.lookup 3 T).getD V.junk = .sl 5 c → (List.lookup 12 T).getD V.junk = .sl 14 (sRows (stpAll l owner c)) → (List.lookup 13 T).getD V.junk = .int .i64 i → (List.lookup 14 T).getD V.junk = .bool (itsB l i owner) →
              vk Try.prog [] dr7 [.seq (.cond (.t 173) (.seq (.reg [⟨(some 8), (.mv (.c (.bool false))), none⟩]) .ret) .skip), .block 3, .seq (.reg [⟨(some 94), (.mv (.t 13)), none⟩, ⟨(some 95), (.bin .add (.t 94) (.c (.int .i64 (1)))), none⟩, ⟨(some 13), (.mv (.t 95)), none⟩])] R { tm := T, ob := [], base := 0 } := by
            intro T t0 t2 t3 t12 t13 t14
            refine dr7_ok owner c s.cmds qc hc hcs s.kind s.a s.b s.v0 s.v1 s.v2 s.v3 s.v4 s.v5 s.v6 s.v7 s.v8 s.v9 (sRows l) (sRows (stpAll l owner c)) l.length i hl hlt hsl (by omega) (itsB l i owner) hgs1 hqc hb1 hb2 T t0 t2 t3 t12 t13 t14 _ _ ?_
            intro T' u0 u2 u3 u12 u13 u14 u173
            simp (maxSteps := 4000000) (disch := omega) only [EW, Nat.reduceBEq, reduceIte, Nat.reduceAdd, Nat.reduceLeDiff, Nat.reduceLT, Nat.reduceSub, Nat.reduceMul, reduceCtorEq, Int.reduceNeg, Int.reduceSub, Int.reduceAdd, Int.reduceLE, Int.reduceLT, Int.reduceMul, Int.reduceToNat, Int.reduceEq, Int.reduceBEq, Int.reduceBNe, Nat.reduceEqDiff, u173, u13]
            refine hN _ (i + 1) hlt (by omega) ?_
            exact ⟨[], rfl, rfl, rfl, rfl, ⟨(.of_eq u0 ((congrArg (wfV 0) u0).trans rfl)), (.of_eq u2 ((congrArg (wfV 0) u2).trans rfl)), (.of_eq u3 ((congrArg (wfV 0) u3).trans rfl)), (.of_eq u12 ((congrArg (wfV 0) u12).trans rfl)), .same _ rfl, trivial⟩, trivial⟩
          cases hB : itsB l i owner with
          | true =>
            rw [hB] at hgo
            have hk : s.kind = 2 ∧ s.a = owner := by unfold itsB at hB; rw [hs] at hB; simpa using hB
            have hk1 := hk.1
            have hk2 := hk.2
            simp (maxSteps := 4000000) (disch := omega) only [EW, Nat.reduceBEq, reduceIte, Nat.reduceAdd, Nat.reduceLeDiff, Nat.reduceLT, Nat.reduceSub, Nat.reduceMul, reduceCtorEq, Int.reduceNeg, Int.reduceSub, Int.reduceAdd, Int.reduceLE, Int.reduceLT, Int.reduceMul, Int.reduceToNat, Int.reduceEq, Int.reduceBEq, Int.reduceBNe, Nat.reduceEqDiff, hsl, hgs1]
            exact hgo _ rfl rfl rfl rfl rfl rfl
          | false =>
            rw [hB] at hgo
            by_cases hk1 : s.kind = 2
            · have hk2 : ¬ s.a = owner := by intro hk2; unfold itsB at hB; rw [hs] at hB; simp [hk1, hk2] at hB
              simp (maxSteps := 4000000) (disch := omega) only [EW, Nat.reduceBEq, reduceIte, Nat.reduceAdd, Nat.reduceLeDiff, Nat.reduceLT, Nat.reduceSub, Nat.reduceMul, reduceCtorEq, Int.reduceNeg, Int.reduceSub, Int.reduceAdd, Int.reduceLE, Int.reduceLT, Int.reduceMul, Int.reduceToNat, Int.reduceEq, Int.reduceBEq, Int.reduceBNe, Nat.reduceEqDiff, hsl, hgs1]
              exact hgo _ rfl rfl rfl rfl rfl rfl
            · simp (maxSteps := 4000000) (disch := omega) only [EW, Nat.reduceBEq, reduceIte, Nat.reduceAdd, Nat.reduceLeDiff, Nat.reduceLT, Nat.reduceSub, Nat.reduceMul, reduceCtorEq, Int.reduceNeg, Int.reduceSub, Int.reduceAdd, Int.reduceLE, Int.reduceLT, Int.reduceMul, Int.reduceToNat, Int.reduceEq, Int.reduceBEq, Int.reduceBNe, Nat.reduceEqDiff, hsl, hgs1]
              exact hgo _ rfl rfl rfl rfl rfl rfl
        · have e : i = l.length := by omega
          subst e
          simp (maxSteps := 4000000) (disch := omega) only [EW, Nat.reduceBEq, reduceIte, Nat.reduceAdd, Nat.reduceLeDiff, Nat.reduceLT, Nat.reduceSub, Nat.reduceMul, reduceCtorEq, Int.reduceNeg, Int.reduceSub, Int.reduceAdd, Int.reduceLE, Int.reduceLT, Int.reduceMul, Int.reduceToNat, Int.reduceEq, Int.reduceBEq, Int.reduceBNe, Nat.reduceEqDiff, hsl]
          refine hE _ _ ?_
          simp (maxSteps := 4000000) (disch := omega) only [EW, Nat.reduceBEq, reduceIte, Nat.reduceAdd, Nat.reduceLeDiff, Nat.reduceLT, Nat.reduceSub, Nat.reduceMul, reduceCtorEq, Int.reduceNeg, Int.reduceSub, Int.reduceAdd, Int.reduceLE, Int.reduceLT, Int.reduceMul, Int.reduceToNat, Int.reduceEq, Int.reduceBEq, Int.reduceBNe, Nat.reduceEqDiff, hsl, hql, hql2]
          exact fin rfl
end Go.Proofs.VL

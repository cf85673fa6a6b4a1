/- Contracts of functions of the program, for what calls them, and the law that its name tells. -/
import Derived.Test.YtdiddnapamjojaaTF
import Derived.Test.YtdiddnapamjojaaV2
namespace Go.Proofs.VL
open Go Go.RowKit
set_option maxRecDepth 100000
set_option maxHeartbeats 2000000
set_option linter.unusedSimpArgs false
set_option linter.unusedVariables false
attribute [local irreducible] vwp vk

theorem u_decode {t : List UInt8} {rs : Runs} {l : LT} (h : lab t rs = l) (ht : t.length ≤ 10000000) (hrs : rs.length ≤ 100000000) :
    VFn Try.prog 59 [rawV t rs] (strV (decL l)) := by
  refine VFn.intro ok59 (Nat.le_of_ble_eq_true rfl) (vk_start ?_)
  have hn : Near l := h ▸ lab_near t rs
  have hL : l.length = t.length := by rw [← h, lab_length]
  have hT : txt l = t := by rw [← h]; exact lab_fst t rs
  have hdl := decL_len l.length l (Nat.le_refl _)
  simp (disch := omega) only [EW, Nat.reduceBEq, reduceIte, Nat.reduceAdd, Nat.reduceLeDiff, Nat.reduceLT, Nat.reduceSub, Nat.reduceMul, reduceCtorEq, Int.reduceNeg, Int.reduceSub, Int.reduceAdd, Int.reduceLE, Int.reduceLT, Int.reduceMul, Int.reduceToNat, Int.reduceEq, Int.reduceBEq, Int.reduceBNe, Nat.reduceEqDiff, vc59, rs59, rawV]
  refine vk_loopR (γ := Nat × List LT × Nat) (fun g => { tm := [(1, .ptr 0 0), (2, .ptr 1 0), (3, .ref 2 g.2.1.length), (4, .int .i64 g.2.2), (5, .int .i64 g.1)], ob := [some (.box [.str t, .sl 2 (rowsOf rs)]), some (.box [.str [], .nils]), some (.arr 29 2 (rawRows (g.2.1.map rawOf)))], base := 0 })
    (fun g => g.1 ≤ t.length ∧ g.2.2 ≤ g.1 ∧ g.2.1.length ≤ 2 * g.1 ∧ (∀ p ∈ g.2.1, Near p) ∧ g.2.1.flatten ++ ((l.take g.1).drop g.2.2 ++ decL (l.drop g.1)) = decL l) (fun g => t.length - g.1) (0, [], 0) ⟨Nat.zero_le _, Nat.zero_le _, Nat.zero_le _, fun p hp => by simp at hp, by simp⟩ ?_ ?_
  · exact ⟨[some 0, some 1, none], rfl, rfl, rfl, rfl, ⟨.ptr rfl, .ptr rfl, .nref rfl, .same _ rfl, .same _ rfl, trivial⟩, ⟨⟨_, rfl, .box (.cons (.same _ rfl) (.cons (.same _ rfl) .nil))⟩, ⟨⟨_, rfl, .box (.cons (.same _ rfl) (.cons (.same _ rfl) .nil))⟩, ⟨⟨_, _, rfl⟩, trivial⟩⟩⟩⟩
  · rintro ⟨i, ps, fr⟩ ⟨hi, hfr, hpl, hpn, heq⟩ R hN hE hR
    simp only at hi hfr hpl hpn heq
    have hrl : (rawRows (ps.map rawOf)).length = ps.length := by rw [rawRows_length]; simp
    have htk2 : List.take ps.length (rawRows (ps.map rawOf)) = rawRows (ps.map rawOf) := List.take_of_length_le (by omega)
    have p2 : clampN (fr : Int) l.length = fr := by unfold clampN; omega
    rcases Nat.lt_or_ge i t.length with hlt | hge
    · obtain ⟨⟨c, o⟩, hr⟩ : ∃ r, l[i]? = some r := ⟨_, List.getElem?_eq_getElem (by omega)⟩
      have hdrop : l.drop i = (c, o) :: l.drop (i + 1) := by
        rw [List.drop_eq_getElem_cons (by omega)]
        rw [List.getElem?_eq_getElem (by omega)] at hr
        simp only [Option.some.injEq] at hr
        rw [hr]
      have htk : l.take (i + 1) = l.take i ++ [(c, o)] := by rw [List.take_add_one, hr]; rfl
      have hdt : txt (l.drop i) = t.drop i := by rw [txt_drop, hT]
      have hut := u_take (t.drop i) (by rw [List.length_drop]; omega)
      have hle := takeB_le (t.drop i)
      have h4 := takeB_len (t.drop i)
      rw [List.length_drop] at hle
      rw [← hdt, hdrop] at hut hle h4
      rw [hdrop] at heq
      have p1 : clampN (i : Int) l.length = i := by unfold clampN; omega
      rcases hTk : takeB (txt ((c, o) :: l.drop (i + 1))) with ⟨b, m⟩
      rw [hTk] at hut hle h4
      simp only at hut hle h4
      simp (disch := omega) only [EW, Nat.reduceBEq, reduceIte, Nat.reduceAdd, Nat.reduceLeDiff, Nat.reduceLT, Nat.reduceSub, Nat.reduceMul, reduceCtorEq, Int.reduceNeg, Int.reduceSub, Int.reduceAdd, Int.reduceLE, Int.reduceLT, Int.reduceMul, Int.reduceToNat, Int.reduceEq, Int.reduceBEq, Int.reduceBNe, Nat.reduceEqDiff, List.take_length]
      refine vk_pass ?_
      simp (disch := omega) only [EW, Nat.reduceBEq, reduceIte, Nat.reduceAdd, Nat.reduceLeDiff, Nat.reduceLT, Nat.reduceSub, Nat.reduceMul, reduceCtorEq, Int.reduceNeg, Int.reduceSub, Int.reduceAdd, Int.reduceLE, Int.reduceLT, Int.reduceMul, Int.reduceToNat, Int.reduceEq, Int.reduceBEq, Int.reduceBNe, Nat.reduceEqDiff, List.take_length]
      rw [← hdt, hdrop]
      refine vk_callR rfl ⟨_, .inl rfl, hut⟩ ?_
      by_cases hm : m = 0
      · subst hm
        rw [decL_none (by rw [hTk])] at heq
        simp (disch := omega) only [EW, Nat.reduceBEq, reduceIte, Nat.reduceAdd, Nat.reduceLeDiff, Nat.reduceLT, Nat.reduceSub, Nat.reduceMul, reduceCtorEq, Int.reduceNeg, Int.reduceSub, Int.reduceAdd, Int.reduceLE, Int.reduceLT, Int.reduceMul, Int.reduceToNat, Int.reduceEq, Int.reduceBEq, Int.reduceBNe, Nat.reduceEqDiff]
        refine hN _ (i + 1, ps, fr) ⟨by simp only; omega, by simp only; omega, by simp only; omega, hpn, ?_⟩ (by simp only; omega) ?_
        · rw [← heq]; simp only
          rw [htk, List.drop_append_of_le_length (by simp; omega)]
          simp
        · exact ⟨[some 0, some 1, some 2], rfl, rfl, rfl, rfl, ⟨.ptr rfl, .ptr rfl, .ref rfl, .same _ rfl, .same _ rfl, trivial⟩, ⟨⟨_, rfl, .box (.cons (.same _ rfl) (.cons (.same _ rfl) .nil))⟩, ⟨⟨_, rfl, .box (.cons (.same _ rfl) (.cons (.same _ rfl) .nil))⟩, ⟨⟨_, rfl, .arr (.refl _)⟩, trivial⟩⟩⟩⟩
      · have p3 : clampN ((i : Int) + m) l.length = i + m := by unfold clampN; omega
        have hdm : (l.take (i + m)).drop i = (l.drop i).take m := by rw [List.drop_take]; congr 1; omega
        have hnd : Near ((l.take (i + m)).drop i) := (hn.take _).drop _
        have hwo := worst_near hnd
        have hw := worst_str hnd (by simp only [List.length_drop, List.length_take]; omega)
        have hof := of_of b (worstO ((l.take (i + m)).drop i)) hwo (by omega)
        simp (disch := omega) only [EW, Nat.reduceBEq, reduceIte, Nat.reduceAdd, Nat.reduceLeDiff, Nat.reduceLT, Nat.reduceSub, Nat.reduceMul, reduceCtorEq, Int.reduceNeg, Int.reduceSub, Int.reduceAdd, Int.reduceLE, Int.reduceLT, Int.reduceMul, Int.reduceToNat, Int.reduceEq, Int.reduceBEq, Int.reduceBNe, Nat.reduceEqDiff]
        refine vk_callR rfl ⟨[rawV t rs, .int .i64 fr, .int .i64 i], .inl rfl, cut_of h fr i (by omega) (by omega)⟩ ?_
        simp (disch := omega) only [EW, Nat.reduceBEq, reduceIte, Nat.reduceAdd, Nat.reduceLeDiff, Nat.reduceLT, Nat.reduceSub, Nat.reduceMul, reduceCtorEq, Int.reduceNeg, Int.reduceSub, Int.reduceAdd, Int.reduceLE, Int.reduceLT, Int.reduceMul, Int.reduceToNat, Int.reduceEq, Int.reduceBEq, Int.reduceBNe, Nat.reduceEqDiff]
        refine vk_callR rfl ⟨[rawV t rs, .int .i64 i, .int .i64 ((i : Int) + m)], .inl rfl, cut_of h i ((i : Int) + m) (by omega) (by omega)⟩ ?_
        simp (disch := omega) only [EW, Nat.reduceBEq, reduceIte, Nat.reduceAdd, Nat.reduceLeDiff, Nat.reduceLT, Nat.reduceSub, Nat.reduceMul, reduceCtorEq, Int.reduceNeg, Int.reduceSub, Int.reduceAdd, Int.reduceLE, Int.reduceLT, Int.reduceMul, Int.reduceToNat, Int.reduceEq, Int.reduceBEq, Int.reduceBNe, Nat.reduceEqDiff, strV_raw, p1, p3]
        refine vk_callR rfl ⟨_, .inl rfl, hw⟩ ?_
        simp (disch := omega) only [EW, Nat.reduceBEq, reduceIte, Nat.reduceAdd, Nat.reduceLeDiff, Nat.reduceLT, Nat.reduceSub, Nat.reduceMul, reduceCtorEq, Int.reduceNeg, Int.reduceSub, Int.reduceAdd, Int.reduceLE, Int.reduceLT, Int.reduceMul, Int.reduceToNat, Int.reduceEq, Int.reduceBEq, Int.reduceBNe, Nat.reduceEqDiff]
        refine vk_callR rfl ⟨_, .inl rfl, hof⟩ ?_
        simp (disch := omega) only [EW, Nat.reduceBEq, reduceIte, Nat.reduceAdd, Nat.reduceLeDiff, Nat.reduceLT, Nat.reduceSub, Nat.reduceMul, reduceCtorEq, Int.reduceNeg, Int.reduceSub, Int.reduceAdd, Int.reduceLE, Int.reduceLT, Int.reduceMul, Int.reduceToNat, Int.reduceEq, Int.reduceBEq, Int.reduceBNe, Nat.reduceEqDiff, strV_raw, rawV, p1, p2, hrl, htk2]
        have e1 : rawRows (ps.map rawOf) ++ [[.str (rawOf ((l.take i).drop fr)).1, .sl 2 (rowsOf (rawOf ((l.take i).drop fr)).2)], [.str (rawOf (b.map fun c => (c, worstO ((l.take (i + m)).drop i)))).1, .sl 2 (rowsOf (rawOf (b.map fun c => (c, worstO ((l.take (i + m)).drop i)))).2)]] = rawRows ((ps ++ [(l.take i).drop fr, b.map fun c => (c, worstO ((l.take (i + m)).drop i))]).map rawOf) := by simp [rawRows]
        rw [e1, show ((i : Int) + m - 1 + 1) = ((i + m : Nat) : Int) by omega, show ((i : Int) + m) = ((i + m : Nat) : Int) by omega]
        refine hN _ (i + m, ps ++ [(l.take i).drop fr, b.map fun c => (c, worstO ((l.take (i + m)).drop i))], i + m) ⟨by simp only; omega, Nat.le_refl _, by simp; omega, ?_, ?_⟩ (by simp only; omega) ?_
        · intro p hp
          simp only [List.mem_append, List.mem_cons, List.not_mem_nil, or_false] at hp
          rcases hp with hp | rfl | rfl
          · exact hpn p hp
          · exact (hn.take _).drop _
          · exact Near.map_const hwo _
        · simp only
          have e0 : (l.take (i + m)).drop (i + m) = [] := List.drop_eq_nil_of_le (by simp; omega)
          rw [← heq, decL_some hTk hm, e0, hdm, hdrop]
          rw [show ((c, o) :: l.drop (i + 1)).drop m = l.drop (i + m) by rw [← hdrop, List.drop_drop]]
          simp
        · simp only [rawRows_length, List.length_map, List.length_append, List.length_cons, List.length_nil]
          exact ⟨[some 0, some 1, some 3], rfl, rfl, rfl, rfl, ⟨.ptr rfl, .ptr rfl, .ref rfl, .same _ rfl, .same _ rfl, trivial⟩, ⟨⟨_, rfl, .box (.cons (.same _ rfl) (.cons (.same _ rfl) .nil))⟩, ⟨⟨_, rfl, .box (.cons (.same _ rfl) (.cons (.same _ rfl) .nil))⟩, ⟨⟨_, rfl, .arr (.refl _)⟩, trivial⟩⟩⟩⟩
    · have htk : l.take i = l := List.take_of_length_le (by omega)
      have hdn : l.drop i = [] := List.drop_eq_nil_of_le (by omega)
      rw [htk, hdn, decL_nil, List.append_nil] at heq
      have p1 : clampN (t.length : Int) l.length = l.length := by unfold clampN; omega
      simp (disch := omega) only [EW, Nat.reduceBEq, reduceIte, Nat.reduceAdd, Nat.reduceLeDiff, Nat.reduceLT, Nat.reduceSub, Nat.reduceMul, reduceCtorEq, Int.reduceNeg, Int.reduceSub, Int.reduceAdd, Int.reduceLE, Int.reduceLT, Int.reduceMul, Int.reduceToNat, Int.reduceEq, Int.reduceBEq, Int.reduceBNe, Nat.reduceEqDiff]
      refine hE _ _ ?_
      simp (disch := omega) only [EW, Nat.reduceBEq, reduceIte, Nat.reduceAdd, Nat.reduceLeDiff, Nat.reduceLT, Nat.reduceSub, Nat.reduceMul, reduceCtorEq, Int.reduceNeg, Int.reduceSub, Int.reduceAdd, Int.reduceLE, Int.reduceLT, Int.reduceMul, Int.reduceToNat, Int.reduceEq, Int.reduceBEq, Int.reduceBNe, Nat.reduceEqDiff]
      refine vk_call rfl (CallR.call ⟨[rawV t rs, .int .i64 fr, .int .i64 t.length], .inl rfl, cut_of h fr t.length (by omega) (by omega)⟩) ?_
      simp (disch := omega) only [EW, Nat.reduceBEq, reduceIte, Nat.reduceAdd, Nat.reduceLeDiff, Nat.reduceLT, Nat.reduceSub, Nat.reduceMul, reduceCtorEq, Int.reduceNeg, Int.reduceSub, Int.reduceAdd, Int.reduceLE, Int.reduceLT, Int.reduceMul, Int.reduceToNat, Int.reduceEq, Int.reduceBEq, Int.reduceBNe, Nat.reduceEqDiff, strV_raw, rawV, hrl, htk2, p1, p2, List.take_length]
      rw [rawRows_snoc]
      have hnp : ∀ p ∈ ps ++ [l.drop fr], Near p := by
        intro p hp
        simp only [List.mem_append, List.mem_singleton] at hp
        rcases hp with hp | rfl
        · exact hpn p hp
        · exact hn.drop _
      have hlabs := labs_rawOf hnp
      have hfin : (ps ++ [l.drop fr]).flatten = decL l := by rw [← heq]; simp
      rw [hfin] at hlabs
      have hct := catT_flatten (ps ++ [l.drop fr])
      rw [hfin] at hct
      have hpl2 : (ps ++ [l.drop fr]).length = ps.length + 1 := by simp
      have hrr : ∀ s ∈ (ps ++ [l.drop fr]).map rawOf, s.2.length ≤ 1000000000 := by
        intro s hs
        obtain ⟨p, hp, rfl⟩ := List.mem_map.1 hs
        have h1 := (rawOf_len p).2
        have h2 : p.length ≤ (ps ++ [l.drop fr]).flatten.length := by
          obtain ⟨a, b, hab⟩ := List.append_of_mem hp
          rw [hab]; simp; omega
        rw [hfin] at h2
        omega
      generalize ps ++ [l.drop fr] = qs at *
      refine vk_call rfl (VFn.eat1 (cat_of hlabs (by simp; omega) hrr (by omega)) 3 ?_) ?_
      · exact lend1 rfl (by rw [rawRows_length, List.length_map]; omega)
      · simp (disch := omega) only [EW, Nat.reduceBEq, reduceIte, Nat.reduceAdd, Nat.reduceLeDiff, Nat.reduceLT, Nat.reduceSub, Nat.reduceMul, reduceCtorEq, Int.reduceNeg, Int.reduceSub, Int.reduceAdd, Int.reduceLE, Int.reduceLT, Int.reduceMul, Int.reduceToNat, Int.reduceEq, Int.reduceBEq, Int.reduceBNe, Nat.reduceEqDiff, strV_raw, rawV]
        exact fin rfl
end Go.Proofs.VL

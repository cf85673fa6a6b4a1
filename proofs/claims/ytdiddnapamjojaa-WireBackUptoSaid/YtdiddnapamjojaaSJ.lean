/- Contracts of functions of the program, for what calls them, and the law that its name tells. -/
import Derived.Test.YtdiddnapamjojaaSI
import Derived.Test.YtdiddnapamjojaaV2
namespace Go.Proofs.VL
open Go Go.RowKit
set_option maxRecDepth 100000
set_option maxHeartbeats 2000000
set_option linter.unusedSimpArgs false
set_option linter.unusedVariables false

theorem swapL_near {old : UInt8} {by' : List UInt8} {l : LT} (h : Near l) : Near (swapL old by' l) := by
  intro c hc
  simp only [swapL, List.mem_flatMap] at hc
  obtain ⟨d, hd, hc⟩ := hc
  split at hc
  · obtain ⟨b, _, rfl⟩ := List.mem_map.1 hc
    exact h d hd
  · simp at hc; subst hc; exact h _ hd

theorem of_of (t : List UInt8) (o : Int) (ho : nearI o = o) (ht : t.length ≤ 1000000000) : VFn Try.prog 65 [.str t, .int .i64 o] (strV (t.map fun b => (b, o))) := by
  have e : strV (t.map fun b => (b, o)) = rawV t (rle (List.replicate t.length (nearI o))) := by
    unfold strV
    have e1 : (t.map fun b => (b, o)).map (·.1) = t := by rw [List.map_map]; exact List.map_id t
    have e2 : (t.map fun b => (b, o)).map (·.2) = List.replicate t.length o := by rw [List.map_map]; exact List.map_const'
    rw [e1, e2, ho]
  rw [e]
  exact mark_of t o ht

theorem catT_flatten (ps : List LT) : (catT (ps.map rawOf)).length = ps.flatten.length := by
  induction ps with
  | nil => rfl
  | cons p ps ih => simp only [catT, List.map_cons, List.flatMap_cons, List.length_append, List.flatten_cons] at ih ⊢; rw [ih]; simp [rawOf]

theorem rawRows_snoc (ps : List LT) (q : LT) : rawRows (ps.map rawOf) ++ [[.str (rawOf q).1, .sl 2 (rowsOf (rawOf q).2)]] = rawRows ((ps ++ [q]).map rawOf) := by simp [rawRows]

theorem lend1 {ob : List (Option VObj)} {k e n sz : Nat} {rows : List (List V)} (h : ob[k]? = some (some (.arr e sz rows))) (hn : n = rows.length) : lendL ob [.ref k n] = some [.sl sz rows] := by
  unfold lendL
  rw [lend_rows h hn]
  rfl

theorem swap_of {t : List UInt8} {rs : Runs} {l : LT} (h : lab t rs = l) (old : UInt8) (by' : List UInt8) (hb : by'.length ≤ 10) (ht : t.length ≤ 100000000) (hrs : rs.length ≤ 100000000) :
    VFn Try.prog 120 [rawV t rs, .int .u8 old.toNat, .str by'] (strV (swapL old by' l)) := by
  refine VFn.intro ok120 (Nat.le_of_ble_eq_true rfl) (vk_start ?_)
  have hn : Near l := h ▸ lab_near t rs
  have hL : l.length = t.length := by rw [← h, lab_length]
  have hT : l.map (·.1) = t := by rw [← h, lab_fst]
  simp only [vc120, rs120, rawV, wrap64, EV0, e_condB, Nat.reduceBEq, reduceIte, Nat.reduceAdd, Nat.reduceLeDiff, Nat.reduceLT, Nat.reduceSub, Nat.reduceMul, reduceCtorEq, Int.reduceNeg, Int.reduceSub, Int.reduceAdd, Int.reduceLE, Int.reduceLT, Int.reduceMul, Int.reduceToNat, Int.reduceEq, Int.reduceBEq, Int.reduceBNe, Nat.reduceEqDiff]
  refine vk_loopR (γ := Nat × List LT × Nat) (fun g => { tm := [(1, .int .u8 old.toNat), (2, .str by'), (3, .ptr 0 0), (6, .ptr 1 0), (7, .ref 2 g.2.1.length), (8, .int .i64 g.2.2), (12, .int .i64 t.length), (13, .int .i64 g.1)], ob := [some (.box [.str t, .sl 2 (rowsOf rs)]), some (.box [.str [], .nils]), some (.arr 29 2 (rawRows (g.2.1.map rawOf)))], base := 0 })
    (fun g => g.1 ≤ t.length ∧ g.2.2 ≤ g.1 ∧ g.2.1.length ≤ 2 * g.1 ∧ (∀ p ∈ g.2.1, Near p) ∧ g.2.1.flatten ++ (l.take g.1).drop g.2.2 = swapL old by' (l.take g.1)) (fun g => t.length - g.1) (0, [], 0) ⟨Nat.zero_le _, Nat.zero_le _, Nat.zero_le _, fun p hp => by simp at hp, by simp [swapL]⟩ ?_ ?_
  · exact ⟨[some 0, some 1, none], rfl, rfl, rfl, rfl, ⟨.same _ rfl, .same _ rfl, .ptr rfl, .ptr rfl, .nref rfl, .same _ rfl, .same _ rfl, .same _ rfl, trivial⟩, ⟨⟨_, rfl, .box (.cons (.same _ rfl) (.cons (.same _ rfl) .nil))⟩, ⟨⟨_, rfl, .box (.cons (.same _ rfl) (.cons (.same _ rfl) .nil))⟩, ⟨⟨_, _, rfl⟩, trivial⟩⟩⟩⟩
  · rintro ⟨i, ps, fr⟩ ⟨hi, hfr, hpl, hpn, heq⟩ R hN hE hR
    simp only at hi hfr hpl hpn heq
    have c0 : (0 ≤ (i : Int)) = True := by simp
    have hfl := swapL_length old by' (l.take i) hb
    rcases Nat.lt_or_ge i t.length with hlt | hge
    · have c1 : ((i : Int) < (t.length : Int)) = True := by simp; omega
      obtain ⟨⟨c, o⟩, hr⟩ : ∃ r, l[i]? = some r := ⟨_, List.getElem?_eq_getElem (by omega)⟩
      have hrt : t[i]? = some c := by rw [← hT, List.getElem?_map, hr]; rfl
      have w1 : IntKind.i64.wrap ((i : Int) + 1) = i + 1 := wrap64 (by omega) (by omega)
      have htk : l.take (i + 1) = l.take i ++ [(c, o)] := by rw [List.take_add_one, hr]; rfl
      have ho : nearI o = o := hn (c, o) (List.mem_of_getElem? hr)
      have hli : (l.take i).length = i := by simp; omega
      have hsw : swapL old by' (l.take (i + 1)) = swapL old by' (l.take i) ++ (if c = old then by'.map (fun b => (b, o)) else [(c, o)]) := by rw [htk, swapL_append]; simp [swapL]
      by_cases hco : c = old
      · have b1 : (c == old) = true := by simp [hco]
        simp only [wrap64, EV0, e_condB, Nat.reduceBEq, reduceIte, Nat.reduceAdd, Nat.reduceLeDiff, Nat.reduceLT, Nat.reduceSub, Nat.reduceMul, reduceCtorEq, Int.reduceNeg, Int.reduceSub, Int.reduceAdd, Int.reduceLE, Int.reduceLT, Int.reduceMul, Int.reduceToNat, Int.reduceEq, Int.reduceBEq, Int.reduceBNe, Nat.reduceEqDiff, c0, c1, hrt, byte_eq, b1]
        refine vk_callR rfl ⟨[rawV t rs, .int .i64 fr, .int .i64 i], .inl rfl, cut_of h fr i (by omega) (by omega)⟩ ?_
        simp only [wrap64, EV0, e_condB, Nat.reduceBEq, reduceIte, Nat.reduceAdd, Nat.reduceLeDiff, Nat.reduceLT, Nat.reduceSub, Nat.reduceMul, reduceCtorEq, Int.reduceNeg, Int.reduceSub, Int.reduceAdd, Int.reduceLE, Int.reduceLT, Int.reduceMul, Int.reduceToNat, Int.reduceEq, Int.reduceBEq, Int.reduceBNe, Nat.reduceEqDiff, strV_raw, rawV]
        refine vk_callR rfl ⟨[rawV t rs, .int .i64 i], .inl rfl, mark_at h hr (by omega) (by omega)⟩ ?_
        simp only [wrap64, EV0, e_condB, Nat.reduceBEq, reduceIte, Nat.reduceAdd, Nat.reduceLeDiff, Nat.reduceLT, Nat.reduceSub, Nat.reduceMul, reduceCtorEq, Int.reduceNeg, Int.reduceSub, Int.reduceAdd, Int.reduceLE, Int.reduceLT, Int.reduceMul, Int.reduceToNat, Int.reduceEq, Int.reduceBEq, Int.reduceBNe, Nat.reduceEqDiff]
        refine vk_callR rfl ⟨_, .inl rfl, of_of by' o ho (by omega)⟩ ?_
        have p1 : clampN (i : Int) l.length = i := by unfold clampN; omega
        have p2 : clampN (fr : Int) l.length = fr := by unfold clampN; omega
        have d1 : ps.length + 2 ≤ 140737488355328 := by omega
        have d2 : (ps.length + 2) * 40 ≤ 140737488355328 := by omega
        have hrl : (rawRows (ps.map rawOf)).length = ps.length := by rw [rawRows_length]; simp
        have htk2 : List.take ps.length (rawRows (ps.map rawOf)) = rawRows (ps.map rawOf) := List.take_of_length_le (by omega)
        have e1 : rawRows (ps.map rawOf) ++ [[.str (rawOf ((l.take i).drop fr)).1, .sl 2 (rowsOf (rawOf ((l.take i).drop fr)).2)], [.str (rawOf (by'.map fun b => (b, o))).1, .sl 2 (rowsOf (rawOf (by'.map fun b => (b, o))).2)]] = rawRows ((ps ++ [(l.take i).drop fr, by'.map fun b => (b, o)]).map rawOf) := by simp [rawRows]
        simp only [wrap64, EV0, e_condB, Nat.reduceBEq, reduceIte, Nat.reduceAdd, Nat.reduceLeDiff, Nat.reduceLT, Nat.reduceSub, Nat.reduceMul, reduceCtorEq, Int.reduceNeg, Int.reduceSub, Int.reduceAdd, Int.reduceLE, Int.reduceLT, Int.reduceMul, Int.reduceToNat, Int.reduceEq, Int.reduceBEq, Int.reduceBNe, Nat.reduceEqDiff, strV_raw, rawV, hrl, htk2, d1, d2, p1, p2, e1, w1]
        refine hN _ (i + 1, ps ++ [(l.take i).drop fr, by'.map fun b => (b, o)], i + 1) ⟨by simp only; omega, Nat.le_refl _, by simp; omega, ?_, ?_⟩ (by simp only; omega) ?_
        · intro p hp
          simp only [List.mem_append, List.mem_cons, List.not_mem_nil, or_false] at hp
          rcases hp with hp | rfl | rfl
          · exact hpn p hp
          · exact (hn.take _).drop _
          · exact Near.map_const ho _
        · simp only
          have e0 : (l.take (i + 1)).drop (i + 1) = [] := List.drop_eq_nil_of_le (by simp; omega)
          rw [hsw, if_pos hco, ← heq, e0]
          simp
        · simp only [rawRows_length, List.length_map, List.length_append, List.length_cons, List.length_nil]
          exact ⟨[some 0, some 1, some 3], rfl, rfl, rfl, rfl, ⟨.same _ rfl, .same _ rfl, .ptr rfl, .ptr rfl, .ref rfl, .same _ rfl, .same _ rfl, .same _ rfl, trivial⟩, ⟨⟨_, rfl, .box (.cons (.same _ rfl) (.cons (.same _ rfl) .nil))⟩, ⟨⟨_, rfl, .box (.cons (.same _ rfl) (.cons (.same _ rfl) .nil))⟩, ⟨⟨_, rfl, .arr (.refl _)⟩, trivial⟩⟩⟩⟩
      · have b1 : (c == old) = false := by simp [hco]
        simp only [wrap64, EV0, e_condB, Nat.reduceBEq, reduceIte, Nat.reduceAdd, Nat.reduceLeDiff, Nat.reduceLT, Nat.reduceSub, Nat.reduceMul, reduceCtorEq, Int.reduceNeg, Int.reduceSub, Int.reduceAdd, Int.reduceLE, Int.reduceLT, Int.reduceMul, Int.reduceToNat, Int.reduceEq, Int.reduceBEq, Int.reduceBNe, Nat.reduceEqDiff, c0, c1, hrt, byte_eq, b1, w1]
        refine hN _ (i + 1, ps, fr) ⟨by simp only; omega, by simp only; omega, by simp only; omega, hpn, ?_⟩ (by simp only; omega) ?_
        · simp only
          rw [hsw, if_neg hco, ← heq, htk, List.drop_append_of_le_length (by omega)]
          simp
        · exact ⟨[some 0, some 1, some 2], rfl, rfl, rfl, rfl, ⟨.same _ rfl, .same _ rfl, .ptr rfl, .ptr rfl, .ref rfl, .same _ rfl, .same _ rfl, .same _ rfl, trivial⟩, ⟨⟨_, rfl, .box (.cons (.same _ rfl) (.cons (.same _ rfl) .nil))⟩, ⟨⟨_, rfl, .box (.cons (.same _ rfl) (.cons (.same _ rfl) .nil))⟩, ⟨⟨_, rfl, .arr (.refl _)⟩, trivial⟩⟩⟩⟩
    · have c1 : ((i : Int) < (t.length : Int)) = False := by simp; omega
      have htk : l.take i = l := List.take_of_length_le (by omega)
      rw [htk] at heq hfl
      simp only [wrap64, EV0, e_condB, Nat.reduceBEq, reduceIte, Nat.reduceAdd, Nat.reduceLeDiff, Nat.reduceLT, Nat.reduceSub, Nat.reduceMul, reduceCtorEq, Int.reduceNeg, Int.reduceSub, Int.reduceAdd, Int.reduceLE, Int.reduceLT, Int.reduceMul, Int.reduceToNat, Int.reduceEq, Int.reduceBEq, Int.reduceBNe, Nat.reduceEqDiff, c0, c1]
      refine hE _ _ ?_
      simp only [wrap64, EV0, e_condB, Nat.reduceBEq, reduceIte, Nat.reduceAdd, Nat.reduceLeDiff, Nat.reduceLT, Nat.reduceSub, Nat.reduceMul, reduceCtorEq, Int.reduceNeg, Int.reduceSub, Int.reduceAdd, Int.reduceLE, Int.reduceLT, Int.reduceMul, Int.reduceToNat, Int.reduceEq, Int.reduceBEq, Int.reduceBNe, Nat.reduceEqDiff]
      refine vk_call rfl (CallR.call ⟨[rawV t rs, .int .i64 fr, .int .i64 t.length], .inl rfl, cut_of h fr t.length (by omega) (by omega)⟩) ?_
      have p1 : clampN (t.length : Int) l.length = l.length := by unfold clampN; omega
      have p2 : clampN (fr : Int) l.length = fr := by unfold clampN; omega
      have d1 : ps.length + 1 ≤ 140737488355328 := by omega
      have d2 : (ps.length + 1) * 40 ≤ 140737488355328 := by omega
      have hrl : (rawRows (ps.map rawOf)).length = ps.length := by rw [rawRows_length]; simp
      have htk2 : List.take ps.length (rawRows (ps.map rawOf)) = rawRows (ps.map rawOf) := List.take_of_length_le (by omega)
      simp only [wrap64, EV0, e_condB, Nat.reduceBEq, reduceIte, Nat.reduceAdd, Nat.reduceLeDiff, Nat.reduceLT, Nat.reduceSub, Nat.reduceMul, reduceCtorEq, Int.reduceNeg, Int.reduceSub, Int.reduceAdd, Int.reduceLE, Int.reduceLT, Int.reduceMul, Int.reduceToNat, Int.reduceEq, Int.reduceBEq, Int.reduceBNe, Nat.reduceEqDiff, strV_raw, rawV, hrl, htk2, d1, d2, p1, p2, List.take_length, rawRows_snoc]
      have hnp : ∀ p ∈ ps ++ [l.drop fr], Near p := by
        intro p hp
        simp only [List.mem_append, List.mem_singleton] at hp
        rcases hp with hp | rfl
        · exact hpn p hp
        · exact hn.drop _
      have hlabs := labs_rawOf hnp
      have hfin : (ps ++ [l.drop fr]).flatten = swapL old by' l := by rw [← heq]; simp
      rw [hfin] at hlabs
      have hct := catT_flatten (ps ++ [l.drop fr])
      rw [hfin] at hct
      have hpl2 : (ps ++ [l.drop fr]).length = ps.length + 1 := by simp
      have hrr : ∀ s ∈ (ps ++ [l.drop fr]).map rawOf, s.2.length ≤ 1000000000 := by
        intro s hs
        obtain ⟨p, hp, rfl⟩ := List.mem_map.1 hs
        have h1 := (rawOf_len p).2
        have h2 : p.length ≤ (ps ++ [l.drop fr]).flatten.length := by
          obtain ⟨a, b, hab⟩ := List.append_of_mem hp
          rw [hab]; simp; omega
        rw [hfin] at h2
        omega
      generalize ps ++ [l.drop fr] = qs at *
      refine vk_call rfl (VFn.eat (cat_of hlabs (by simp; omega) hrr (by omega)) [3] ?_) ?_
      · exact lend1 rfl rfl
      · simp only [wrap64, EV0, e_condB, Nat.reduceBEq, reduceIte, Nat.reduceAdd, Nat.reduceLeDiff, Nat.reduceLT, Nat.reduceSub, Nat.reduceMul, reduceCtorEq, Int.reduceNeg, Int.reduceSub, Int.reduceAdd, Int.reduceLE, Int.reduceLT, Int.reduceMul, Int.reduceToNat, Int.reduceEq, Int.reduceBEq, Int.reduceBNe, Nat.reduceEqDiff, strV_raw, rawV]
        exact ⟨_, _, rfl, rfl, .refl _⟩
end Go.Proofs.VL

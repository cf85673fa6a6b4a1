/- Contracts of functions of the program, for what calls them, and the law that its name tells. -/
import Derived.Test.YtdiddnapamjojaaSJ
namespace Go.Proofs.VL
open Go Go.RowKit
set_option maxRecDepth 100000
set_option maxHeartbeats 2000000
set_option linter.unusedSimpArgs false
set_option linter.unusedVariables false

def chRows (cs : List (UInt8 × List UInt8)) : List (List V) := cs.map fun c => [.int .u8 c.1.toNat, .str c.2]

/-- changed: some changes, one behind the other. -/
theorem changed_of {t : List UInt8} {rs : Runs} {l : LT} (h : lab t rs = l) (k m : Nat) (hkm : k + m ≤ 5) (hm : 0 < m) (l0 : LT) (hl0 : l = escL k l0) (hlen : l0.length ≤ 10000000) (hrs : rs.length ≤ 100000000) :
    VFn Try.prog 95 [rawV t rs, .sl 2 (chRows ((changes.drop k).take m))] (strV (escL (k + m) l0)) := by
  refine VFn.intro ok95 (Nat.le_of_ble_eq_true rfl) (vk_start ?_)
  have hcl : ((changes.drop k).take m).length = m := by simp [changes]; omega
  have hrl : (chRows ((changes.drop k).take m)).length = m := by simp only [chRows, List.length_map, hcl]
  have hn0 : Near l := h ▸ lab_near t rs
  have htl : t.length = l.length := by rw [← h, lab_length]
  have hll : l.length ≤ 6 * l0.length := by rw [hl0]; exact escL_len k l0
  simp only [vc95, rs95, rawV, wrap64, EV0, e_condB, Nat.reduceBEq, reduceIte, Nat.reduceAdd, Nat.reduceLeDiff, Nat.reduceLT, Nat.reduceSub, Nat.reduceMul, reduceCtorEq, Int.reduceNeg, Int.reduceSub, Int.reduceAdd, Int.reduceLE, Int.reduceLT, Int.reduceMul, Int.reduceToNat, Int.reduceEq, Int.reduceBEq, Int.reduceBNe, Nat.reduceEqDiff, hrl]
  refine vk_loopR (γ := Nat × Raw) (fun g => { tm := [(2, .ptr 0 0), (4, .ptr 1 0), (7, .sl 2 (chRows ((changes.drop k).take m))), (8, .int .i64 m), (9, .int .i64 g.1)], ob := [some (.box [.str g.2.1, .sl 2 (rowsOf g.2.2)]), some (.box [.str [], .nils])], base := 0 })
    (fun g => g.1 ≤ m ∧ lab g.2.1 g.2.2 = escL (k + g.1) l0 ∧ g.2.2.length ≤ 100000000 ∧ (0 < g.1 → g.2 = rawOf (escL (k + g.1) l0))) (fun g => m - g.1) (0, t, rs) ⟨Nat.zero_le _, by simp only; rw [h, hl0]; rfl, hrs, fun h => by simp only at h; omega⟩ ?_ ?_
  · exact ⟨[some 0, some 1], rfl, rfl, rfl, rfl, ⟨.ptr rfl, .ptr rfl, .same _ rfl, .same _ rfl, .same _ rfl, trivial⟩, ⟨⟨_, rfl, .box (.cons (.same _ rfl) (.cons (.same _ rfl) .nil))⟩, ⟨⟨_, rfl, .box (.cons (.same _ rfl) (.cons (.same _ rfl) .nil))⟩, trivial⟩⟩⟩
  · rintro ⟨i, t1, rs1⟩ ⟨hi, hlab, hr1, hpos⟩ R hN hE hR
    simp only at hi hlab hr1 hpos
    have c0 : (0 ≤ (i : Int)) = True := by simp
    rcases Nat.lt_or_ge i m with hlt | hge
    · have c1 : ((i : Int) < (m : Int)) = True := by simp; omega
      obtain ⟨⟨old, by'⟩, hr⟩ : ∃ r, ((changes.drop k).take m)[i]? = some r := ⟨_, List.getElem?_eq_getElem (by omega)⟩
      have hrow : (chRows ((changes.drop k).take m))[i]? = some [.int .u8 old.toNat, .str by'] := by simp only [chRows, List.getElem?_map, hr]; rfl
      have hch : changes[k + i]? = some (old, by') := by
        rw [List.getElem?_take, if_pos hlt, List.getElem?_drop] at hr
        exact hr
      have w1 : IntKind.i64.wrap ((i : Int) + 1) = i + 1 := wrap64 (by omega) (by omega)
      have hby : by'.length ≤ 10 := by
        have : ∀ c ∈ changes, c.2.length ≤ 10 := by decide
        exact this _ (List.mem_of_getElem? hch)
      have ht1 : t1.length ≤ 100000000 := by
        have h1 := congrArg List.length hlab
        rw [lab_length] at h1
        have := escL_len (k + i) l0
        omega
      simp only [wrap64, EV0, e_condB, Nat.reduceBEq, reduceIte, Nat.reduceAdd, Nat.reduceLeDiff, Nat.reduceLT, Nat.reduceSub, Nat.reduceMul, reduceCtorEq, Int.reduceNeg, Int.reduceSub, Int.reduceAdd, Int.reduceLE, Int.reduceLT, Int.reduceMul, Int.reduceToNat, Int.reduceEq, Int.reduceBEq, Int.reduceBNe, Nat.reduceEqDiff, c0, c1, hrow]
      refine vk_call rfl (CallR.call ⟨[rawV t1 rs1, .int .u8 old.toNat, .str by'], .inl rfl, swap_of hlab old by' hby ht1 hr1⟩) ?_
      rw [escL_step (k + i) old by' hch]
      simp only [wrap64, EV0, e_condB, Nat.reduceBEq, reduceIte, Nat.reduceAdd, Nat.reduceLeDiff, Nat.reduceLT, Nat.reduceSub, Nat.reduceMul, reduceCtorEq, Int.reduceNeg, Int.reduceSub, Int.reduceAdd, Int.reduceLE, Int.reduceLT, Int.reduceMul, Int.reduceToNat, Int.reduceEq, Int.reduceBEq, Int.reduceBNe, Nat.reduceEqDiff, strV_raw, rawV, w1]
      have hlen2 := rawOf_len (escL (k + (i + 1)) l0)
      have hl6 := escL_len (k + (i + 1)) l0
      have hnear : Near (escL (k + (i + 1)) l0) := by
        have : Near (escL (k + i) l0) := hlab ▸ lab_near t1 rs1
        rw [show k + (i + 1) = k + i + 1 from rfl, ← escL_step (k + i) old by' hch]
        exact swapL_near this
      refine hN _ (i + 1, rawOf (escL (k + (i + 1)) l0)) ⟨by simp only; omega, lab_rawOf hnear, by simp only; omega, fun _ => rfl⟩ (by simp only; omega) ?_
      exact ⟨[some 0, some 1], rfl, rfl, rfl, rfl, ⟨.ptr rfl, .ptr rfl, .same _ rfl, .same _ rfl, .same _ rfl, trivial⟩, ⟨⟨_, rfl, .box (.cons (.same _ rfl) (.cons (.same _ rfl) .nil))⟩, ⟨⟨_, rfl, .box (.cons (.same _ rfl) (.cons (.same _ rfl) .nil))⟩, trivial⟩⟩⟩
    · have c1 : ((i : Int) < (m : Int)) = False := by simp; omega
      have him : i = m := by omega
      subst him
      have hp := hpos hm
      have h1 : t1 = (rawOf (escL (k + i) l0)).1 := congrArg Prod.fst hp
      have h2 : rs1 = (rawOf (escL (k + i) l0)).2 := congrArg Prod.snd hp
      simp only [wrap64, EV0, e_condB, Nat.reduceBEq, reduceIte, Nat.reduceAdd, Nat.reduceLeDiff, Nat.reduceLT, Nat.reduceSub, Nat.reduceMul, reduceCtorEq, Int.reduceNeg, Int.reduceSub, Int.reduceAdd, Int.reduceLE, Int.reduceLT, Int.reduceMul, Int.reduceToNat, Int.reduceEq, Int.reduceBEq, Int.reduceBNe, Nat.reduceEqDiff, c0, c1]
      refine hE _ _ ?_
      simp only [wrap64, EV0, e_condB, Nat.reduceBEq, reduceIte, Nat.reduceAdd, Nat.reduceLeDiff, Nat.reduceLT, Nat.reduceSub, Nat.reduceMul, reduceCtorEq, Int.reduceNeg, Int.reduceSub, Int.reduceAdd, Int.reduceLE, Int.reduceLT, Int.reduceMul, Int.reduceToNat, Int.reduceEq, Int.reduceBEq, Int.reduceBNe, Nat.reduceEqDiff, strV_raw, rawV, h1, h2]
      exact ⟨_, _, rfl, rfl, .refl _⟩

theorem words_of {t : List UInt8} {rs : Runs} {l : LT} (h : lab t rs = l) (hlen : l.length ≤ 10000000) (hrs : rs.length ≤ 100000000) : VFn Try.prog 39 [rawV t rs] (strV (escL 4 l)) := by
  refine VFn.intro ok39 (Nat.le_of_ble_eq_true rfl) (vk_start ?_)
  simp only [vc39, rs39, rawV, wrap64, EV0, e_condB, Nat.reduceBEq, reduceIte, Nat.reduceAdd, Nat.reduceLeDiff, Nat.reduceLT, Nat.reduceSub, Nat.reduceMul, reduceCtorEq, Int.reduceNeg, Int.reduceSub, Int.reduceAdd, Int.reduceLE, Int.reduceLT, Int.reduceMul, Int.reduceToNat, Int.reduceEq, Int.reduceBEq, Int.reduceBNe, Nat.reduceEqDiff]
  refine vk_call rfl (CallR.call ⟨[rawV t rs, .sl 2 (chRows ((changes.drop 0).take 4))], .inl rfl, changed_of h 0 4 (by omega) (by omega) l (escL_zero l).symm hlen hrs⟩) ?_
  simp only [wrap64, EV0, e_condB, Nat.reduceBEq, reduceIte, Nat.reduceAdd, Nat.reduceLeDiff, Nat.reduceLT, Nat.reduceSub, Nat.reduceMul, reduceCtorEq, Int.reduceNeg, Int.reduceSub, Int.reduceAdd, Int.reduceLE, Int.reduceLT, Int.reduceMul, Int.reduceToNat, Int.reduceEq, Int.reduceBEq, Int.reduceBNe, Nat.reduceEqDiff, strV_raw, rawV]
  exact ⟨_, _, rfl, rfl, .refl _⟩

theorem value_of {t : List UInt8} {rs : Runs} {l : LT} (h : lab t rs = l) (hlen : l.length ≤ 10000000) (hrs : rs.length ≤ 100000000) : VFn Try.prog 40 [rawV t rs] (strV (escL 5 l)) := by
  refine VFn.intro ok40 (Nat.le_of_ble_eq_true rfl) (vk_start ?_)
  have hn : Near (escL 4 l) := escL_near (h ▸ lab_near t rs)
  have h4 := rawOf_len (escL 4 l)
  have h6 := escL_len 4 l
  simp only [vc40, rs40, rawV, wrap64, EV0, e_condB, Nat.reduceBEq, reduceIte, Nat.reduceAdd, Nat.reduceLeDiff, Nat.reduceLT, Nat.reduceSub, Nat.reduceMul, reduceCtorEq, Int.reduceNeg, Int.reduceSub, Int.reduceAdd, Int.reduceLE, Int.reduceLT, Int.reduceMul, Int.reduceToNat, Int.reduceEq, Int.reduceBEq, Int.reduceBNe, Nat.reduceEqDiff]
  refine vk_call rfl (CallR.call ⟨[rawV t rs], .inl rfl, words_of h hlen hrs⟩) ?_
  simp only [wrap64, EV0, e_condB, Nat.reduceBEq, reduceIte, Nat.reduceAdd, Nat.reduceLeDiff, Nat.reduceLT, Nat.reduceSub, Nat.reduceMul, reduceCtorEq, Int.reduceNeg, Int.reduceSub, Int.reduceAdd, Int.reduceLE, Int.reduceLT, Int.reduceMul, Int.reduceToNat, Int.reduceEq, Int.reduceBEq, Int.reduceBNe, Nat.reduceEqDiff, strV_raw, rawV]
  refine vk_call rfl (CallR.call ⟨[rawV (rawOf (escL 4 l)).1 (rawOf (escL 4 l)).2, .sl 2 (chRows ((changes.drop 4).take 1))], .inl rfl, changed_of (lab_rawOf hn) 4 1 (by omega) (by omega) l rfl hlen (by omega)⟩) ?_
  simp only [wrap64, EV0, e_condB, Nat.reduceBEq, reduceIte, Nat.reduceAdd, Nat.reduceLeDiff, Nat.reduceLT, Nat.reduceSub, Nat.reduceMul, reduceCtorEq, Int.reduceNeg, Int.reduceSub, Int.reduceAdd, Int.reduceLE, Int.reduceLT, Int.reduceMul, Int.reduceToNat, Int.reduceEq, Int.reduceBEq, Int.reduceBNe, Nat.reduceEqDiff, strV_raw, rawV]
  exact ⟨_, _, rfl, rfl, .refl _⟩

theorem alive09 : VFn Try.prog 38 [] (.bool true) := by
  refine VFn.intro ok38 (Nat.le_of_ble_eq_true rfl) (vk_start ?_)
  simp only [vc38, rs38, wrap64, EV0, e_condB, Nat.reduceBEq, reduceIte, Nat.reduceAdd, Nat.reduceLeDiff, Nat.reduceLT, Nat.reduceSub, Nat.reduceMul, reduceCtorEq, Int.reduceNeg, Int.reduceSub, Int.reduceAdd, Int.reduceLE, Int.reduceLT, Int.reduceMul, Int.reduceToNat, Int.reduceEq, Int.reduceBEq, Int.reduceBNe, Nat.reduceEqDiff]
  refine vk_call rfl (CallR.call ⟨_, .inl rfl, of_of [97, 60, 98] 0 (by decide) (by decide)⟩) ?_
  simp only [wrap64, EV0, e_condB, Nat.reduceBEq, reduceIte, Nat.reduceAdd, Nat.reduceLeDiff, Nat.reduceLT, Nat.reduceSub, Nat.reduceMul, reduceCtorEq, Int.reduceNeg, Int.reduceSub, Int.reduceAdd, Int.reduceLE, Int.reduceLT, Int.reduceMul, Int.reduceToNat, Int.reduceEq, Int.reduceBEq, Int.reduceBNe, Nat.reduceEqDiff, strV_raw, rawV]
  refine vk_call rfl (CallR.call ⟨[rawV (rawOf [(97, 0), (60, 0), (98, 0)]).1 (rawOf [(97, 0), (60, 0), (98, 0)]).2], .inl rfl, words_of (l := [(97, 0), (60, 0), (98, 0)]) (lab_rawOf (by intro c hc; simp at hc; rcases hc with rfl | rfl | rfl <;> decide)) (by decide) (by decide)⟩) ?_
  have e : escL 4 [(97, 0), (60, 0), (98, 0)] = [(97, 0), (38, 0), (108, 0), (116, 0), (59, 0), (98, 0)] := by decide
  have e2 : (rawOf [(97, 0), (38, 0), (108, 0), (116, 0), (59, 0), (98, 0)]).1 = [97, 38, 108, 116, 59, 98] := rfl
  simp only [wrap64, EV0, e_condB, Nat.reduceBEq, reduceIte, Nat.reduceAdd, Nat.reduceLeDiff, Nat.reduceLT, Nat.reduceSub, Nat.reduceMul, reduceCtorEq, Int.reduceNeg, Int.reduceSub, Int.reduceAdd, Int.reduceLE, Int.reduceLT, Int.reduceMul, Int.reduceToNat, Int.reduceEq, Int.reduceBEq, Int.reduceBNe, Nat.reduceEqDiff, strV_raw, rawV, e, e2]
  exact ⟨_, _, rfl, rfl, .refl _⟩
end Go.Proofs.VL

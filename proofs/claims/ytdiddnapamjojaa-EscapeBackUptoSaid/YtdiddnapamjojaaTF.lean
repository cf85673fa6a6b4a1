/- Contracts of functions of the program, for what calls them, and the law that its name tells. -/
import Derived.Test.YtdiddnapamjojaaTE
namespace Go.Proofs.VL
open Go Go.RowKit
set_option maxRecDepth 100000
set_option maxHeartbeats 2000000
set_option linter.unusedSimpArgs false
set_option linter.unusedVariables false
attribute [local irreducible] vwp vk

theorem standsB_len (t : List UInt8) : (standsB t).length ≤ 4 := by
  have hr : ∀ n : Int, (runeB n).length ≤ 4 := by
    intro n; unfold runeB
    split
    · simp
    · simp only; (repeat' split) <;> simp
  have hn : ∀ t, (namedB t).length ≤ 4 := by
    intro t; unfold namedB; (repeat' split) <;> simp
  unfold standsB
  split
  · unfold codeB
    cases numF (baseB (t.drop 1)).2 (baseB (t.drop 1)).1 0 with
    | none => simp
    | some n => simp only; split; · simp
                · exact hr _
  · exact hn t

theorem takeB_len (t : List UInt8) : (takeB t).1.length ≤ 4 := by
  unfold takeB
  split
  · simp
  · split
    · split
      · simp
      · simp only
        split
        · simp
        · exact standsB_len _
    · simp

theorem decL_len : ∀ (n : Nat) (l : LT), l.length ≤ n → (decL l).length ≤ 4 * l.length
  | _, [], _ => by rw [decL_nil]; simp
  | n + 1, c :: r, hn => by
    simp only [List.length_cons] at hn
    rcases h : takeB (txt (c :: r)) with ⟨o, m⟩
    by_cases h0 : m = 0
    · rw [decL_none (by rw [h]; exact h0)]
      have := decL_len n r (by omega)
      simp only [List.length_cons]; omega
    · rw [decL_some h h0]
      have h1 := takeB_len (txt (c :: r))
      have h2 := takeB_le (txt (c :: r))
      rw [h] at h1 h2
      simp only [txt_length, List.length_cons] at h1 h2
      have := decL_len n ((c :: r).drop m) (by simp only [List.length_drop, List.length_cons]; omega)
      simp only [List.length_append, List.length_map, List.length_drop, List.length_cons] at this ⊢
      omega

theorem ref_decode (l : LT) (hl : l.length ≤ 10000000) (hn : Near l) : VFn Try.prog 60 [.sl 2 (cRows l)] (.sl 2 (cRows (decL l))) := by
  refine VFn.intro ok60 (Nat.le_of_ble_eq_true rfl) (vk_start ?_)
  simp (disch := omega) only [EW, Nat.reduceBEq, reduceIte, Nat.reduceAdd, Nat.reduceLeDiff, Nat.reduceLT, Nat.reduceSub, Nat.reduceMul, reduceCtorEq, Int.reduceNeg, Int.reduceSub, Int.reduceAdd, Int.reduceLE, Int.reduceLT, Int.reduceMul, Int.reduceToNat, Int.reduceEq, Int.reduceBEq, Int.reduceBNe, Nat.reduceEqDiff, vc60, rs60]
  refine vk_loopR (γ := LT × LT) (fun g => { tm := [(0, .sl 2 (cRows g.2)), (3, .ref 0 g.1.length)], ob := [some (.arr 48 2 (cRows g.1))], base := 0 })
    (fun g => g.1 ++ decL g.2 = decL l ∧ Near g.2 ∧ g.2.length ≤ l.length) (fun g => g.2.length) ([], l) ⟨rfl, hn, Nat.le_refl _⟩ ?_ ?_
  · exact ⟨[none], rfl, rfl, rfl, rfl, ⟨.same _ rfl, .nref rfl, trivial⟩, ⟨⟨_, _, rfl⟩, trivial⟩⟩
  · rintro ⟨d, q⟩ ⟨he, hq, hql⟩ R hN hE hR
    simp only at he hq hql
    have hdl : d.length ≤ 4 * l.length := by
      have := decL_len l.length l (Nat.le_refl _)
      rw [← he] at this; simp only [List.length_append] at this; omega
    have hcd := cRows_length d
    cases q with
    | nil =>
      simp (disch := omega) only [EW, Nat.reduceBEq, reduceIte, Nat.reduceAdd, Nat.reduceLeDiff, Nat.reduceLT, Nat.reduceSub, Nat.reduceMul, reduceCtorEq, Int.reduceNeg, Int.reduceSub, Int.reduceAdd, Int.reduceLE, Int.reduceLT, Int.reduceMul, Int.reduceToNat, Int.reduceEq, Int.reduceBEq, Int.reduceBNe, Nat.reduceEqDiff, cRows_length]
      refine hE _ _ ?_
      rw [decL_nil, List.append_nil] at he
      subst he
      simp (disch := omega) only [EW, Nat.reduceBEq, reduceIte, Nat.reduceAdd, Nat.reduceLeDiff, Nat.reduceLT, Nat.reduceSub, Nat.reduceMul, reduceCtorEq, Int.reduceNeg, Int.reduceSub, Int.reduceAdd, Int.reduceLE, Int.reduceLT, Int.reduceMul, Int.reduceToNat, Int.reduceEq, Int.reduceBEq, Int.reduceBNe, Nat.reduceEqDiff]
      exact fin (lend_rows rfl (cRows_length _).symm)
    | cons c r =>
      have hqlen : (c :: r).length = r.length + 1 := rfl
      have hcr : cRows (c :: r) = [.int .u8 c.1.toNat, .int .i64 c.2] :: cRows r := rfl
      have ht := ref_take (c :: r) (by omega)
      have hle := takeB_le (txt (c :: r))
      have h4 := takeB_len (txt (c :: r))
      rw [txt_length] at hle
      rcases hT : takeB (txt (c :: r)) with ⟨o, m⟩
      rw [hT] at ht hle h4
      simp only at ht hle h4
      simp (disch := omega) only [EW, Nat.reduceBEq, reduceIte, Nat.reduceAdd, Nat.reduceLeDiff, Nat.reduceLT, Nat.reduceSub, Nat.reduceMul, reduceCtorEq, Int.reduceNeg, Int.reduceSub, Int.reduceAdd, Int.reduceLE, Int.reduceLT, Int.reduceMul, Int.reduceToNat, Int.reduceEq, Int.reduceBEq, Int.reduceBNe, Nat.reduceEqDiff, cRows_length]
      refine vk_callR rfl ⟨_, .inl rfl, ht⟩ ?_
      by_cases hm : m = 0
      · subst hm
        have e1 := (cRows_drop_last d c).symm
        simp (disch := omega) only [EW, Nat.reduceBEq, reduceIte, Nat.reduceAdd, Nat.reduceLeDiff, Nat.reduceLT, Nat.reduceSub, Nat.reduceMul, reduceCtorEq, Int.reduceNeg, Int.reduceSub, Int.reduceAdd, Int.reduceLE, Int.reduceLT, Int.reduceMul, Int.reduceToNat, Int.reduceEq, Int.reduceBEq, Int.reduceBNe, Nat.reduceEqDiff, hcr, cRows_length, cRows_take, e1]
        refine hN _ (d ++ [c], r) ⟨?_, ?_, ?_⟩ ?_ ?_
        · rw [← he, decL_none (by rw [hT])]; simp
        · exact fun x hx => hq x (by simp [hx])
        · simp only; omega
        · simp only; omega
        · rw [show (d ++ [c]).length = d.length + 1 by simp]
          exact ⟨[some 1], rfl, rfl, rfl, rfl, ⟨.same _ rfl, .ref rfl, trivial⟩, ⟨⟨_, rfl, .arr (.of_eq (by first | rfl | (simp; done)))⟩, trivial⟩⟩
      · have hml : m ≤ r.length + 1 := hle
        have hw := ref_worst ((c :: r).take m) (by simp only [List.length_take]; omega)
        have hnw := worst_near (hq.take m)
        have ha := ref_all o (worstO ((c :: r).take m)) (by omega)
        rw [hnw] at ha
        have hcm : (cRows (List.map (fun c_1 => (c_1, worstO (List.take m (c :: r)))) o)).length = o.length := by rw [cRows_length, List.length_map]
        simp (disch := omega) only [EW, Nat.reduceBEq, reduceIte, Nat.reduceAdd, Nat.reduceLeDiff, Nat.reduceLT, Nat.reduceSub, Nat.reduceMul, reduceCtorEq, Int.reduceNeg, Int.reduceSub, Int.reduceAdd, Int.reduceLE, Int.reduceLT, Int.reduceMul, Int.reduceToNat, Int.reduceEq, Int.reduceBEq, Int.reduceBNe, Nat.reduceEqDiff, cRows_length, cRows_takeN, cRows_drop]
        refine vk_callR rfl ⟨_, .inl rfl, hw⟩ ?_
        simp (disch := omega) only [EW, Nat.reduceBEq, reduceIte, Nat.reduceAdd, Nat.reduceLeDiff, Nat.reduceLT, Nat.reduceSub, Nat.reduceMul, reduceCtorEq, Int.reduceNeg, Int.reduceSub, Int.reduceAdd, Int.reduceLE, Int.reduceLT, Int.reduceMul, Int.reduceToNat, Int.reduceEq, Int.reduceBEq, Int.reduceBNe, Nat.reduceEqDiff]
        refine vk_callR rfl ⟨_, .inl rfl, ha⟩ ?_
        simp (disch := omega) only [EW, Nat.reduceBEq, reduceIte, Nat.reduceAdd, Nat.reduceLeDiff, Nat.reduceLT, Nat.reduceSub, Nat.reduceMul, reduceCtorEq, Int.reduceNeg, Int.reduceSub, Int.reduceAdd, Int.reduceLE, Int.reduceLT, Int.reduceMul, Int.reduceToNat, Int.reduceEq, Int.reduceBEq, Int.reduceBNe, Nat.reduceEqDiff, cRows_length, cRows_takeN, List.take_length, cRows_drop, cRows_append]
        refine hN _ (d ++ o.map fun b => (b, worstO ((c :: r).take m)), (c :: r).drop m) ⟨?_, ?_, ?_⟩ ?_ ?_
        · rw [← he, decL_some hT hm]; simp
        · exact hq.drop _
        · simp only [List.length_drop]; omega
        · simp only [List.length_drop]; omega
        · rw [show (d ++ o.map fun b => (b, worstO ((c :: r).take m))).length = d.length + o.length by simp]
          exact ⟨[some 1], rfl, rfl, rfl, rfl, ⟨.same _ rfl, .ref rfl, trivial⟩, ⟨⟨_, rfl, .arr (.of_eq (by first | rfl | (simp; done)))⟩, trivial⟩⟩
end Go.Proofs.VL

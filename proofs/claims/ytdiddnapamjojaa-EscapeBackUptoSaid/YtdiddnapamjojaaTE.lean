/- Contracts of functions of the program, for what calls them, and the law that its name tells. -/
import Derived.Test.YtdiddnapamjojaaTD
import Derived.Test.YtdiddnapamjojaaV2
import Derived.Test.YtdiddnapamjojaaSL
namespace Go.Proofs.VL
open Go Go.RowKit
set_option maxRecDepth 100000
set_option maxHeartbeats 2000000
set_option linter.unusedSimpArgs false
set_option linter.unusedVariables false
attribute [local irreducible] vwp vk

theorem txt_take (l : LT) (n : Nat) : txt (l.take n) = (txt l).take n := by simp [txt]
theorem txt_drop (l : LT) (n : Nat) : txt (l.drop n) = (txt l).drop n := by simp [txt]
theorem cRows_drop (l : LT) (n : Nat) : (cRows l).drop n = cRows (l.drop n) := by simp [cRows]
theorem cRows_takeN (l : LT) (n : Nat) : (cRows l).take n = cRows (l.take n) := by simp [cRows]

theorem ref_worst (l : LT) (hl : l.length ≤ 1000000000) : VFn Try.prog 69 [.sl 2 (cRows l)] (.int .i64 (worstO l)) := by
  refine VFn.intro ok69 (Nat.le_of_ble_eq_true rfl) (vk_start ?_)
  simp (disch := omega) only [EW, Nat.reduceBEq, reduceIte, Nat.reduceAdd, Nat.reduceLeDiff, Nat.reduceLT, Nat.reduceSub, Nat.reduceMul, reduceCtorEq, Int.reduceNeg, Int.reduceSub, Int.reduceAdd, Int.reduceLE, Int.reduceLT, Int.reduceMul, Int.reduceToNat, Int.reduceEq, Int.reduceBEq, Int.reduceBNe, Nat.reduceEqDiff, vc69, rs69]
  refine vk_loopR (γ := Nat) (fun i => { tm := [(0, .sl 2 (cRows l)), (3, .int .i64 (worstO (l.take i))), (4, .int .i64 i)], ob := [], base := 0 })
    (fun i => i ≤ l.length) (fun i => l.length - i) 0 (Nat.zero_le _) ?_ ?_
  · exact ⟨[], rfl, rfl, rfl, rfl, ⟨.same _ rfl, .same _ rfl, .same _ rfl, trivial⟩, trivial⟩
  · rintro i hi R hN hE hR
    rcases Nat.lt_or_ge i l.length with hlt | hge
    · obtain ⟨⟨c, o⟩, hr⟩ : ∃ r, l[i]? = some r := ⟨_, List.getElem?_eq_getElem hlt⟩
      have hrow : (cRows l)[i]? = some [.int .u8 c.toNat, .int .i64 o] := by rw [cRows_get, hr]; rfl
      have e : worstO (l.take (i + 1)) = max (worstO (l.take i)) o := by
        rw [List.take_add_one, hr]; simp [worstO]
      by_cases hm : worstO (l.take i) < o
      · simp (disch := omega) only [EW, Nat.reduceBEq, reduceIte, Nat.reduceAdd, Nat.reduceLeDiff, Nat.reduceLT, Nat.reduceSub, Nat.reduceMul, reduceCtorEq, Int.reduceNeg, Int.reduceSub, Int.reduceAdd, Int.reduceLE, Int.reduceLT, Int.reduceMul, Int.reduceToNat, Int.reduceEq, Int.reduceBEq, Int.reduceBNe, Nat.reduceEqDiff, cRows_length, hrow]
        refine hN _ (i + 1) hlt (by omega) ?_
        rw [e, show max (worstO (l.take i)) o = o by omega]
        exact ⟨[], rfl, rfl, rfl, rfl, ⟨.same _ rfl, .same _ rfl, .same _ rfl, trivial⟩, trivial⟩
      · simp (disch := omega) only [EW, Nat.reduceBEq, reduceIte, Nat.reduceAdd, Nat.reduceLeDiff, Nat.reduceLT, Nat.reduceSub, Nat.reduceMul, reduceCtorEq, Int.reduceNeg, Int.reduceSub, Int.reduceAdd, Int.reduceLE, Int.reduceLT, Int.reduceMul, Int.reduceToNat, Int.reduceEq, Int.reduceBEq, Int.reduceBNe, Nat.reduceEqDiff, cRows_length, hrow]
        refine hN _ (i + 1) hlt (by omega) ?_
        rw [e, show max (worstO (l.take i)) o = worstO (l.take i) by omega]
        exact ⟨[], rfl, rfl, rfl, rfl, ⟨.same _ rfl, .same _ rfl, .same _ rfl, trivial⟩, trivial⟩
    · simp (disch := omega) only [EW, Nat.reduceBEq, reduceIte, Nat.reduceAdd, Nat.reduceLeDiff, Nat.reduceLT, Nat.reduceSub, Nat.reduceMul, reduceCtorEq, Int.reduceNeg, Int.reduceSub, Int.reduceAdd, Int.reduceLE, Int.reduceLT, Int.reduceMul, Int.reduceToNat, Int.reduceEq, Int.reduceBEq, Int.reduceBNe, Nat.reduceEqDiff, cRows_length]
      refine hE _ _ ?_
      have e : l.take i = l := List.take_of_length_le hge
      simp (disch := omega) only [EW, Nat.reduceBEq, reduceIte, Nat.reduceAdd, Nat.reduceLeDiff, Nat.reduceLT, Nat.reduceSub, Nat.reduceMul, reduceCtorEq, Int.reduceNeg, Int.reduceSub, Int.reduceAdd, Int.reduceLE, Int.reduceLT, Int.reduceMul, Int.reduceToNat, Int.reduceEq, Int.reduceBEq, Int.reduceBNe, Nat.reduceEqDiff, e]
      exact fin rfl

theorem takeB_le (t : List UInt8) : (takeB t).2 ≤ t.length := by
  unfold takeB
  split
  · simp
  · rename_i c r
    split
    · split
      · simp
      · simp only
        split
        · simp
        · have := index_lt (c :: r) 59
          simp only [List.length_cons] at this ⊢
          omega
    · simp

/-- All references told. -/
def decL (l : LT) : LT :=
  match l with
  | [] => []
  | c :: r => if (takeB (txt (c :: r))).2 = 0 then c :: decL r else ((takeB (txt (c :: r))).1.map fun b => (b, worstO ((c :: r).take (takeB (txt (c :: r))).2))) ++ decL ((c :: r).drop (takeB (txt (c :: r))).2)
termination_by l.length
decreasing_by
  · simp
  · simp only [List.length_drop, List.length_cons]; omega

theorem decL_nil : decL [] = [] := by rw [decL]
theorem decL_none {c : UInt8 × Int} {r : LT} (h : (takeB (txt (c :: r))).2 = 0) : decL (c :: r) = c :: decL r := by rw [decL, if_pos h]
theorem decL_some {c : UInt8 × Int} {r : LT} {o : List UInt8} {n : Nat} (h : takeB (txt (c :: r)) = (o, n)) (hn : n ≠ 0) : decL (c :: r) = (o.map fun b => (b, worstO ((c :: r).take n))) ++ decL ((c :: r).drop n) := by
  rw [decL, h, if_neg hn]

theorem worst_near {l : LT} (h : Near l) : nearI (worstO l) = worstO l := by
  have : ∀ (l : LT) (m : Int), Near l → nearI m = m → nearI (l.foldl (fun m c => max m c.2) m) = l.foldl (fun m c => max m c.2) m := by
    intro l
    induction l with
    | nil => intro m _ hm; exact hm
    | cons c r ih =>
      intro m hl hm
      simp only [List.foldl_cons]
      refine ih _ (fun d hd => hl d (by simp [hd])) ?_
      have := hl c (by simp)
      unfold nearI at *
      omega
  exact this l 0 h (by decide)

theorem decL_near : ∀ (n : Nat) (l : LT), l.length ≤ n → Near l → Near (decL l)
  | _, [], _, _ => by rw [decL_nil]; exact Near.nil
  | n + 1, c :: r, hn, hl => by
    have hr : Near r := fun d hd => hl d (by simp [hd])
    simp only [List.length_cons] at hn
    rcases h : takeB (txt (c :: r)) with ⟨o, m⟩
    by_cases h0 : m = 0
    · rw [decL_none (by rw [h]; exact h0)]
      have := decL_near n r (by omega) hr
      intro d hd
      rcases List.mem_cons.1 hd with rfl | hd
      · exact hl d (by simp)
      · exact this d hd
    · rw [decL_some h h0]
      refine Near.append (Near.map_const (worst_near (hl.take _)) _) ?_
      exact decL_near n _ (by simp only [List.length_drop, List.length_cons]; omega) (hl.drop _)
end Go.Proofs.VL

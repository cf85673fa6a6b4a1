/- Contracts of functions of the program, for what calls them, and the law that its name tells. -/
import Derived.Test.YtdiddnapamjojaaTY
namespace Go.Proofs.VL
open Go Go.RowKit
set_option maxRecDepth 100000
set_option maxHeartbeats 2000000
set_option linter.unusedSimpArgs false
set_option linter.unusedVariables false
attribute [local irreducible] vwp vk

theorem hooks_le : ∀ (n : Nat) (s : RS), (hooksR n s).2.1.length ≤ s.1.length
  | 0, s => Nat.le_refl _
  | n + 1, s => by
    unfold hooksR
    split
    · exact Nat.le_refl _
    · have := hooks_le n (hookR s).2
      have a1 := hook_len s
      simp only; omega
theorem pat_lt (s : RS) (h : s.1 ≠ []) : (patR s).2.1.length < s.1.length := by
  have h0 : (tak 1 s).2.1.length < s.1.length := by
    have : 0 < s.1.length := by cases hs : s.1 with | nil => exact absurd hs h | cons => simp
    unfold tak; split
    · simpa using this
    · simp; omega
  unfold patR
  simp only
  generalize tak 1 s = x at *
  have l1 := (num_le x.2).1
  generalize numR x.2 = x1 at *
  have l2 := (num_le x1.2).1
  generalize numR x1.2 = x2 at *
  have l3 := (num_le x2.2).1
  generalize numR x2.2 = x3 at *
  have l4 := (num_le x3.2).1
  generalize numR x3.2 = x4 at *
  have l5 := (num_le x4.2).1
  generalize numR x4.2 = x5 at *
  have l6 := (text_len x5.2).2
  generalize textR x5.2 = x6 at *
  have l7 := str_le x6.2
  generalize strR x6.2 = x7 at *
  have l8 := str_le x7.2
  generalize strR x7.2 = x8 at *
  have l9 := str_le x8.2
  generalize strR x8.2 = x9 at *
  have l10 := str_le x9.2
  generalize strR x9.2 = x10 at *
  have l11 := (num_le x10.2).1
  generalize numR x10.2 = x11 at *
  have l12 := hooks_le x11.1 x11.2
  omega

/-- Patches, as they are read. -/
def patsR : Nat → RS → List Pat × RS
  | 0, s => ([], s)
  | n + 1, s => if s.1 = [] ∨ s.2 = true then ([], s) else ((patR s).1 :: (patsR n (patR s).2).1, (patsR n (patR s).2).2)
def readB (b : List UInt8) : List Pat × Int :=
  if 65536 < b.length then ([], 5) else
    if (patsR b.length (b, false)).2.2 = true then ([], 16) else ((patsR b.length (b, false)).1, 0)

theorem patsR_end {n : Nat} {s : RS} (h : s.1 = [] ∨ s.2 = true) : patsR n s = ([], s) := by
  cases n with
  | zero => rfl
  | succ n => unfold patsR; rw [if_pos h]

theorem wire_read (b : List UInt8) (hb : b.length ≤ 1000000000) : VFn Try.prog 50 [.sl 1 (bRows b)] (.tup [.sl 16 (pRows (readB b).1), .int .i64 (readB b).2]) := by
  refine VFn.intro ok50 (Nat.le_of_ble_eq_true rfl) (vk_start ?_)
  have hbl := bRows_length b
  rcases Nat.lt_or_ge 65536 b.length with h | h
  · have e : readB b = ([], 5) := by unfold readB; rw [if_pos h]
    rw [e]
    simp (maxSteps := 4000000) (disch := omega) only [EW, Nat.reduceBEq, reduceIte, Nat.reduceAdd, Nat.reduceLeDiff, Nat.reduceLT, Nat.reduceSub, Nat.reduceMul, reduceCtorEq, Int.reduceNeg, Int.reduceSub, Int.reduceAdd, Int.reduceLE, Int.reduceLT, Int.reduceMul, Int.reduceToNat, Int.reduceEq, Int.reduceBEq, Int.reduceBNe, Nat.reduceEqDiff, vc50, rs50, hbl]
    exact ⟨_, _, rfl, rfl, by (show Sub (.tup [.nils, .int .i64 5]) (.tup [.sl 16 [], .int .i64 5])); exact .tup (.cons (.nil _) (.cons (.refl _) .nil))⟩
  · have e : readB b = if (patsR b.length (b, false)).2.2 = true then ([], 16) else ((patsR b.length (b, false)).1, 0) := by unfold readB; rw [if_neg (by omega)]
    rw [e]
    have hc := byte_clone (bRows b) (by omega)
    generalize hX : patsR b.length (b, false) = X
    obtain ⟨X1, X2⟩ := X
    simp (maxSteps := 4000000) (disch := omega) only [EW, Nat.reduceBEq, reduceIte, Nat.reduceAdd, Nat.reduceLeDiff, Nat.reduceLT, Nat.reduceSub, Nat.reduceMul, reduceCtorEq, Int.reduceNeg, Int.reduceSub, Int.reduceAdd, Int.reduceLE, Int.reduceLT, Int.reduceMul, Int.reduceToNat, Int.reduceEq, Int.reduceBEq, Int.reduceBNe, Nat.reduceEqDiff, vc50, rs50, hbl]
    (refine vk_callR rfl ⟨_, .inl rfl, hc⟩ ?_; simp (maxSteps := 4000000) (disch := omega) only [EW, Nat.reduceBEq, reduceIte, Nat.reduceAdd, Nat.reduceLeDiff, Nat.reduceLT, Nat.reduceSub, Nat.reduceMul, reduceCtorEq, Int.reduceNeg, Int.reduceSub, Int.reduceAdd, Int.reduceLE, Int.reduceLT, Int.reduceMul, Int.reduceToNat, Int.reduceEq, Int.reduceBEq, Int.reduceBNe, Nat.reduceEqDiff])
    refine vk_loopR (γ := List Pat × Nat × RS) (fun g => { tm := [(4, .ptr 0 0), (5, .ref 1 g.1.length)], ob := [some (.box [.sl 1 (bRows g.2.2.1), .bool g.2.2.2]), some (.arr 39 16 (pRows g.1))], base := 0 })
      (fun g => g.1 ++ (patsR g.2.1 g.2.2).1 = X1 ∧ (patsR g.2.1 g.2.2).2 = X2 ∧ g.2.1 + g.1.length ≤ 65536 ∧ g.2.2.1.length ≤ g.2.1) (fun g => g.2.1) ([], b.length, b, false) ⟨by rw [hX]; rfl, by rw [hX], by simp; omega, Nat.le_refl _⟩ ?_ ?_
    · exact ⟨[some 0, none], rfl, rfl, rfl, rfl, ⟨.ptr rfl, .nref rfl, trivial⟩, ⟨⟨_, rfl, .box (.cons (.same _ rfl) (.cons (.same _ rfl) .nil))⟩, ⟨⟨_, _, rfl⟩, trivial⟩⟩⟩
    · rintro ⟨acc, m, u, bb⟩ ⟨g1, g2, g3, g4⟩ R hN hE hR
      simp only at g1 g2 g3 g4
      have hra := pRows_length acc
      have hul := bRows_length u
      by_cases hend : u = [] ∨ bb = true
      · rw [patsR_end hend] at g1 g2
        simp only [List.append_nil] at g1 g2
        subst g1
        subst g2
        clear hN
        rcases bb with - | -
        · have hu : u = [] := by rcases hend with h | h; exact h; cases h
          subst hu
          simp (maxSteps := 4000000) (disch := omega) only [EW, Nat.reduceBEq, reduceIte, Nat.reduceAdd, Nat.reduceLeDiff, Nat.reduceLT, Nat.reduceSub, Nat.reduceMul, reduceCtorEq, Int.reduceNeg, Int.reduceSub, Int.reduceAdd, Int.reduceLE, Int.reduceLT, Int.reduceMul, Int.reduceToNat, Int.reduceEq, Int.reduceBEq, Int.reduceBNe, Nat.reduceEqDiff, hul]
          refine hE _ _ ?_
          clear hE hR
          simp (maxSteps := 4000000) (disch := omega) only [EW, Nat.reduceBEq, reduceIte, Nat.reduceAdd, Nat.reduceLeDiff, Nat.reduceLT, Nat.reduceSub, Nat.reduceMul, reduceCtorEq, Int.reduceNeg, Int.reduceSub, Int.reduceAdd, Int.reduceLE, Int.reduceLT, Int.reduceMul, Int.reduceToNat, Int.reduceEq, Int.reduceBEq, Int.reduceBNe, Nat.reduceEqDiff]
          refine ⟨_, .tup [.sl 16 (pRows acc), .int .i64 0], rfl, ?_, .refl _⟩
          simp only [lendV, lendL, objRows, List.getElem?_cons_succ, List.getElem?_cons_zero]
          rw [if_pos (by omega), ← hra, List.take_length]
        · rcases Nat.eq_zero_or_pos u.length with h0 | h0
          · simp (maxSteps := 4000000) (disch := omega) only [EW, Nat.reduceBEq, reduceIte, Nat.reduceAdd, Nat.reduceLeDiff, Nat.reduceLT, Nat.reduceSub, Nat.reduceMul, reduceCtorEq, Int.reduceNeg, Int.reduceSub, Int.reduceAdd, Int.reduceLE, Int.reduceLT, Int.reduceMul, Int.reduceToNat, Int.reduceEq, Int.reduceBEq, Int.reduceBNe, Nat.reduceEqDiff, hul]
            refine hE _ _ ?_
            clear hE hR
            simp (maxSteps := 4000000) (disch := omega) only [EW, Nat.reduceBEq, reduceIte, Nat.reduceAdd, Nat.reduceLeDiff, Nat.reduceLT, Nat.reduceSub, Nat.reduceMul, reduceCtorEq, Int.reduceNeg, Int.reduceSub, Int.reduceAdd, Int.reduceLE, Int.reduceLT, Int.reduceMul, Int.reduceToNat, Int.reduceEq, Int.reduceBEq, Int.reduceBNe, Nat.reduceEqDiff]
            exact ⟨_, _, rfl, rfl, by (show Sub (.tup [.nils, .int .i64 16]) (.tup [.sl 16 [], .int .i64 16])); exact .tup (.cons (.nil _) (.cons (.refl _) .nil))⟩
          · simp (maxSteps := 4000000) (disch := omega) only [EW, Nat.reduceBEq, reduceIte, Nat.reduceAdd, Nat.reduceLeDiff, Nat.reduceLT, Nat.reduceSub, Nat.reduceMul, reduceCtorEq, Int.reduceNeg, Int.reduceSub, Int.reduceAdd, Int.reduceLE, Int.reduceLT, Int.reduceMul, Int.reduceToNat, Int.reduceEq, Int.reduceBEq, Int.reduceBNe, Nat.reduceEqDiff, hul]
            refine hE _ _ ?_
            clear hE hR
            simp (maxSteps := 4000000) (disch := omega) only [EW, Nat.reduceBEq, reduceIte, Nat.reduceAdd, Nat.reduceLeDiff, Nat.reduceLT, Nat.reduceSub, Nat.reduceMul, reduceCtorEq, Int.reduceNeg, Int.reduceSub, Int.reduceAdd, Int.reduceLE, Int.reduceLT, Int.reduceMul, Int.reduceToNat, Int.reduceEq, Int.reduceBEq, Int.reduceBNe, Nat.reduceEqDiff]
            exact ⟨_, _, rfl, rfl, by (show Sub (.tup [.nils, .int .i64 16]) (.tup [.sl 16 [], .int .i64 16])); exact .tup (.cons (.nil _) (.cons (.refl _) .nil))⟩
      · have hun : u ≠ [] := fun h => hend (.inl h)
        have hbb : bb = false := by cases bb with | false => rfl | true => exact absurd (Or.inr rfl) hend
        subst hbb
        have h0 : 0 < u.length := by cases u with | nil => exact absurd rfl hun | cons => simp
        rcases m with - | m
        · omega
        have hpt := r_patch (u, false) (by simp only; omega)
        have hlt := pat_lt (u, false) hun
        unfold patsR at g1 g2
        rw [if_neg hend] at g1 g2
        generalize patR (u, false) = x at *
        obtain ⟨p, v, bv⟩ := x
        simp only at hlt hpt g1 g2
        have hfin := fun s' hs => hN s' (acc ++ [p], m, v, bv) ⟨by rw [← g1]; simp, g2, by simp only [List.length_append, List.length_singleton]; omega, by simp only; omega⟩ (Nat.lt_succ_self m) hs
        simp only at hfin
        clear hN
        have hrt : List.take acc.length (pRows acc) = pRows acc := List.take_of_length_le (by omega)
        have hrs : pRows acc ++ [pCells p] = pRows (acc ++ [p]) := by simp [pRows]
        simp (maxSteps := 4000000) (disch := omega) only [EW, Nat.reduceBEq, reduceIte, Nat.reduceAdd, Nat.reduceLeDiff, Nat.reduceLT, Nat.reduceSub, Nat.reduceMul, reduceCtorEq, Int.reduceNeg, Int.reduceSub, Int.reduceAdd, Int.reduceLE, Int.reduceLT, Int.reduceMul, Int.reduceToNat, Int.reduceEq, Int.reduceBEq, Int.reduceBNe, Nat.reduceEqDiff, hul]
        refine vk_call rfl (r_at hpt rfl rfl rfl) ?_
        simp (maxSteps := 4000000) (disch := omega) only [EW, Nat.reduceBEq, reduceIte, Nat.reduceAdd, Nat.reduceLeDiff, Nat.reduceLT, Nat.reduceSub, Nat.reduceMul, reduceCtorEq, Int.reduceNeg, Int.reduceSub, Int.reduceAdd, Int.reduceLE, Int.reduceLT, Int.reduceMul, Int.reduceToNat, Int.reduceEq, Int.reduceBEq, Int.reduceBNe, Nat.reduceEqDiff, hra, hrt, hrs, PCp]
        refine hfin _ ?_
        exact ⟨[some 0, some 2], rfl, rfl, rfl, rfl, ⟨.ptr rfl, (.refE rfl (pRows_length _)), trivial⟩, ⟨⟨_, rfl, .box (.cons (.same _ rfl) (.cons (.same _ rfl) .nil))⟩, ⟨⟨_, rfl, .arr (.refl _)⟩, trivial⟩⟩⟩
end Go.Proofs.VL

/- Contracts of functions of the program, for what calls them, and the law that its name tells. -/
import Derived.Test.YtdiddnapamjojaaTW
namespace Go.Proofs.VL
open Go Go.RowKit
set_option maxRecDepth 100000
set_option maxHeartbeats 2000000
set_option linter.unusedSimpArgs false
set_option linter.unusedVariables false
attribute [local irreducible] vwp vk

/-- Are the runs as they must be? -/
def normB (t : List UInt8) (rs : Runs) : Bool := decide (rle (orig t.length rs) = rs)

theorem mark_check (t : List UInt8) (rs : Runs) (ht : t.length ≤ 1000000000) (hrs : rs.length ≤ 1000000000) : VFn Try.prog 55 [rawV t rs] (.int .i64 (if normB t rs then 0 else 22)) := by
  refine VFn.intro ok55 (Nat.le_of_ble_eq_true rfl) (vk_start ?_)
  have l1 := rle_len (orig t.length rs)
  rw [orig_length] at l1
  have heq := eq_runs (rle (orig t.length rs)) rs (by omega) (by omega)
  have hn : normB t rs = decide (rle (orig t.length rs) = rs) := rfl
  rw [← hn] at heq
  have hf := fix t rs ht hrs
  generalize rle (orig t.length rs) = q at *
  simp (maxSteps := 4000000) (disch := omega) only [EW, Nat.reduceBEq, reduceIte, Nat.reduceAdd, Nat.reduceLeDiff, Nat.reduceLT, Nat.reduceSub, Nat.reduceMul, reduceCtorEq, Int.reduceNeg, Int.reduceSub, Int.reduceAdd, Int.reduceLE, Int.reduceLT, Int.reduceMul, Int.reduceToNat, Int.reduceEq, Int.reduceBEq, Int.reduceBNe, Nat.reduceEqDiff, vc55, rs55, rawV]
  refine vk_callR rfl ⟨[rawV t rs], .inl rfl, hf⟩ ?_
  simp (maxSteps := 4000000) (disch := omega) only [EW, Nat.reduceBEq, reduceIte, Nat.reduceAdd, Nat.reduceLeDiff, Nat.reduceLT, Nat.reduceSub, Nat.reduceMul, reduceCtorEq, Int.reduceNeg, Int.reduceSub, Int.reduceAdd, Int.reduceLE, Int.reduceLT, Int.reduceMul, Int.reduceToNat, Int.reduceEq, Int.reduceBEq, Int.reduceBNe, Nat.reduceEqDiff, rawV]
  (refine vk_callR rfl ⟨_, .inl rfl, heq⟩ ?_; simp (maxSteps := 4000000) (disch := omega) only [EW, Nat.reduceBEq, reduceIte, Nat.reduceAdd, Nat.reduceLeDiff, Nat.reduceLT, Nat.reduceSub, Nat.reduceMul, reduceCtorEq, Int.reduceNeg, Int.reduceSub, Int.reduceAdd, Int.reduceLE, Int.reduceLT, Int.reduceMul, Int.reduceToNat, Int.reduceEq, Int.reduceBEq, Int.reduceBNe, Nat.reduceEqDiff])
  cases normB t rs with
  | true =>
    simp (maxSteps := 4000000) (disch := omega) only [EW, Nat.reduceBEq, reduceIte, Nat.reduceAdd, Nat.reduceLeDiff, Nat.reduceLT, Nat.reduceSub, Nat.reduceMul, reduceCtorEq, Int.reduceNeg, Int.reduceSub, Int.reduceAdd, Int.reduceLE, Int.reduceLT, Int.reduceMul, Int.reduceToNat, Int.reduceEq, Int.reduceBEq, Int.reduceBNe, Nat.reduceEqDiff]
    exact fin rfl
  | false =>
    simp (maxSteps := 4000000) (disch := omega) only [EW, Nat.reduceBEq, reduceIte, Nat.reduceAdd, Nat.reduceLeDiff, Nat.reduceLT, Nat.reduceSub, Nat.reduceMul, reduceCtorEq, Int.reduceNeg, Int.reduceSub, Int.reduceAdd, Int.reduceLE, Int.reduceLT, Int.reduceMul, Int.reduceToNat, Int.reduceEq, Int.reduceBEq, Int.reduceBNe, Nat.reduceEqDiff]
    exact fin rfl

/-- Runs, as they are read. -/
def runsR : Nat → RS → Runs × RS
  | 0, s => ([], s)
  | n + 1, s => if s.2 = true then ([], s) else (((numR s).1, (numR (numR s).2).1) :: (runsR n (numR (numR s).2).2).1, (runsR n (numR (numR s).2).2).2)
def strR (s : RS) : (List UInt8 × Runs) × RS :=
  let t := textR s
  let n := numR t.2
  let x := runsR n.1 n.2
  if x.2.2 = true ∨ normB t.1 x.1 = false then (([], []), [], true) else ((t.1, x.1), x.2)

theorem num_len (s : RS) : (numR s).2.2 = false → s.2 = false ∧ (numR s).2.1.length + 4 = s.1.length := by
  unfold numR tak
  split
  · simp
  · rename_i h; simp at h ⊢; exact ⟨h.1, by omega⟩
theorem num_bad (s : RS) : (numR s).2.2 = true → (numR s).2.1 = [] := by
  unfold numR tak
  split <;> simp
theorem text_len (s : RS) : (textR s).1.length ≤ s.1.length ∧ (textR s).2.1.length ≤ s.1.length := by
  have h1 := tak_len (numR s).1 (numR s).2
  have h2 := num_le s
  unfold textR
  omega

theorem lend_1 {ob : List (Option VObj)} {x y : V} (h : lendV ob x = some y) : lendL ob [x] = some [y] := by simp only [lendL, h]

theorem r_str (s : RS) (hs : s.1.length ≤ 100000000) : VCall Try.prog 104 [.ptr 0 0] (rOb s) (.agg [.str (strR s).1.1, .sl 2 (rowsOf (strR s).1.2)]) (rOb (strR s).2) := by
  refine VCall.intro ok104 (Nat.le_of_ble_eq_true rfl) (vk_start ?_)
  have h1 := r_text s (by omega)
  have hl := text_len s
  unfold strR
  simp only
  generalize textR s = x at *
  obtain ⟨t, s1⟩ := x
  simp only at hl h1 ⊢
  have h2 := r_num s1 (by omega)
  have hl2 := num_le s1
  generalize numR s1 = x at *
  obtain ⟨n, s2⟩ := x
  simp only at hl2 h2 ⊢
  generalize hX : runsR n s2 = X
  obtain ⟨X1, X2⟩ := X
  simp (maxSteps := 4000000) (disch := omega) only [EW, Nat.reduceBEq, reduceIte, Nat.reduceAdd, Nat.reduceLeDiff, Nat.reduceLT, Nat.reduceSub, Nat.reduceMul, reduceCtorEq, Int.reduceNeg, Int.reduceSub, Int.reduceAdd, Int.reduceLE, Int.reduceLT, Int.reduceMul, Int.reduceToNat, Int.reduceEq, Int.reduceBEq, Int.reduceBNe, Nat.reduceEqDiff, vc104, rs104, rOb]
  refine vk_call rfl (r_at h1 rfl rfl rfl) ?_
  simp (maxSteps := 4000000) (disch := omega) only [EW, Nat.reduceBEq, reduceIte, Nat.reduceAdd, Nat.reduceLeDiff, Nat.reduceLT, Nat.reduceSub, Nat.reduceMul, reduceCtorEq, Int.reduceNeg, Int.reduceSub, Int.reduceAdd, Int.reduceLE, Int.reduceLT, Int.reduceMul, Int.reduceToNat, Int.reduceEq, Int.reduceBEq, Int.reduceBNe, Nat.reduceEqDiff]
  refine vk_call rfl (r_at h2 rfl rfl rfl) ?_
  simp (maxSteps := 4000000) (disch := omega) only [EW, Nat.reduceBEq, reduceIte, Nat.reduceAdd, Nat.reduceLeDiff, Nat.reduceLT, Nat.reduceSub, Nat.reduceMul, reduceCtorEq, Int.reduceNeg, Int.reduceSub, Int.reduceAdd, Int.reduceLE, Int.reduceLT, Int.reduceMul, Int.reduceToNat, Int.reduceEq, Int.reduceBEq, Int.reduceBNe, Nat.reduceEqDiff]
  refine vk_loopR (γ := Runs × Nat × RS) (fun g => { tm := [(0, .ptr 0 0), (2, .ptr 1 0), (3, .ptr 2 0), (4, .int .i64 g.2.1)], ob := [some (.box [.sl 1 (bRows g.2.2.1), .bool g.2.2.2]), some (.box [.str [], .nils]), some (.box [.str t, .ref 3 g.1.length]), some (.arr 45 2 (rowsOf g.1))], base := 1 })
    (fun g => g.1 ++ (runsR g.2.1 g.2.2).1 = X1 ∧ (runsR g.2.1 g.2.2).2 = X2 ∧ g.2.1 ≤ 4294967295 ∧ g.2.2.1.length ≤ 100000000 ∧ g.1.length ≤ 20000000 ∧ (g.2.2.2 = false → 8 * g.1.length + g.2.2.1.length ≤ 100000000)) (fun g => g.2.1) ([], n, s2) ⟨by rw [hX]; rfl, by rw [hX], by simp only; omega, by simp only; omega, by simp, fun _ => by simp only [List.length_nil]; omega⟩ ?_ ?_
  · exact ⟨[some 0, some 1, some 2, none], rfl, rfl, rfl, rfl, ⟨.ptr rfl, .ptr rfl, .ptr rfl, .same _ rfl, trivial⟩, ⟨⟨_, rfl, .box (.cons (.same _ rfl) (.cons (.same _ rfl) .nil))⟩, ⟨⟨_, rfl, .box (.cons (.same _ rfl) (.cons (.same _ rfl) .nil))⟩, ⟨⟨_, rfl, .box (.cons (.same _ rfl) (.cons (.nref rfl) .nil))⟩, ⟨⟨_, _, rfl⟩, trivial⟩⟩⟩⟩⟩
  · rintro ⟨acc, m, u, b⟩ ⟨g1, g2, g3, g4, g5, g6⟩ R hN hE hR
    simp only at g1 g2 g3 g4 g5 g6
    have hra := rowsOf_length acc
    rcases m with - | m
    · simp only [runsR, List.append_nil] at g1 g2
      subst g1
      subst g2
      clear hN
      cases b with
      | true =>
        simp (maxSteps := 4000000) (disch := omega) only [EW, Nat.reduceBEq, reduceIte, Nat.reduceAdd, Nat.reduceLeDiff, Nat.reduceLT, Nat.reduceSub, Nat.reduceMul, reduceCtorEq, Int.reduceNeg, Int.reduceSub, Int.reduceAdd, Int.reduceLE, Int.reduceLT, Int.reduceMul, Int.reduceToNat, Int.reduceEq, Int.reduceBEq, Int.reduceBNe, Nat.reduceEqDiff]
        refine hE _ _ ?_
        clear hE hR
        rw [if_pos (Or.inl rfl)]
        simp (maxSteps := 4000000) (disch := omega) only [EW, Nat.reduceBEq, reduceIte, Nat.reduceAdd, Nat.reduceLeDiff, Nat.reduceLT, Nat.reduceSub, Nat.reduceMul, reduceCtorEq, Int.reduceNeg, Int.reduceSub, Int.reduceAdd, Int.reduceLE, Int.reduceLT, Int.reduceMul, Int.reduceToNat, Int.reduceEq, Int.reduceBEq, Int.reduceBNe, Nat.reduceEqDiff]
        exact ⟨_, rfl, ⟨[some 0], rfl, rfl, rfl, rfl, ⟨.agg (.cons (.same _ rfl) (.cons (.nil _) .nil)), trivial⟩, ⟨⟨_, rfl, .box (.cons (.nil _) (.cons (.same _ rfl) .nil))⟩, trivial⟩⟩⟩
      | false =>
        have hck := mark_check t acc (by omega) (by omega)
        have hra2 : rowsOf acc = rowsOf acc := rfl
        rcases Bool.eq_false_or_eq_true (normB t acc) with h | h
        · rw [h, if_pos rfl] at hck
          simp (maxSteps := 4000000) (disch := omega) only [EW, Nat.reduceBEq, reduceIte, Nat.reduceAdd, Nat.reduceLeDiff, Nat.reduceLT, Nat.reduceSub, Nat.reduceMul, reduceCtorEq, Int.reduceNeg, Int.reduceSub, Int.reduceAdd, Int.reduceLE, Int.reduceLT, Int.reduceMul, Int.reduceToNat, Int.reduceEq, Int.reduceBEq, Int.reduceBNe, Nat.reduceEqDiff]
          refine hE _ _ ?_
          clear hE hR
          rw [if_neg (by simp [h])]
          simp (maxSteps := 4000000) (disch := omega) only [EW, Nat.reduceBEq, reduceIte, Nat.reduceAdd, Nat.reduceLeDiff, Nat.reduceLT, Nat.reduceSub, Nat.reduceMul, reduceCtorEq, Int.reduceNeg, Int.reduceSub, Int.reduceAdd, Int.reduceLE, Int.reduceLT, Int.reduceMul, Int.reduceToNat, Int.reduceEq, Int.reduceBEq, Int.reduceBNe, Nat.reduceEqDiff]
          refine vk_callR rfl ⟨[rawV t acc], .inr ⟨lend_1 (lend_str rfl rfl), rfl⟩, hck⟩ ?_
          simp (maxSteps := 4000000) (disch := omega) only [EW, Nat.reduceBEq, reduceIte, Nat.reduceAdd, Nat.reduceLeDiff, Nat.reduceLT, Nat.reduceSub, Nat.reduceMul, reduceCtorEq, Int.reduceNeg, Int.reduceSub, Int.reduceAdd, Int.reduceLE, Int.reduceLT, Int.reduceMul, Int.reduceToNat, Int.reduceEq, Int.reduceBEq, Int.reduceBNe, Nat.reduceEqDiff]
          exact ⟨_, rfl, ⟨[some 0], rfl, rfl, rfl, rfl, ⟨.agg (.cons (.same _ rfl) (.cons ((.lentA rfl (rowsOf_length acc).symm)) .nil)), trivial⟩, ⟨⟨_, rfl, .box (.cons (.same _ rfl) (.cons (.same _ rfl) .nil))⟩, trivial⟩⟩⟩
        · rw [h, if_neg (by decide)] at hck
          simp (maxSteps := 4000000) (disch := omega) only [EW, Nat.reduceBEq, reduceIte, Nat.reduceAdd, Nat.reduceLeDiff, Nat.reduceLT, Nat.reduceSub, Nat.reduceMul, reduceCtorEq, Int.reduceNeg, Int.reduceSub, Int.reduceAdd, Int.reduceLE, Int.reduceLT, Int.reduceMul, Int.reduceToNat, Int.reduceEq, Int.reduceBEq, Int.reduceBNe, Nat.reduceEqDiff]
          refine hE _ _ ?_
          clear hE hR
          rw [if_pos (Or.inr h)]
          simp (maxSteps := 4000000) (disch := omega) only [EW, Nat.reduceBEq, reduceIte, Nat.reduceAdd, Nat.reduceLeDiff, Nat.reduceLT, Nat.reduceSub, Nat.reduceMul, reduceCtorEq, Int.reduceNeg, Int.reduceSub, Int.reduceAdd, Int.reduceLE, Int.reduceLT, Int.reduceMul, Int.reduceToNat, Int.reduceEq, Int.reduceBEq, Int.reduceBNe, Nat.reduceEqDiff]
          refine vk_callR rfl ⟨[rawV t acc], .inr ⟨lend_1 (lend_str rfl rfl), rfl⟩, hck⟩ ?_
          simp (maxSteps := 4000000) (disch := omega) only [EW, Nat.reduceBEq, reduceIte, Nat.reduceAdd, Nat.reduceLeDiff, Nat.reduceLT, Nat.reduceSub, Nat.reduceMul, reduceCtorEq, Int.reduceNeg, Int.reduceSub, Int.reduceAdd, Int.reduceLE, Int.reduceLT, Int.reduceMul, Int.reduceToNat, Int.reduceEq, Int.reduceBEq, Int.reduceBNe, Nat.reduceEqDiff]
          exact ⟨_, rfl, ⟨[some 0], rfl, rfl, rfl, rfl, ⟨.agg (.cons (.same _ rfl) (.cons (.nil _) .nil)), trivial⟩, ⟨⟨_, rfl, .box (.cons (.nil _) (.cons (.same _ rfl) .nil))⟩, trivial⟩⟩⟩
    · cases b with
      | true =>
        simp only [runsR, if_pos, List.append_nil] at g1 g2
        subst g1
        subst g2
        clear hN
        simp (maxSteps := 4000000) (disch := omega) only [EW, Nat.reduceBEq, reduceIte, Nat.reduceAdd, Nat.reduceLeDiff, Nat.reduceLT, Nat.reduceSub, Nat.reduceMul, reduceCtorEq, Int.reduceNeg, Int.reduceSub, Int.reduceAdd, Int.reduceLE, Int.reduceLT, Int.reduceMul, Int.reduceToNat, Int.reduceEq, Int.reduceBEq, Int.reduceBNe, Nat.reduceEqDiff]
        refine hE _ _ ?_
        clear hE hR
        rw [if_pos (Or.inl rfl)]
        simp (maxSteps := 4000000) (disch := omega) only [EW, Nat.reduceBEq, reduceIte, Nat.reduceAdd, Nat.reduceLeDiff, Nat.reduceLT, Nat.reduceSub, Nat.reduceMul, reduceCtorEq, Int.reduceNeg, Int.reduceSub, Int.reduceAdd, Int.reduceLE, Int.reduceLT, Int.reduceMul, Int.reduceToNat, Int.reduceEq, Int.reduceBEq, Int.reduceBNe, Nat.reduceEqDiff]
        exact ⟨_, rfl, ⟨[some 0], rfl, rfl, rfl, rfl, ⟨.agg (.cons (.same _ rfl) (.cons (.nil _) .nil)), trivial⟩, ⟨⟨_, rfl, .box (.cons (.nil _) (.cons (.same _ rfl) .nil))⟩, trivial⟩⟩⟩
      | false =>
        have g7 := g6 rfl
        have n1 := r_num (u, false) (by simp only; omega)
        have k1 := num_le (u, false)
        have k2 := num_len (u, false)
        have k3 := num_bad (u, false)
        simp only [runsR, Bool.false_eq_true, if_false] at g1 g2
        generalize numR (u, false) = x at *
        obtain ⟨a, v⟩ := x
        simp only at k1 k2 k3 n1 g1 g2
        have n2 := r_num v (by omega)
        have k4 := num_le v
        have k5 := num_len v
        have k6 := num_bad v
        generalize numR v = x at *
        obtain ⟨o, w, bw⟩ := x
        simp only at k4 k5 k6 n2 g1 g2
        have hfin := fun s' hs => hN s' (acc ++ [((a : Int), (o : Int))], m, w, bw) ⟨by rw [← g1]; simp, g2, by simp only; omega, by simp only; omega, by simp only [List.length_append, List.length_singleton]; omega, fun h => by simp only at h ⊢; have := k5 h; have := k2 this.1; simp only [List.length_append, List.length_singleton]; omega⟩ (Nat.lt_succ_self m) hs
        simp only at hfin
        clear hN
        simp (maxSteps := 4000000) (disch := omega) only [EW, Nat.reduceBEq, reduceIte, Nat.reduceAdd, Nat.reduceLeDiff, Nat.reduceLT, Nat.reduceSub, Nat.reduceMul, reduceCtorEq, Int.reduceNeg, Int.reduceSub, Int.reduceAdd, Int.reduceLE, Int.reduceLT, Int.reduceMul, Int.reduceToNat, Int.reduceEq, Int.reduceBEq, Int.reduceBNe, Nat.reduceEqDiff]
        refine vk_callB rfl n1 rfl rfl rfl rfl rfl rfl ?_
        simp (maxSteps := 4000000) (disch := omega) only [EW, Nat.reduceBEq, reduceIte, Nat.reduceAdd, Nat.reduceLeDiff, Nat.reduceLT, Nat.reduceSub, Nat.reduceMul, reduceCtorEq, Int.reduceNeg, Int.reduceSub, Int.reduceAdd, Int.reduceLE, Int.reduceLT, Int.reduceMul, Int.reduceToNat, Int.reduceEq, Int.reduceBEq, Int.reduceBNe, Nat.reduceEqDiff]
        refine vk_callB rfl n2 rfl rfl rfl rfl rfl rfl ?_
        have hrt : List.take acc.length (rowsOf acc) = rowsOf acc := List.take_of_length_le (by omega)
        have hrs : rowsOf acc ++ [[V.int .i64 (a : Int), V.int .i64 (o : Int)]] = rowsOf (acc ++ [((a : Int), (o : Int))]) := by rw [rowsOf_append]; rfl
        simp (maxSteps := 4000000) (disch := omega) only [EW, Nat.reduceBEq, reduceIte, Nat.reduceAdd, Nat.reduceLeDiff, Nat.reduceLT, Nat.reduceSub, Nat.reduceMul, reduceCtorEq, Int.reduceNeg, Int.reduceSub, Int.reduceAdd, Int.reduceLE, Int.reduceLT, Int.reduceMul, Int.reduceToNat, Int.reduceEq, Int.reduceBEq, Int.reduceBNe, Nat.reduceEqDiff, hra, hrt, hrs]
        refine hfin _ ?_
        exact ⟨[some 0, some 1, some 2, some 4], rfl, rfl, rfl, rfl, ⟨.ptr rfl, .ptr rfl, .ptr rfl, (.of_eq (by show V.int .i64 (((m + 1 : Nat) : Int) - 1) = V.int .i64 (m : Int); congr 1; omega) rfl), trivial⟩, ⟨⟨_, rfl, .box (.cons (.same _ rfl) (.cons (.same _ rfl) .nil))⟩, ⟨⟨_, rfl, .box (.cons (.same _ rfl) (.cons (.same _ rfl) .nil))⟩, ⟨⟨_, rfl, .box (.cons (.same _ rfl) (.cons ((.refE rfl (by simp [rowsOf_length]))) .nil))⟩, ⟨⟨_, rfl, .arr (.refl _)⟩, trivial⟩⟩⟩⟩⟩
end Go.Proofs.VL

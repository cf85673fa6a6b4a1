/- Contracts of functions of the program, for what calls them, and the law that its name tells. -/
import Derived.Test.YtdiddnapamjojaaTX
namespace Go.Proofs.VL
open Go Go.RowKit
set_option maxRecDepth 100000
set_option maxHeartbeats 2000000
set_option linter.unusedSimpArgs false
set_option linter.unusedVariables false
attribute [local irreducible] vwp vk

theorem hook_len (s : RS) : (hookR s).2.1.length ≤ s.1.length ∧ ((hookR s).2.2 = false → s.2 = false ∧ (hookR s).2.1.length + 12 = s.1.length) := by
  have a1 := num_le s
  have a2 := num_le (numR s).2
  have a3 := num_le (numR (numR s).2).2
  refine ⟨by show (numR (numR (numR s).2).2).2.1.length ≤ _; omega, fun h => ?_⟩
  have h' : ((numR (numR (numR s).2).2).2.2 || decide (1 < (numR (numR s).2).1)) = false := h
  rw [Bool.or_eq_false_iff] at h'
  have b3 := num_len _ h'.1
  have b2 := num_len _ b3.1
  have b1 := num_len _ b2.1
  exact ⟨b1.1, by show (numR (numR (numR s).2).2).2.1.length + 12 = _; omega⟩

/-- Hooks, as they are read. -/
def hooksR : Nat → RS → List (Int × Bool × Int) × RS
  | 0, s => ([], s)
  | n + 1, s => if s.2 = true then ([], s) else ((hookR s).1 :: (hooksR n (hookR s).2).1, (hooksR n (hookR s).2).2)
def opB (l : List UInt8) : Int := match l with | [] => 0 | c :: _ => c.toNat
/-- A patch, as it is read. -/
def patR (s : RS) : Pat × RS :=
  let o := tak 1 s
  let n1 := numR o.2
  let n2 := numR n1.2
  let n3 := numR n2.2
  let n4 := numR n3.2
  let n5 := numR n4.2
  let k := textR n5.2
  let s1 := strR k.2
  let s2 := strR s1.2
  let s3 := strR s2.2
  let s4 := strR s3.2
  let c := numR s4.2
  let h := hooksR c.1 c.2
  ({ op := opB o.1, node := n1.1, parent := n2.1, at_ := n3.1, kind := n4.1, tag := s1.1, key := k.1, slot := n5.1, name := s2.1, value := s3.1, hooks := h.1, text := s4.1 }, h.2.1, h.2.2 || decide (opB o.1 < 1) || decide (7 < opB o.1))

theorem runs_le : ∀ (n : Nat) (s : RS), (runsR n s).2.1.length ≤ s.1.length
  | 0, s => Nat.le_refl _
  | n + 1, s => by
    unfold runsR
    split
    · exact Nat.le_refl _
    · have := runs_le n (numR (numR s).2).2
      have a1 := num_le s
      have a2 := num_le (numR s).2
      simp only; omega
theorem str_le (s : RS) : (strR s).2.1.length ≤ s.1.length := by
  have h1 := (text_len s).2
  have h2 := num_le (textR s).2
  have h3 := runs_le (numR (textR s).2).1 (numR (textR s).2).2
  unfold strR
  simp only
  split
  · simp
  · simp only; omega

theorem r_patch (s : RS) (hs : s.1.length ≤ 100000000) : VCall Try.prog 101 [.ptr 0 0] (rOb s) (.agg (pCells (patR s).1)) (rOb (patR s).2) := by
  refine VCall.intro ok101 (Nat.le_of_ble_eq_true rfl) (vk_start ?_)
  unfold patR
  simp only
  have h0 := r_take s 1 (by decide) (by omega)
  have l0 := tak_len 1 s
  generalize tak 1 s = x at *
  obtain ⟨o, z0⟩ := x
  simp only at h0 l0 ⊢
  have h1 := r_num z0 (by omega)
  have l1 := (num_le z0).1
  generalize numR z0 = x at *
  obtain ⟨n1, z1⟩ := x
  simp only at h1 l1 ⊢
  have h2 := r_num z1 (by omega)
  have l2 := (num_le z1).1
  generalize numR z1 = x at *
  obtain ⟨n2, z2⟩ := x
  simp only at h2 l2 ⊢
  have h3 := r_num z2 (by omega)
  have l3 := (num_le z2).1
  generalize numR z2 = x at *
  obtain ⟨n3, z3⟩ := x
  simp only at h3 l3 ⊢
  have h4 := r_num z3 (by omega)
  have l4 := (num_le z3).1
  generalize numR z3 = x at *
  obtain ⟨n4, z4⟩ := x
  simp only at h4 l4 ⊢
  have h5 := r_num z4 (by omega)
  have l5 := (num_le z4).1
  generalize numR z4 = x at *
  obtain ⟨n5, z5⟩ := x
  simp only at h5 l5 ⊢
  have h6 := r_text z5 (by omega)
  have l6 := (text_len z5).2
  generalize textR z5 = x at *
  obtain ⟨key, z6⟩ := x
  simp only at h6 l6 ⊢
  have h7 := r_str z6 (by omega)
  have l7 := str_le z6
  generalize strR z6 = x at *
  obtain ⟨⟨tt, tr⟩, z7⟩ := x
  simp only at h7 l7 ⊢
  have h8 := r_str z7 (by omega)
  have l8 := str_le z7
  generalize strR z7 = x at *
  obtain ⟨⟨nt, nr⟩, z8⟩ := x
  simp only at h8 l8 ⊢
  have h9 := r_str z8 (by omega)
  have l9 := str_le z8
  generalize strR z8 = x at *
  obtain ⟨⟨vt, vr⟩, z9⟩ := x
  simp only at h9 l9 ⊢
  have h10 := r_str z9 (by omega)
  have l10 := str_le z9
  generalize strR z9 = x at *
  obtain ⟨⟨xt, xr⟩, z10⟩ := x
  simp only at h10 l10 ⊢
  have h11 := r_num z10 (by omega)
  have l11 := num_le z10
  generalize numR z10 = x at *
  obtain ⟨cn, z11⟩ := x
  simp only at h11 l11 ⊢
  generalize hX : hooksR cn z11 = X
  obtain ⟨X1, X2⟩ := X
  have hol := bRows_length o
  have e1 : ((1 : Nat) : Int) = 1 := rfl
  rw [e1] at h0
  simp (maxSteps := 4000000) (disch := omega) only [EW, Nat.reduceBEq, reduceIte, Nat.reduceAdd, Nat.reduceLeDiff, Nat.reduceLT, Nat.reduceSub, Nat.reduceMul, reduceCtorEq, Int.reduceNeg, Int.reduceSub, Int.reduceAdd, Int.reduceLE, Int.reduceLT, Int.reduceMul, Int.reduceToNat, Int.reduceEq, Int.reduceBEq, Int.reduceBNe, Nat.reduceEqDiff, vc101, rs101, rOb]
  refine vk_call rfl (r_at h0 rfl rfl rfl) ?_
  simp (maxSteps := 4000000) (disch := omega) only [EW, Nat.reduceBEq, reduceIte, Nat.reduceAdd, Nat.reduceLeDiff, Nat.reduceLT, Nat.reduceSub, Nat.reduceMul, reduceCtorEq, Int.reduceNeg, Int.reduceSub, Int.reduceAdd, Int.reduceLE, Int.reduceLT, Int.reduceMul, Int.reduceToNat, Int.reduceEq, Int.reduceBEq, Int.reduceBNe, Nat.reduceEqDiff, hol]
  refine vk_loopR (γ := Nat) (fun j => { tm := [(0, .ptr 0 0), (2, .ptr 1 0), (3, .ptr 2 0), (8, .sl 1 (bRows o)), (9, .int .i64 o.length), (10, .int .i64 j)], ob := [some (.box [.sl 1 (bRows z0.1), .bool z0.2]), some (.box [.int .i64 0, .int .i64 0, .int .i64 0, .int .i64 0, .int .i64 0, .str [], .nils, .str [], .int .i64 0, .str [], .nils, .str [], .nils, .nils, .str [], .nils]), some (.box [.int .i64 (opB (o.take j)), .int .i64 0, .int .i64 0, .int .i64 0, .int .i64 0, .str [], .nils, .str [], .int .i64 0, .str [], .nils, .str [], .nils, .nils, .str [], .nils])], base := 1 })
    (fun j => j ≤ o.length) (fun j => o.length - j) 0 (Nat.zero_le _) ?_ ?_
  · exact ⟨[some 0, some 1, some 2], rfl, rfl, rfl, rfl, ⟨.ptr rfl, .ptr rfl, .ptr rfl, .same _ rfl, .same _ rfl, .same _ rfl, trivial⟩, ⟨⟨_, rfl, .box (.cons (.same _ rfl) (.cons (.same _ rfl) .nil))⟩, ⟨⟨_, rfl, .box (SubML.same _ rfl)⟩, ⟨⟨_, rfl, .box (SubML.same _ rfl)⟩, trivial⟩⟩⟩⟩
  · rintro j hj R hN hE hR
    rcases Nat.lt_or_ge j o.length with hlt | hge
    · have hj0 : j = 0 := by omega
      subst hj0
      obtain ⟨c, hc⟩ : ∃ c, o[0]? = some c := ⟨_, List.getElem?_eq_getElem hlt⟩
      have hrow : (bRows o)[0]? = some [.int .u8 c.toNat] := by simp [bRows, hc]
      have hop : opB (o.take (0 + 1)) = c.toNat := by rw [List.take_add_one, hc]; rfl
      have hcl := c.toNat_lt
      have hfin := fun s' hs => hN s' (0 + 1) hlt (by omega) hs
      simp only [hop] at hfin
      simp (maxSteps := 4000000) (disch := omega) only [EW, Nat.reduceBEq, reduceIte, Nat.reduceAdd, Nat.reduceLeDiff, Nat.reduceLT, Nat.reduceSub, Nat.reduceMul, reduceCtorEq, Int.reduceNeg, Int.reduceSub, Int.reduceAdd, Int.reduceLE, Int.reduceLT, Int.reduceMul, Int.reduceToNat, Int.reduceEq, Int.reduceBEq, Int.reduceBNe, Nat.reduceEqDiff, hrow, hol]
      refine hfin _ ?_
      exact ⟨[some 0, some 1, some 2], rfl, rfl, rfl, rfl, ⟨.ptr rfl, .ptr rfl, .ptr rfl, .same _ rfl, .same _ rfl, .same _ rfl, trivial⟩, ⟨⟨_, rfl, .box (.cons (.same _ rfl) (.cons (.same _ rfl) .nil))⟩, ⟨⟨_, rfl, .box (SubML.same _ rfl)⟩, ⟨⟨_, rfl, .box (SubML.same _ rfl)⟩, trivial⟩⟩⟩⟩
    · have e : j = o.length := by omega
      subst e
      rw [List.take_length]
      clear hN
      generalize opB o = op at *
      simp (maxSteps := 4000000) (disch := omega) only [EW, Nat.reduceBEq, reduceIte, Nat.reduceAdd, Nat.reduceLeDiff, Nat.reduceLT, Nat.reduceSub, Nat.reduceMul, reduceCtorEq, Int.reduceNeg, Int.reduceSub, Int.reduceAdd, Int.reduceLE, Int.reduceLT, Int.reduceMul, Int.reduceToNat, Int.reduceEq, Int.reduceBEq, Int.reduceBNe, Nat.reduceEqDiff, hol]
      refine hE _ _ ?_
      clear hE hR
      simp (maxSteps := 4000000) (disch := omega) only [EW, Nat.reduceBEq, reduceIte, Nat.reduceAdd, Nat.reduceLeDiff, Nat.reduceLT, Nat.reduceSub, Nat.reduceMul, reduceCtorEq, Int.reduceNeg, Int.reduceSub, Int.reduceAdd, Int.reduceLE, Int.reduceLT, Int.reduceMul, Int.reduceToNat, Int.reduceEq, Int.reduceBEq, Int.reduceBNe, Nat.reduceEqDiff]
      refine vk_call rfl (r_at h1 rfl rfl rfl) ?_
      simp (maxSteps := 4000000) (disch := omega) only [EW, Nat.reduceBEq, reduceIte, Nat.reduceAdd, Nat.reduceLeDiff, Nat.reduceLT, Nat.reduceSub, Nat.reduceMul, reduceCtorEq, Int.reduceNeg, Int.reduceSub, Int.reduceAdd, Int.reduceLE, Int.reduceLT, Int.reduceMul, Int.reduceToNat, Int.reduceEq, Int.reduceBEq, Int.reduceBNe, Nat.reduceEqDiff]
      refine vk_call rfl (r_at h2 rfl rfl rfl) ?_
      simp (maxSteps := 4000000) (disch := omega) only [EW, Nat.reduceBEq, reduceIte, Nat.reduceAdd, Nat.reduceLeDiff, Nat.reduceLT, Nat.reduceSub, Nat.reduceMul, reduceCtorEq, Int.reduceNeg, Int.reduceSub, Int.reduceAdd, Int.reduceLE, Int.reduceLT, Int.reduceMul, Int.reduceToNat, Int.reduceEq, Int.reduceBEq, Int.reduceBNe, Nat.reduceEqDiff]
      refine vk_call rfl (r_at h3 rfl rfl rfl) ?_
      simp (maxSteps := 4000000) (disch := omega) only [EW, Nat.reduceBEq, reduceIte, Nat.reduceAdd, Nat.reduceLeDiff, Nat.reduceLT, Nat.reduceSub, Nat.reduceMul, reduceCtorEq, Int.reduceNeg, Int.reduceSub, Int.reduceAdd, Int.reduceLE, Int.reduceLT, Int.reduceMul, Int.reduceToNat, Int.reduceEq, Int.reduceBEq, Int.reduceBNe, Nat.reduceEqDiff]
      refine vk_call rfl (r_at h4 rfl rfl rfl) ?_
      simp (maxSteps := 4000000) (disch := omega) only [EW, Nat.reduceBEq, reduceIte, Nat.reduceAdd, Nat.reduceLeDiff, Nat.reduceLT, Nat.reduceSub, Nat.reduceMul, reduceCtorEq, Int.reduceNeg, Int.reduceSub, Int.reduceAdd, Int.reduceLE, Int.reduceLT, Int.reduceMul, Int.reduceToNat, Int.reduceEq, Int.reduceBEq, Int.reduceBNe, Nat.reduceEqDiff]
      refine vk_call rfl (r_at h5 rfl rfl rfl) ?_
      simp (maxSteps := 4000000) (disch := omega) only [EW, Nat.reduceBEq, reduceIte, Nat.reduceAdd, Nat.reduceLeDiff, Nat.reduceLT, Nat.reduceSub, Nat.reduceMul, reduceCtorEq, Int.reduceNeg, Int.reduceSub, Int.reduceAdd, Int.reduceLE, Int.reduceLT, Int.reduceMul, Int.reduceToNat, Int.reduceEq, Int.reduceBEq, Int.reduceBNe, Nat.reduceEqDiff]
      refine vk_call rfl (r_at h6 rfl rfl rfl) ?_
      simp (maxSteps := 4000000) (disch := omega) only [EW, Nat.reduceBEq, reduceIte, Nat.reduceAdd, Nat.reduceLeDiff, Nat.reduceLT, Nat.reduceSub, Nat.reduceMul, reduceCtorEq, Int.reduceNeg, Int.reduceSub, Int.reduceAdd, Int.reduceLE, Int.reduceLT, Int.reduceMul, Int.reduceToNat, Int.reduceEq, Int.reduceBEq, Int.reduceBNe, Nat.reduceEqDiff]
      refine vk_call rfl (r_at h7 rfl rfl rfl) ?_
      simp (maxSteps := 4000000) (disch := omega) only [EW, Nat.reduceBEq, reduceIte, Nat.reduceAdd, Nat.reduceLeDiff, Nat.reduceLT, Nat.reduceSub, Nat.reduceMul, reduceCtorEq, Int.reduceNeg, Int.reduceSub, Int.reduceAdd, Int.reduceLE, Int.reduceLT, Int.reduceMul, Int.reduceToNat, Int.reduceEq, Int.reduceBEq, Int.reduceBNe, Nat.reduceEqDiff]
      refine vk_call rfl (r_at h8 rfl rfl rfl) ?_
      simp (maxSteps := 4000000) (disch := omega) only [EW, Nat.reduceBEq, reduceIte, Nat.reduceAdd, Nat.reduceLeDiff, Nat.reduceLT, Nat.reduceSub, Nat.reduceMul, reduceCtorEq, Int.reduceNeg, Int.reduceSub, Int.reduceAdd, Int.reduceLE, Int.reduceLT, Int.reduceMul, Int.reduceToNat, Int.reduceEq, Int.reduceBEq, Int.reduceBNe, Nat.reduceEqDiff]
      refine vk_call rfl (r_at h9 rfl rfl rfl) ?_
      simp (maxSteps := 4000000) (disch := omega) only [EW, Nat.reduceBEq, reduceIte, Nat.reduceAdd, Nat.reduceLeDiff, Nat.reduceLT, Nat.reduceSub, Nat.reduceMul, reduceCtorEq, Int.reduceNeg, Int.reduceSub, Int.reduceAdd, Int.reduceLE, Int.reduceLT, Int.reduceMul, Int.reduceToNat, Int.reduceEq, Int.reduceBEq, Int.reduceBNe, Nat.reduceEqDiff]
      refine vk_call rfl (r_at h10 rfl rfl rfl) ?_
      simp (maxSteps := 4000000) (disch := omega) only [EW, Nat.reduceBEq, reduceIte, Nat.reduceAdd, Nat.reduceLeDiff, Nat.reduceLT, Nat.reduceSub, Nat.reduceMul, reduceCtorEq, Int.reduceNeg, Int.reduceSub, Int.reduceAdd, Int.reduceLE, Int.reduceLT, Int.reduceMul, Int.reduceToNat, Int.reduceEq, Int.reduceBEq, Int.reduceBNe, Nat.reduceEqDiff]
      refine vk_call rfl (r_at h11 rfl rfl rfl) ?_
      simp (maxSteps := 4000000) (disch := omega) only [EW, Nat.reduceBEq, reduceIte, Nat.reduceAdd, Nat.reduceLeDiff, Nat.reduceLT, Nat.reduceSub, Nat.reduceMul, reduceCtorEq, Int.reduceNeg, Int.reduceSub, Int.reduceAdd, Int.reduceLE, Int.reduceLT, Int.reduceMul, Int.reduceToNat, Int.reduceEq, Int.reduceBEq, Int.reduceBNe, Nat.reduceEqDiff]
      refine vk_loopR (γ := List (Int × Bool × Int) × Nat × RS) (fun g => { tm := [(0, .ptr 0 0), (2, .ptr 1 0), (3, .ptr 2 0), (6, .int .i64 g.2.1)], ob := [some (.box [.sl 1 (bRows g.2.2.1), .bool g.2.2.2]), some (.box [.int .i64 0, .int .i64 0, .int .i64 0, .int .i64 0, .int .i64 0, .str [], .nils, .str [], .int .i64 0, .str [], .nils, .str [], .nils, .nils, .str [], .nils]), some (.box [.int .i64 op, .int .i64 n1, .int .i64 n2, .int .i64 n3, .int .i64 n4, .str tt, .sl 2 (rowsOf tr), .str key, .int .i64 n5, .str nt, .sl 2 (rowsOf nr), .str vt, .sl 2 (rowsOf vr), .ref 3 g.1.length, .str xt, .sl 2 (rowsOf xr)]), some (.arr 151 3 (hRows g.1))], base := 1 })
        (fun g => g.1 ++ (hooksR g.2.1 g.2.2).1 = X1 ∧ (hooksR g.2.1 g.2.2).2 = X2 ∧ g.2.1 ≤ 4294967295 ∧ g.2.2.1.length ≤ 100000000 ∧ g.1.length ≤ 20000000 ∧ (g.2.2.2 = false → 12 * g.1.length + g.2.2.1.length ≤ 100000000)) (fun g => g.2.1) ([], cn, z11) ⟨by rw [hX]; rfl, by rw [hX], by simp only; omega, by simp only; omega, by simp, fun _ => by simp only [List.length_nil]; omega⟩ ?_ ?_
      · exact ⟨[some 0, some 1, some 2, none], rfl, rfl, rfl, rfl, ⟨.ptr rfl, .ptr rfl, .ptr rfl, .same _ rfl, trivial⟩, ⟨⟨_, rfl, .box (.cons (.same _ rfl) (.cons (.same _ rfl) .nil))⟩, ⟨⟨_, rfl, .box (SubML.same _ rfl)⟩, ⟨⟨_, rfl, .box (.cons (.same _ rfl) (.cons (.same _ rfl) (.cons (.same _ rfl) (.cons (.same _ rfl) (.cons (.same _ rfl) (.cons (.same _ rfl) (.cons (.same _ rfl) (.cons (.same _ rfl) (.cons (.same _ rfl) (.cons (.same _ rfl) (.cons (.same _ rfl) (.cons (.same _ rfl) (.cons (.same _ rfl) (.cons (.nref rfl) (.cons (.same _ rfl) (.cons (.same _ rfl) .nil))))))))))))))))⟩, ⟨⟨_, _, rfl⟩, trivial⟩⟩⟩⟩⟩
      · rintro ⟨acc, m, u, b⟩ ⟨g1, g2, g3, g4, g5, g6⟩ R hN hE hR
        simp only at g1 g2 g3 g4 g5 g6
        have hra : (hRows acc).length = acc.length := by simp [hRows]
        rcases m with - | m
        · simp only [hooksR, List.append_nil] at g1 g2
          subst g1
          subst g2
          clear hN
          simp (maxSteps := 4000000) (disch := omega) only [EW, Nat.reduceBEq, reduceIte, Nat.reduceAdd, Nat.reduceLeDiff, Nat.reduceLT, Nat.reduceSub, Nat.reduceMul, reduceCtorEq, Int.reduceNeg, Int.reduceSub, Int.reduceAdd, Int.reduceLE, Int.reduceLT, Int.reduceMul, Int.reduceToNat, Int.reduceEq, Int.reduceBEq, Int.reduceBNe, Nat.reduceEqDiff]
          refine hE _ _ ?_
          clear hE hR
          cases b with
          | true =>
            simp (maxSteps := 4000000) (disch := omega) only [EW, Nat.reduceBEq, reduceIte, Nat.reduceAdd, Nat.reduceLeDiff, Nat.reduceLT, Nat.reduceSub, Nat.reduceMul, reduceCtorEq, Int.reduceNeg, Int.reduceSub, Int.reduceAdd, Int.reduceLE, Int.reduceLT, Int.reduceMul, Int.reduceToNat, Int.reduceEq, Int.reduceBEq, Int.reduceBNe, Nat.reduceEqDiff]
            exact ⟨_, rfl, ⟨[some 0], rfl, rfl, rfl, rfl, ⟨.agg (.cons (.same _ rfl) (.cons (.same _ rfl) (.cons (.same _ rfl) (.cons (.same _ rfl) (.cons (.same _ rfl) (.cons (.same _ rfl) (.cons (.same _ rfl) (.cons (.same _ rfl) (.cons (.same _ rfl) (.cons (.same _ rfl) (.cons (.same _ rfl) (.cons (.same _ rfl) (.cons (.same _ rfl) (.cons ((.lentA rfl hra.symm)) (.cons (.same _ rfl) (.cons (.same _ rfl) .nil)))))))))))))))), trivial⟩, ⟨⟨_, rfl, .box (.cons (.same _ rfl) (.cons (.same _ rfl) .nil))⟩, trivial⟩⟩⟩
          | false =>
            by_cases hop : op < 1
            · have hb : (false || decide (op < 1) || decide (7 < op)) = true := by simp; omega
              rw [hb]
              simp (maxSteps := 4000000) (disch := omega) only [EW, Nat.reduceBEq, reduceIte, Nat.reduceAdd, Nat.reduceLeDiff, Nat.reduceLT, Nat.reduceSub, Nat.reduceMul, reduceCtorEq, Int.reduceNeg, Int.reduceSub, Int.reduceAdd, Int.reduceLE, Int.reduceLT, Int.reduceMul, Int.reduceToNat, Int.reduceEq, Int.reduceBEq, Int.reduceBNe, Nat.reduceEqDiff]
              exact ⟨_, rfl, ⟨[some 0], rfl, rfl, rfl, rfl, ⟨.agg (.cons (.same _ rfl) (.cons (.same _ rfl) (.cons (.same _ rfl) (.cons (.same _ rfl) (.cons (.same _ rfl) (.cons (.same _ rfl) (.cons (.same _ rfl) (.cons (.same _ rfl) (.cons (.same _ rfl) (.cons (.same _ rfl) (.cons (.same _ rfl) (.cons (.same _ rfl) (.cons (.same _ rfl) (.cons ((.lentA rfl hra.symm)) (.cons (.same _ rfl) (.cons (.same _ rfl) .nil)))))))))))))))), trivial⟩, ⟨⟨_, rfl, .box (.cons (.same _ rfl) (.cons (.same _ rfl) .nil))⟩, trivial⟩⟩⟩
            · by_cases hop2 : 7 < op
              · have hb : (false || decide (op < 1) || decide (7 < op)) = true := by simp; omega
                rw [hb]
                simp (maxSteps := 4000000) (disch := omega) only [EW, Nat.reduceBEq, reduceIte, Nat.reduceAdd, Nat.reduceLeDiff, Nat.reduceLT, Nat.reduceSub, Nat.reduceMul, reduceCtorEq, Int.reduceNeg, Int.reduceSub, Int.reduceAdd, Int.reduceLE, Int.reduceLT, Int.reduceMul, Int.reduceToNat, Int.reduceEq, Int.reduceBEq, Int.reduceBNe, Nat.reduceEqDiff]
                exact ⟨_, rfl, ⟨[some 0], rfl, rfl, rfl, rfl, ⟨.agg (.cons (.same _ rfl) (.cons (.same _ rfl) (.cons (.same _ rfl) (.cons (.same _ rfl) (.cons (.same _ rfl) (.cons (.same _ rfl) (.cons (.same _ rfl) (.cons (.same _ rfl) (.cons (.same _ rfl) (.cons (.same _ rfl) (.cons (.same _ rfl) (.cons (.same _ rfl) (.cons (.same _ rfl) (.cons ((.lentA rfl hra.symm)) (.cons (.same _ rfl) (.cons (.same _ rfl) .nil)))))))))))))))), trivial⟩, ⟨⟨_, rfl, .box (.cons (.same _ rfl) (.cons (.same _ rfl) .nil))⟩, trivial⟩⟩⟩
              · have hb : (false || decide (op < 1) || decide (7 < op)) = false := by simp; omega
                rw [hb]
                simp (maxSteps := 4000000) (disch := omega) only [EW, Nat.reduceBEq, reduceIte, Nat.reduceAdd, Nat.reduceLeDiff, Nat.reduceLT, Nat.reduceSub, Nat.reduceMul, reduceCtorEq, Int.reduceNeg, Int.reduceSub, Int.reduceAdd, Int.reduceLE, Int.reduceLT, Int.reduceMul, Int.reduceToNat, Int.reduceEq, Int.reduceBEq, Int.reduceBNe, Nat.reduceEqDiff]
                exact ⟨_, rfl, ⟨[some 0], rfl, rfl, rfl, rfl, ⟨.agg (.cons (.same _ rfl) (.cons (.same _ rfl) (.cons (.same _ rfl) (.cons (.same _ rfl) (.cons (.same _ rfl) (.cons (.same _ rfl) (.cons (.same _ rfl) (.cons (.same _ rfl) (.cons (.same _ rfl) (.cons (.same _ rfl) (.cons (.same _ rfl) (.cons (.same _ rfl) (.cons (.same _ rfl) (.cons ((.lentA rfl hra.symm)) (.cons (.same _ rfl) (.cons (.same _ rfl) .nil)))))))))))))))), trivial⟩, ⟨⟨_, rfl, .box (.cons (.same _ rfl) (.cons (.same _ rfl) .nil))⟩, trivial⟩⟩⟩
        · cases b with
          | true =>
            simp only [hooksR, if_pos, List.append_nil] at g1 g2
            subst g1
            subst g2
            clear hN
            simp (maxSteps := 4000000) (disch := omega) only [EW, Nat.reduceBEq, reduceIte, Nat.reduceAdd, Nat.reduceLeDiff, Nat.reduceLT, Nat.reduceSub, Nat.reduceMul, reduceCtorEq, Int.reduceNeg, Int.reduceSub, Int.reduceAdd, Int.reduceLE, Int.reduceLT, Int.reduceMul, Int.reduceToNat, Int.reduceEq, Int.reduceBEq, Int.reduceBNe, Nat.reduceEqDiff]
            refine hE _ _ ?_
            clear hE hR
            simp (maxSteps := 4000000) (disch := omega) only [EW, Nat.reduceBEq, reduceIte, Nat.reduceAdd, Nat.reduceLeDiff, Nat.reduceLT, Nat.reduceSub, Nat.reduceMul, reduceCtorEq, Int.reduceNeg, Int.reduceSub, Int.reduceAdd, Int.reduceLE, Int.reduceLT, Int.reduceMul, Int.reduceToNat, Int.reduceEq, Int.reduceBEq, Int.reduceBNe, Nat.reduceEqDiff]
            exact ⟨_, rfl, ⟨[some 0], rfl, rfl, rfl, rfl, ⟨.agg (.cons (.same _ rfl) (.cons (.same _ rfl) (.cons (.same _ rfl) (.cons (.same _ rfl) (.cons (.same _ rfl) (.cons (.same _ rfl) (.cons (.same _ rfl) (.cons (.same _ rfl) (.cons (.same _ rfl) (.cons (.same _ rfl) (.cons (.same _ rfl) (.cons (.same _ rfl) (.cons (.same _ rfl) (.cons ((.lentA rfl hra.symm)) (.cons (.same _ rfl) (.cons (.same _ rfl) .nil)))))))))))))))), trivial⟩, ⟨⟨_, rfl, .box (.cons (.same _ rfl) (.cons (.same _ rfl) .nil))⟩, trivial⟩⟩⟩
          | false =>
            have g7 := g6 rfl
            have n1 := r_hook (u, false) (by simp only; omega)
            have k1 := hook_len (u, false)
            simp only [hooksR, Bool.false_eq_true, if_false] at g1 g2
            generalize hookR (u, false) = x at *
            obtain ⟨⟨ev, cp, nm⟩, v, bv⟩ := x
            simp only at k1 n1 g1 g2
            have hfin := fun s' hs => hN s' (acc ++ [(ev, cp, nm)], m, v, bv) ⟨by rw [← g1]; simp, g2, by simp only; omega, by simp only; omega, by simp only [List.length_append, List.length_singleton]; omega, fun h => by simp only at h ⊢; have := k1.2 h; simp only [List.length_append, List.length_singleton]; omega⟩ (Nat.lt_succ_self m) hs
            simp only at hfin
            clear hN
            simp (maxSteps := 4000000) (disch := omega) only [EW, Nat.reduceBEq, reduceIte, Nat.reduceAdd, Nat.reduceLeDiff, Nat.reduceLT, Nat.reduceSub, Nat.reduceMul, reduceCtorEq, Int.reduceNeg, Int.reduceSub, Int.reduceAdd, Int.reduceLE, Int.reduceLT, Int.reduceMul, Int.reduceToNat, Int.reduceEq, Int.reduceBEq, Int.reduceBNe, Nat.reduceEqDiff]
            refine vk_callB rfl n1 rfl rfl rfl rfl rfl rfl ?_
            have hrt : List.take acc.length (hRows acc) = hRows acc := List.take_of_length_le (by omega)
            have hrs : hRows acc ++ [[V.int .i64 ev, V.bool cp, V.int .i64 nm]] = hRows (acc ++ [(ev, cp, nm)]) := by simp [hRows]
            simp (maxSteps := 4000000) (disch := omega) only [EW, Nat.reduceBEq, reduceIte, Nat.reduceAdd, Nat.reduceLeDiff, Nat.reduceLT, Nat.reduceSub, Nat.reduceMul, reduceCtorEq, Int.reduceNeg, Int.reduceSub, Int.reduceAdd, Int.reduceLE, Int.reduceLT, Int.reduceMul, Int.reduceToNat, Int.reduceEq, Int.reduceBEq, Int.reduceBNe, Nat.reduceEqDiff, hra, hrt, hrs]
            refine hfin _ ?_
            exact ⟨[some 0, some 1, some 2, some 4], rfl, rfl, rfl, rfl, ⟨.ptr rfl, .ptr rfl, .ptr rfl, (.of_eq (by show V.int .i64 (((m + 1 : Nat) : Int) - 1) = V.int .i64 (m : Int); congr 1; omega) rfl), trivial⟩, ⟨⟨_, rfl, .box (.cons (.same _ rfl) (.cons (.same _ rfl) .nil))⟩, ⟨⟨_, rfl, .box (SubML.same _ rfl)⟩, ⟨⟨_, rfl, .box (.cons (.same _ rfl) (.cons (.same _ rfl) (.cons (.same _ rfl) (.cons (.same _ rfl) (.cons (.same _ rfl) (.cons (.same _ rfl) (.cons (.same _ rfl) (.cons (.same _ rfl) (.cons (.same _ rfl) (.cons (.same _ rfl) (.cons (.same _ rfl) (.cons (.same _ rfl) (.cons (.same _ rfl) (.cons ((.refE rfl (by simp [hRows]))) (.cons (.same _ rfl) (.cons (.same _ rfl) .nil))))))))))))))))⟩, ⟨⟨_, rfl, .arr (.refl _)⟩, trivial⟩⟩⟩⟩⟩
end Go.Proofs.VL

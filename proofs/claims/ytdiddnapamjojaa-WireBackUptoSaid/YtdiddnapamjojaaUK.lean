/- Contracts of functions of the program, for what calls them, and the law that its name tells. -/
import Derived.Test.YtdiddnapamjojaaUJ
import Derived.Test.YtdiddnapamjojaaLC
namespace Go.Proofs.VL
open Go Go.RowKit Go.WideShapes Go.ChangeShapes Go.ChangeAt
set_option maxRecDepth 100000
set_option maxHeartbeats 2000000
set_option linter.unusedSimpArgs false
set_option linter.unusedVariables false
attribute [local irreducible] vwp vk

theorem wireBack (ps : List Pat) (b t : List UInt8) (rs : Runs) (more : List UInt8) (hl : ps.length ≤ 10000000) (hs : ∀ p ∈ ps, PTiny p) (hps : (patsO ps).length ≤ 200000000) (hb : b.length ≤ 10000000) (ht : t.length ≤ 5000000) (hrs : rs.length ≤ 10000000) (hm : more.length ≤ 10000000) :
    VFn Try.prog 12 [.sl 16 (pRows ps), .sl 1 (bRows b), rawV t rs, .sl 1 (bRows more)] (.bool true) := by
  refine VFn.intro ok12 (Nat.le_of_ble_eq_true rfl) (vk_start ?_)
  have ha := alive48
  have hput := wire_put ps (by omega) hs hps
  simp (maxSteps := 4000000) (disch := omega) only [EW, Nat.reduceBEq, reduceIte, Nat.reduceAdd, Nat.reduceLeDiff, Nat.reduceLT, Nat.reduceSub, Nat.reduceMul, reduceCtorEq, Int.reduceNeg, Int.reduceSub, Int.reduceAdd, Int.reduceLE, Int.reduceLT, Int.reduceMul, Int.reduceToNat, Int.reduceEq, Int.reduceBEq, Int.reduceBNe, Nat.reduceEqDiff, vc12, rs12, rawV]
  (refine vk_callR rfl ⟨_, .inl rfl, ha⟩ ?_; simp (maxSteps := 4000000) (disch := omega) only [EW, Nat.reduceBEq, reduceIte, Nat.reduceAdd, Nat.reduceLeDiff, Nat.reduceLT, Nat.reduceSub, Nat.reduceMul, reduceCtorEq, Int.reduceNeg, Int.reduceSub, Int.reduceAdd, Int.reduceLE, Int.reduceLT, Int.reduceMul, Int.reduceToNat, Int.reduceEq, Int.reduceBEq, Int.reduceBNe, Nat.reduceEqDiff])
  (refine vk_callR rfl ⟨_, .inl rfl, hput⟩ ?_; simp (maxSteps := 4000000) (disch := omega) only [EW, Nat.reduceBEq, reduceIte, Nat.reduceAdd, Nat.reduceLeDiff, Nat.reduceLT, Nat.reduceSub, Nat.reduceMul, reduceCtorEq, Int.reduceNeg, Int.reduceSub, Int.reduceAdd, Int.reduceLE, Int.reduceLT, Int.reduceMul, Int.reduceToNat, Int.reduceEq, Int.reduceBEq, Int.reduceBNe, Nat.reduceEqDiff])
  refine vk_joinR (γ := Unit) (fun _ => { tm := [(1, .sl 1 (bRows b)), (3, .sl 1 (bRows more)), (6, .ptr 0 0)], ob := [some (.box [.str t, .sl 2 (rowsOf rs)])], base := 0 }) (fun _ => True) ?_ ?_
  · intro R hN hE hR
    by_cases h0 : (putB ps).2 = 0
    · have hok := putB_ok h0
      have hrp := read_put hs h0
      have hrd := wire_read (putB ps).1 (by rw [hok.1]; omega)
      rw [hrp] at hrd
      have hpb := patches_back ps (by omega) hs
      generalize putB ps = z at *
      obtain ⟨z1, z2⟩ := z
      simp only at h0
      subst h0
      simp (maxSteps := 4000000) (disch := omega) only [EW, Nat.reduceBEq, reduceIte, Nat.reduceAdd, Nat.reduceLeDiff, Nat.reduceLT, Nat.reduceSub, Nat.reduceMul, reduceCtorEq, Int.reduceNeg, Int.reduceSub, Int.reduceAdd, Int.reduceLE, Int.reduceLT, Int.reduceMul, Int.reduceToNat, Int.reduceEq, Int.reduceBEq, Int.reduceBNe, Nat.reduceEqDiff]
      (refine vk_callR rfl ⟨_, .inl rfl, hrd⟩ ?_; simp (maxSteps := 4000000) (disch := omega) only [EW, Nat.reduceBEq, reduceIte, Nat.reduceAdd, Nat.reduceLeDiff, Nat.reduceLT, Nat.reduceSub, Nat.reduceMul, reduceCtorEq, Int.reduceNeg, Int.reduceSub, Int.reduceAdd, Int.reduceLE, Int.reduceLT, Int.reduceMul, Int.reduceToNat, Int.reduceEq, Int.reduceBEq, Int.reduceBNe, Nat.reduceEqDiff])
      (refine vk_callR rfl ⟨_, .inl rfl, hpb⟩ ?_; simp (maxSteps := 4000000) (disch := omega) only [EW, Nat.reduceBEq, reduceIte, Nat.reduceAdd, Nat.reduceLeDiff, Nat.reduceLT, Nat.reduceSub, Nat.reduceMul, reduceCtorEq, Int.reduceNeg, Int.reduceSub, Int.reduceAdd, Int.reduceLE, Int.reduceLT, Int.reduceMul, Int.reduceToNat, Int.reduceEq, Int.reduceBEq, Int.reduceBNe, Nat.reduceEqDiff])
      refine hN _ () trivial ?_
      exact ⟨[some 0], rfl, rfl, rfl, rfl, ⟨.same _ rfl, .same _ rfl, .ptr rfl, trivial⟩, ⟨⟨_, rfl, .box (.cons (.same _ rfl) (.cons (.same _ rfl) .nil))⟩, trivial⟩⟩
    · generalize putB ps = z at *
      obtain ⟨z1, z2⟩ := z
      simp only at h0
      simp (maxSteps := 4000000) (disch := omega) only [EW, Nat.reduceBEq, reduceIte, Nat.reduceAdd, Nat.reduceLeDiff, Nat.reduceLT, Nat.reduceSub, Nat.reduceMul, reduceCtorEq, Int.reduceNeg, Int.reduceSub, Int.reduceAdd, Int.reduceLE, Int.reduceLT, Int.reduceMul, Int.reduceToNat, Int.reduceEq, Int.reduceBEq, Int.reduceBNe, Nat.reduceEqDiff]
      refine hN _ () trivial ?_
      exact ⟨[some 0], rfl, rfl, rfl, rfl, ⟨.same _ rfl, .same _ rfl, .ptr rfl, trivial⟩, ⟨⟨_, rfl, .box (.cons (.same _ rfl) (.cons (.same _ rfl) .nil))⟩, trivial⟩⟩
  · rintro - -
    generalize hl0 : lab t rs = l
    have hn : Near l := by rw [← hl0]; exact lab_near _ _
    have hll : l.length = t.length := by rw [← hl0, lab_length]
    have hws := wire_strO hl0 (by omega) (by omega)
    have hol : (strO l).length ≤ 46000000 := by have := strO_len l; omega
    have hfr : VCall Try.prog 52 [rawV t rs] [some (.box [.str t, .sl 2 (rowsOf rs)])] (.ref 1 (strO l).length) [some (.box [.str t, .sl 2 (rowsOf rs)]), some (.arr 5 1 (bRows (strO l)))] := VCall.frame hws [] [some (.box [.str t, .sl 2 (rowsOf rs)])] ⟨rfl, by simp, fun i j hj => by simp at hj⟩ rfl rfl rfl rfl (Nat.zero_le _)
    have htk := wire_take (strO l ++ more) (by rw [List.length_append]; omega)
    rw [take_str hn (by omega)] at htk
    have hsm := same_of (lab_rawOf hn) hl0 (by have := rawOf_len l; omega) (by have := rawOf_len l; omega) (by omega) (by omega)
    rw [decide_eq_true rfl] at hsm
    have hck := mark_check (rawOf l).1 (rawOf l).2 (by have := rawOf_len l; omega) (by have := rawOf_len l; omega)
    rw [norm_raw hn] at hck
    have hbl := bRows_length (strO l)
    have hbt := bRows_take (strO l)
    have hml := bRows_length more
    simp (maxSteps := 4000000) (disch := omega) only [EW, Nat.reduceBEq, reduceIte, Nat.reduceAdd, Nat.reduceLeDiff, Nat.reduceLT, Nat.reduceSub, Nat.reduceMul, reduceCtorEq, Int.reduceNeg, Int.reduceSub, Int.reduceAdd, Int.reduceLE, Int.reduceLT, Int.reduceMul, Int.reduceToNat, Int.reduceEq, Int.reduceBEq, Int.reduceBNe, Nat.reduceEqDiff]
    refine vk_call rfl hfr ?_
    simp (maxSteps := 4000000) (disch := omega) only [EW, Nat.reduceBEq, reduceIte, Nat.reduceAdd, Nat.reduceLeDiff, Nat.reduceLT, Nat.reduceSub, Nat.reduceMul, reduceCtorEq, Int.reduceNeg, Int.reduceSub, Int.reduceAdd, Int.reduceLE, Int.reduceLT, Int.reduceMul, Int.reduceToNat, Int.reduceEq, Int.reduceBEq, Int.reduceBNe, Nat.reduceEqDiff, hbl, hbt, hml, bRows_append]
    have hte : VCall Try.prog 54 [.ref 2 (bRows (strO l ++ more)).length] [some (.box [.str t, .sl 2 (rowsOf rs)]), none, some (.arr 5 1 (bRows (strO l ++ more)))] _ [some (.box [.str t, .sl 2 (rowsOf rs)]), none, none] :=
      VCall.adopt (args1 := [.sl 1 (bRows (strO l ++ more))]) (ob1 := [some (.box [.str t, .sl 2 (rowsOf rs)]), none, none]) (CallR.call ⟨_, .inl rfl, htk⟩) rfl ⟨[some 0, some 1, some 2], rfl, rfl, rfl, rfl, ⟨(.lentA rfl rfl), trivial⟩, ⟨⟨_, rfl, .box (.cons (.same _ rfl) (.cons (.same _ rfl) .nil))⟩, trivial⟩⟩
    refine vk_call rfl hte ?_
    simp (maxSteps := 4000000) (disch := omega) only [EW, Nat.reduceBEq, reduceIte, Nat.reduceAdd, Nat.reduceLeDiff, Nat.reduceLT, Nat.reduceSub, Nat.reduceMul, reduceCtorEq, Int.reduceNeg, Int.reduceSub, Int.reduceAdd, Int.reduceLE, Int.reduceLT, Int.reduceMul, Int.reduceToNat, Int.reduceEq, Int.reduceBEq, Int.reduceBNe, Nat.reduceEqDiff]
    (refine vk_callR rfl ⟨_, .inl rfl, hsm⟩ ?_; simp (maxSteps := 4000000) (disch := omega) only [EW, Nat.reduceBEq, reduceIte, Nat.reduceAdd, Nat.reduceLeDiff, Nat.reduceLT, Nat.reduceSub, Nat.reduceMul, reduceCtorEq, Int.reduceNeg, Int.reduceSub, Int.reduceAdd, Int.reduceLE, Int.reduceLT, Int.reduceMul, Int.reduceToNat, Int.reduceEq, Int.reduceBEq, Int.reduceBNe, Nat.reduceEqDiff])
    (refine vk_callR rfl ⟨_, .inl rfl, hck⟩ ?_; simp (maxSteps := 4000000) (disch := omega) only [EW, Nat.reduceBEq, reduceIte, Nat.reduceAdd, Nat.reduceLeDiff, Nat.reduceLT, Nat.reduceSub, Nat.reduceMul, reduceCtorEq, Int.reduceNeg, Int.reduceSub, Int.reduceAdd, Int.reduceLE, Int.reduceLT, Int.reduceMul, Int.reduceToNat, Int.reduceEq, Int.reduceBEq, Int.reduceBNe, Nat.reduceEqDiff, rowsBytes_bRows, Option.map_some])
    have hrd := wire_read b (by omega)
    have herr := read_err b
    have hbk := fun h => put_read (b := b) h
    have hrl : (readB b).2 = 0 → ((readB b).1).length ≤ 65536 := readB_few b
    have hrt : ∀ p ∈ (readB b).1, PTiny p := readB_tiny b
    have hrs' : (readB b).2 = 0 → (patsO (readB b).1).length ≤ 65536 := fun h => by
      have := hbk h
      have q := putB_ok (ps := (readB b).1) (by rw [this])
      exact q.2.2
    have hput2 := fun h => wire_put (readB b).1 (by have := hrl h; omega) hrt (by have := hrs' h; omega)
    (refine vk_callR rfl ⟨_, .inl rfl, hrd⟩ ?_; simp (maxSteps := 4000000) (disch := omega) only [EW, Nat.reduceBEq, reduceIte, Nat.reduceAdd, Nat.reduceLeDiff, Nat.reduceLT, Nat.reduceSub, Nat.reduceMul, reduceCtorEq, Int.reduceNeg, Int.reduceSub, Int.reduceAdd, Int.reduceLE, Int.reduceLT, Int.reduceMul, Int.reduceToNat, Int.reduceEq, Int.reduceBEq, Int.reduceBNe, Nat.reduceEqDiff])
    by_cases h0 : (readB b).2 = 0
    · have hput3 := hput2 h0
      rw [hbk h0] at hput3
      generalize readB b = z at *
      obtain ⟨z1, z2⟩ := z
      simp only at h0 hput3
      subst h0
      simp (maxSteps := 4000000) (disch := omega) only [EW, Nat.reduceBEq, reduceIte, Nat.reduceAdd, Nat.reduceLeDiff, Nat.reduceLT, Nat.reduceSub, Nat.reduceMul, reduceCtorEq, Int.reduceNeg, Int.reduceSub, Int.reduceAdd, Int.reduceLE, Int.reduceLT, Int.reduceMul, Int.reduceToNat, Int.reduceEq, Int.reduceBEq, Int.reduceBNe, Nat.reduceEqDiff]
      (refine vk_callR rfl ⟨_, .inl rfl, hput3⟩ ?_; simp (maxSteps := 4000000) (disch := omega) only [EW, Nat.reduceBEq, reduceIte, Nat.reduceAdd, Nat.reduceLeDiff, Nat.reduceLT, Nat.reduceSub, Nat.reduceMul, reduceCtorEq, Int.reduceNeg, Int.reduceSub, Int.reduceAdd, Int.reduceLE, Int.reduceLT, Int.reduceMul, Int.reduceToNat, Int.reduceEq, Int.reduceBEq, Int.reduceBNe, Nat.reduceEqDiff, rowsBytes_bRows, Option.map_some])
      exact fin rfl
    · have h1 := herr.resolve_left h0
      clear hput2 hrs' hrt hrl hbk herr
      generalize readB b = z at *
      obtain ⟨z1, z2⟩ := z
      obtain ⟨q1, q2⟩ := h1
      simp only at h0 q1 q2
      subst q1
      have b0 : (pRows []).length = 0 := rfl
      rcases q2 with rfl | rfl
      all_goals
        simp (maxSteps := 4000000) (disch := omega) only [EW, Nat.reduceBEq, reduceIte, Nat.reduceAdd, Nat.reduceLeDiff, Nat.reduceLT, Nat.reduceSub, Nat.reduceMul, reduceCtorEq, Int.reduceNeg, Int.reduceSub, Int.reduceAdd, Int.reduceLE, Int.reduceLT, Int.reduceMul, Int.reduceToNat, Int.reduceEq, Int.reduceBEq, Int.reduceBNe, Nat.reduceEqDiff, b0]
        exact fin rfl
end Go.Proofs.VL

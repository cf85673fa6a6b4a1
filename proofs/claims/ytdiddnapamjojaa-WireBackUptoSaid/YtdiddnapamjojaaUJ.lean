/- Contracts of functions of the program, for what calls them, and the law that its name tells. -/
import Derived.Test.YtdiddnapamjojaaUI
import Derived.Test.YtdiddnapamjojaaUB
import Derived.Test.YtdiddnapamjojaaTM
namespace Go.Proofs.VL
open Go Go.RowKit
set_option maxRecDepth 100000
set_option maxHeartbeats 2000000
set_option linter.unusedSimpArgs false
set_option linter.unusedVariables false
attribute [local irreducible] vwp vk

/-- A labelled text's octets, in memory of their own. -/
theorem wire_strO {t : List UInt8} {rs : Runs} {l : LT} (h : lab t rs = l) (ht : t.length ≤ 100000000) (hrs : rs.length ≤ 100000000) : VCall Try.prog 52 [rawV t rs] [] (.ref 0 (strO l).length) [some (.arr 5 1 (bRows (strO l)))] := by
  refine VCall.intro ok52 (Nat.le_of_ble_eq_true rfl) (vk_start ?_)
  have hw := w_at (w_str [] false h (by simp) ht hrs) rfl (B := [some (.box [.str t, .sl 2 (rowsOf rs)]), some (.box [.ref 2 0, .bool false]), some (.arr 5 1 [])]) (k0 := 1) (k1 := 2) rfl rfl (by decide)
  have ha : VCall Try.prog 103 [.ptr 1 0, rawV t rs] [some (.box [.str t, .sl 2 (rowsOf rs)]), some (.box [.nils, .bool false])] (.tup []) _ :=
    VCall.adopt hw rfl ⟨[some 0, some 1, none], rfl, rfl, rfl, rfl, ⟨.ptr rfl, .agg (.cons (.same _ rfl) (.cons (.same _ rfl) .nil)), trivial⟩, ⟨⟨_, rfl, .box (.cons (.same _ rfl) (.cons (.same _ rfl) .nil))⟩, ⟨⟨_, rfl, .box (.cons (.nref rfl) (.cons (.same _ rfl) .nil))⟩, ⟨⟨_, _, rfl⟩, trivial⟩⟩⟩⟩
  rw [List.nil_append] at ha
  have hbl := bRows_length (strO l)
  have htk := bRows_take (strO l)
  simp (maxSteps := 4000000) (disch := omega) only [EW, Nat.reduceBEq, reduceIte, Nat.reduceAdd, Nat.reduceLeDiff, Nat.reduceLT, Nat.reduceSub, Nat.reduceMul, reduceCtorEq, Int.reduceNeg, Int.reduceSub, Int.reduceAdd, Int.reduceLE, Int.reduceLT, Int.reduceMul, Int.reduceToNat, Int.reduceEq, Int.reduceBEq, Int.reduceBNe, Nat.reduceEqDiff, vc52, rs52, rawV]
  refine vk_call rfl ha ?_
  simp (maxSteps := 4000000) (disch := omega) only [EW, Nat.reduceBEq, reduceIte, Nat.reduceAdd, Nat.reduceLeDiff, Nat.reduceLT, Nat.reduceSub, Nat.reduceMul, reduceCtorEq, Int.reduceNeg, Int.reduceSub, Int.reduceAdd, Int.reduceLE, Int.reduceLT, Int.reduceMul, Int.reduceToNat, Int.reduceEq, Int.reduceBEq, Int.reduceBNe, Nat.reduceEqDiff]
  exact ⟨_, rfl, ⟨[some 3], rfl, rfl, rfl, rfl, ⟨.ref rfl, trivial⟩, ⟨⟨_, rfl, .arr (.refl _)⟩, trivial⟩⟩⟩

/-- The labelled text that octets begin with. -/
def takeB (b : List UInt8) : ((List UInt8 × Runs) × List UInt8) × Bool := if (strR (b, false)).2.2 = true then ((([], []), []), false) else (((strR (b, false)).1, (strR (b, false)).2.1), true)

theorem wire_take (b : List UInt8) (hb : b.length ≤ 100000000) : VFn Try.prog 54 [.sl 1 (bRows b)] (.tup [.agg [.str (takeB b).1.1.1, .sl 2 (rowsOf (takeB b).1.1.2)], .sl 1 (bRows (takeB b).1.2), .bool (takeB b).2]) := by
  refine VFn.intro ok54 (Nat.le_of_ble_eq_true rfl) (vk_start ?_)
  have hc := byte_clone (bRows b) (by rw [bRows_length]; omega)
  have hs := r_str (b, false) hb
  unfold takeB
  generalize strR (b, false) = x at *
  obtain ⟨⟨st, sr⟩, v, bad⟩ := x
  simp only at hs ⊢
  simp (maxSteps := 4000000) (disch := omega) only [EW, Nat.reduceBEq, reduceIte, Nat.reduceAdd, Nat.reduceLeDiff, Nat.reduceLT, Nat.reduceSub, Nat.reduceMul, reduceCtorEq, Int.reduceNeg, Int.reduceSub, Int.reduceAdd, Int.reduceLE, Int.reduceLT, Int.reduceMul, Int.reduceToNat, Int.reduceEq, Int.reduceBEq, Int.reduceBNe, Nat.reduceEqDiff, vc54, rs54]
  (refine vk_callR rfl ⟨_, .inl rfl, hc⟩ ?_; simp (maxSteps := 4000000) (disch := omega) only [EW, Nat.reduceBEq, reduceIte, Nat.reduceAdd, Nat.reduceLeDiff, Nat.reduceLT, Nat.reduceSub, Nat.reduceMul, reduceCtorEq, Int.reduceNeg, Int.reduceSub, Int.reduceAdd, Int.reduceLE, Int.reduceLT, Int.reduceMul, Int.reduceToNat, Int.reduceEq, Int.reduceBEq, Int.reduceBNe, Nat.reduceEqDiff])
  refine vk_call rfl (r_at hs rfl rfl rfl) ?_
  cases bad with
  | true =>
    simp (maxSteps := 4000000) (disch := omega) only [EW, Nat.reduceBEq, reduceIte, Nat.reduceAdd, Nat.reduceLeDiff, Nat.reduceLT, Nat.reduceSub, Nat.reduceMul, reduceCtorEq, Int.reduceNeg, Int.reduceSub, Int.reduceAdd, Int.reduceLE, Int.reduceLT, Int.reduceMul, Int.reduceToNat, Int.reduceEq, Int.reduceBEq, Int.reduceBNe, Nat.reduceEqDiff]
    exact ⟨_, _, rfl, rfl, by (show Sub (.tup [.agg [.str [], .nils], .nils, .bool false]) (.tup [.agg [.str [], .sl 2 []], .sl 1 [], .bool false])); exact .tup (.cons (.agg (.cons (.refl _) (.cons (.nil _) .nil))) (.cons (.nil _) (.cons (.refl _) .nil)))⟩
  | false =>
    simp (maxSteps := 4000000) (disch := omega) only [EW, Nat.reduceBEq, reduceIte, Nat.reduceAdd, Nat.reduceLeDiff, Nat.reduceLT, Nat.reduceSub, Nat.reduceMul, reduceCtorEq, Int.reduceNeg, Int.reduceSub, Int.reduceAdd, Int.reduceLE, Int.reduceLT, Int.reduceMul, Int.reduceToNat, Int.reduceEq, Int.reduceBEq, Int.reduceBNe, Nat.reduceEqDiff]
    exact fin rfl

theorem take_str {l : LT} (h : Near l) (hl : l.length ≤ 1000000000) (w : List UInt8) : takeB (strO l ++ w) = ((rawOf l, w), true) := by
  unfold takeB
  rw [str_put h hl]
  rfl
theorem psame_norm (p : Pat) : PSame p (normP p) where
  op := rfl
  node := rfl
  parent := rfl
  at_ := rfl
  kind := rfl
  tag := (lab_rawOf (l := labR p.tag) (lab_near _ _)).symm
  key := rfl
  slot := rfl
  name := (lab_rawOf (l := labR p.name) (lab_near _ _)).symm
  value := (lab_rawOf (l := labR p.value) (lab_near _ _)).symm
  hooks := rfl
  text := (lab_rawOf (l := labR p.text) (lab_near _ _)).symm
theorem small_of {p : Pat} (h : PTiny p) : PSmall p ∧ PSmall (normP p) := by
  have t1 := h.str p.tag (by simp [four])
  have t2 := h.str p.name (by simp [four])
  have t3 := h.str p.value (by simp [four])
  have t4 := h.str p.text (by simp [four])
  have hh := h.hooks
  have q : ∀ s : List UInt8 × Runs, (rawOf (labR s)).1.length ≤ s.1.length ∧ (rawOf (labR s)).2.length ≤ s.1.length := by
    intro s
    have h1 := rawOf_len (labR s)
    have h2 : (labR s).length = s.1.length := lab_length _ _
    omega
  have q1 := q p.tag
  have q2 := q p.name
  have q3 := q p.value
  have q4 := q p.text
  exact ⟨⟨by omega, by omega, by omega, by omega, by omega⟩, ⟨by show (rawOf (labR p.tag)).1.length ≤ _ ∧ (rawOf (labR p.tag)).2.length ≤ _; omega, by show (rawOf (labR p.name)).1.length ≤ _ ∧ (rawOf (labR p.name)).2.length ≤ _; omega, by show (rawOf (labR p.value)).1.length ≤ _ ∧ (rawOf (labR p.value)).2.length ≤ _; omega, by show (rawOf (labR p.text)).1.length ≤ _ ∧ (rawOf (labR p.text)).2.length ≤ _; omega, by show p.hooks.length ≤ _; omega⟩⟩
theorem patches_back (ps : List Pat) (hl : ps.length ≤ 1000000000) (hs : ∀ p ∈ ps, PTiny p) : VFn Try.prog 26 [.sl 16 (pRows ps), .sl 16 (pRows (ps.map normP))] (.bool true) := by
  refine plain_patches ps _ hl (by simp) ?_
  intro i p q hp hq
  rw [List.getElem?_map, hp] at hq
  simp only [Option.map_some, Option.some.injEq] at hq
  subst hq
  have := small_of (hs p (List.mem_of_getElem? hp))
  exact ⟨psame_norm p, this.1, this.2⟩
end Go.Proofs.VL

/- Contracts of functions of the program, for what calls them, and the law that its name tells. -/
import Derived.Test.YtdiddnapamjojaaRA
namespace Go.Proofs.VL
open Go Go.RowKit
set_option maxRecDepth 100000
set_option maxHeartbeats 2000000
set_option linter.unusedSimpArgs false
set_option linter.unusedVariables false
attribute [local irreducible] vwp vk

/-- The others' calls. -/
def woC (owner : Int) (l : List Cal) : List Cal := l.filter fun c => !ownP owner c
def zC : List V := [.int .i64 0, .int .i64 0, .int .i64 0, .int .i64 0]
theorem woC_take (owner : Int) (l : List Cal) {k : Nat} {x : Cal} (h : l[k]? = some x) : woC owner (l.take (k + 1)) = woC owner (l.take k) ++ (if ownP owner x then [] else [x]) := by
  unfold woC
  rw [List.take_add_one, List.filter_append, h]
  cases hx : ownP owner x <;> simp [hx]
theorem woC_len (owner : Int) (l : List Cal) : (woC owner l).length ≤ l.length := List.length_filter_le _ _
theorem idxP_split {α : Type} (p : α → Bool) : ∀ l : List α, (idxP p l = -1 ∧ l.filter (fun c => !p c) = l) ∨ ∃ i : Nat, idxP p l = (i : Int) ∧ i < l.length ∧ (l.take (i + 1)).filter (fun c => !p c) = l.take i
  | [] => .inl ⟨rfl, rfl⟩
  | x :: r => by
    cases hx : p x with
    | true => exact .inr ⟨0, idxP_hit hx, by simp, by simp [hx]⟩
    | false =>
      rw [idxP_miss hx]
      rcases idxP_split p r with ⟨h1, h2⟩ | ⟨i, h1, h2, h3⟩
      · exact .inl ⟨by rw [h1]; rfl, by rw [List.filter_cons, hx, h2]; rfl⟩
      · refine .inr ⟨i + 1, by rw [h1, if_neg (by omega)]; rfl, by simp; omega, ?_⟩
        rw [List.take_succ_cons, List.filter_cons, hx, h3]; rfl
theorem kaRows_set (A : List Cal) (j : Nat) (x : Cal) : (kaRows A).set j (kaCells x) = kaRows (A.set j x) := by simp [kaRows, List.map_set]

theorem call_delete (l : List Cal) (owner : Int) (hl : l.length ≤ 10000000000) :
    VCall Try.prog 86 [.ref 0 l.length, fOwn owner] [some (.arr 123 4 (kaRows l))] (.ref 0 (woC owner l).length) [some (.arr 123 4 (kaRows (woC owner l) ++ List.replicate (l.length - (woC owner l).length) zC))] := by
  refine VCall.intro ok86 (Nat.le_of_ble_eq_true rfl) (vk_start ?_)
  have hcl := kaRows_length l
  have hi := call_index l owner (by omega)
  unfold fOwn at hi ⊢
  have hlen : lendL [some (.arr 123 4 (kaRows l))] [.ref 0 l.length, .fn 88 [] [.iptr [.int .i64 owner]]] = some [.sl 4 (kaRows l), .fn 88 [] [.iptr [.int .i64 owner]]] := by
    simp only [lendL, lend_rows (ob := [some (.arr 123 4 (kaRows l))]) (k := 0) (by rfl) hcl.symm]; rfl
  simp (maxSteps := 4000000) (disch := omega) only [EW, Nat.reduceBEq, reduceIte, Nat.reduceAdd, Nat.reduceLeDiff, Nat.reduceLT, Nat.reduceSub, Nat.reduceMul, reduceCtorEq, Int.reduceNeg, Int.reduceSub, Int.reduceAdd, Int.reduceLE, Int.reduceLT, Int.reduceMul, Int.reduceToNat, Int.reduceEq, Int.reduceBEq, Int.reduceBNe, Nat.reduceEqDiff, vc86, rs86]
  refine vk_callR rfl ⟨_, .inr ⟨hlen, rfl⟩, hi⟩ ?_
  rcases idxP_split (ownP owner) l with ⟨h1, h2⟩ | ⟨p, h1, h2, h3⟩
  · rw [h1]
    simp (maxSteps := 4000000) (disch := omega) only [EW, Nat.reduceBEq, reduceIte, Nat.reduceAdd, Nat.reduceLeDiff, Nat.reduceLT, Nat.reduceSub, Nat.reduceMul, reduceCtorEq, Int.reduceNeg, Int.reduceSub, Int.reduceAdd, Int.reduceLE, Int.reduceLT, Int.reduceMul, Int.reduceToNat, Int.reduceEq, Int.reduceBEq, Int.reduceBNe, Nat.reduceEqDiff]
    have e : woC owner l = l := h2
    rw [e, Nat.sub_self]
    refine ⟨_, rfl, ?_⟩
    rw [show List.replicate 0 zC = [] from rfl, List.append_nil]
    exact ⟨[some 0], rfl, rfl, rfl, rfl, ⟨.ref rfl, trivial⟩, ⟨⟨_, rfl, .arr (.refl _)⟩, trivial⟩⟩
  · rw [h1]
    simp (maxSteps := 4000000) (disch := omega) only [EW, Nat.reduceBEq, reduceIte, Nat.reduceAdd, Nat.reduceLeDiff, Nat.reduceLT, Nat.reduceSub, Nat.reduceMul, reduceCtorEq, Int.reduceNeg, Int.reduceSub, Int.reduceAdd, Int.reduceLE, Int.reduceLT, Int.reduceMul, Int.reduceToNat, Int.reduceEq, Int.reduceBEq, Int.reduceBNe, Nat.reduceEqDiff]
    refine vk_loopR (γ := Nat × List Cal) (fun g => { tm := [(0, .ref 0 l.length), (1, .fn 88 [] [.iptr [.int .i64 owner]]), (5, .int .i64 (woC owner (l.take g.1)).length), (6, .int .i64 g.1)], ob := [some (.arr 123 4 (kaRows g.2))], base := 1 })
      (fun g => g.1 ≤ l.length ∧ g.2.length = l.length ∧ g.2.take (woC owner (l.take g.1)).length = woC owner (l.take g.1) ∧ g.2.drop g.1 = l.drop g.1 ∧ (woC owner (l.take g.1)).length < g.1) (fun g => l.length - g.1) (p + 1, l) ?_ ?_ ?_
    · have e : woC owner (l.take (p + 1)) = l.take p := h3
      refine ⟨by simp only; omega, rfl, ?_, rfl, ?_⟩
      · simp only [e, List.length_take]; rw [Nat.min_eq_left (by omega)]
      · simp only [e, List.length_take]; omega
    · have e : woC owner (l.take (p + 1)) = l.take p := h3
      simp only [e, List.length_take]; rw [Nat.min_eq_left (by omega)]
      exact ⟨[some 0], rfl, rfl, rfl, rfl, ⟨.ref rfl, (.same _ rfl), .same _ rfl, .same _ rfl, trivial⟩, ⟨⟨_, rfl, .arr (.refl _)⟩, trivial⟩⟩
    · rintro ⟨k, A⟩ ⟨hk, hA, hT, hD, hj⟩ R hN hE hR
      simp only at hk hA hT hD hj
      have hAl := kaRows_length A
      rcases Nat.lt_or_ge k l.length with hlt | hge
      · obtain ⟨x, hx⟩ : ∃ x, l[k]? = some x := ⟨_, List.getElem?_eq_getElem hlt⟩
        have hxA : A[k]? = some x := by
          have := congrArg (fun t => t[0]?) hD
          simpa [List.getElem?_drop, hx] using this
        have hgr : (kaRows A)[k]? = some (kaCells x) := by rw [kaRows_get, hxA]; rfl
        have htk : (kaCells x).take 4 = kaCells x := rfl
        have hrl : (kaCells x).length = 4 := rfl
        have hw := woC_take owner l hx
        have hc : VFn Try.prog 88 [.agg (kaCells x), .iptr [.int .i64 owner]] (.bool (ownP owner x)) := call_own x owner
        have hal : (kaCells x).all VO.evW.isCell = true := rfl
        have hpu : putCells [.int .i64 0, .int .i64 0, .int .i64 0, .int .i64 0] 0 (kaCells x) = kaCells x := rfl
        simp (maxSteps := 4000000) (disch := omega) only [EW, Nat.reduceBEq, reduceIte, Nat.reduceAdd, Nat.reduceLeDiff, Nat.reduceLT, Nat.reduceSub, Nat.reduceMul, reduceCtorEq, Int.reduceNeg, Int.reduceSub, Int.reduceAdd, Int.reduceLE, Int.reduceLT, Int.reduceMul, Int.reduceToNat, Int.reduceEq, Int.reduceBEq, Int.reduceBNe, Nat.reduceEqDiff, hgr, htk, hrl, hcl, hAl, hA, hal, hpu]
        refine vk_callR rfl ⟨_, .inl (lend_app1 (lend_kaCells x) rfl), hc⟩ ?_
        cases hp : ownP owner x with
        | true =>
          rw [hp, if_pos rfl, List.append_nil] at hw
          simp (maxSteps := 4000000) (disch := omega) only [EW, Nat.reduceBEq, reduceIte, Nat.reduceAdd, Nat.reduceLeDiff, Nat.reduceLT, Nat.reduceSub, Nat.reduceMul, reduceCtorEq, Int.reduceNeg, Int.reduceSub, Int.reduceAdd, Int.reduceLE, Int.reduceLT, Int.reduceMul, Int.reduceToNat, Int.reduceEq, Int.reduceBEq, Int.reduceBNe, Nat.reduceEqDiff]
          refine hN _ (k + 1, A) ⟨hlt, hA, ?_, ?_, ?_⟩ (by simp only; omega) ?_
          · simp only [hw]; exact hT
          · simp only [← List.drop_drop, hD]
          · simp only [hw]; omega
          · simp only [hw]
            exact ⟨[some 0], rfl, rfl, rfl, rfl, ⟨.ref rfl, (.same _ rfl), .same _ rfl, .same _ rfl, trivial⟩, ⟨⟨_, rfl, .arr (.refl _)⟩, trivial⟩⟩
        | false =>
          rw [hp] at hw
          obtain ⟨y, hy⟩ : ∃ y, A[(woC owner (l.take k)).length]? = some y := ⟨_, List.getElem?_eq_getElem (by omega)⟩
          have hgj : (kaRows A)[(woC owner (l.take k)).length]? = some (kaCells y) := by rw [kaRows_get, hy]; rfl
          have hif : (kaCells x).all idFree = true := rfl
          have hyl : (kaCells y).length = 4 := rfl
          have hpy : putCells (kaCells y) 0 (kaCells x) = kaCells x := rfl
          simp (maxSteps := 4000000) (disch := omega) only [EW, Nat.reduceBEq, reduceIte, Nat.reduceAdd, Nat.reduceLeDiff, Nat.reduceLT, Nat.reduceSub, Nat.reduceMul, reduceCtorEq, Int.reduceNeg, Int.reduceSub, Int.reduceAdd, Int.reduceLE, Int.reduceLT, Int.reduceMul, Int.reduceToNat, Int.reduceEq, Int.reduceBEq, Int.reduceBNe, Nat.reduceEqDiff, kaRows_set, hAl, hA, hgr, htk, hrl, hal, hgj, hif, hyl, hpy]
          have hwl : (woC owner (l.take (k + 1))).length = (woC owner (l.take k)).length + 1 := by rw [hw]; simp
          have hwk : woC owner (l.take (k + 1)) = woC owner (l.take k) ++ [x] := hw
          refine hN _ (k + 1, A.set (woC owner (l.take k)).length x) ⟨hlt, by simp only [List.length_set]; exact hA, ?_, ?_, ?_⟩ (by simp only; omega) ?_
          · simp only
            rw [hwl, hwk, List.take_add_one, List.take_set, List.set_eq_of_length_le (by rw [List.length_take]; omega), hT, List.getElem?_set_self (by omega)]
            rfl
          · simp only
            rw [List.drop_set_of_lt (by omega), ← List.drop_drop, hD, List.drop_drop]
          · simp only; omega
          · simp only [hwl]
            exact ⟨[some 0], rfl, rfl, rfl, rfl, ⟨.ref rfl, (.same _ rfl), .same _ rfl, .same _ rfl, trivial⟩, ⟨⟨_, rfl, .arr (.refl _)⟩, trivial⟩⟩
      · have e : k = l.length := by omega
        subst e
        rw [List.take_length] at hT hj ⊢
        have hTk : (kaRows A).take (woC owner l).length = kaRows (woC owner l) := by rw [← hT]; simp [kaRows, List.map_take]
        simp (maxSteps := 4000000) (disch := omega) only [EW, Nat.reduceBEq, reduceIte, Nat.reduceAdd, Nat.reduceLeDiff, Nat.reduceLT, Nat.reduceSub, Nat.reduceMul, reduceCtorEq, Int.reduceNeg, Int.reduceSub, Int.reduceAdd, Int.reduceLE, Int.reduceLT, Int.reduceMul, Int.reduceToNat, Int.reduceEq, Int.reduceBEq, Int.reduceBNe, Nat.reduceEqDiff, hcl, hAl, hA]
        refine hE _ _ ?_
        rcases Nat.eq_zero_or_pos (woC owner l).length with h0 | h0
        · rw [h0] at hTk ⊢
          have hdr : (kaRows A).drop l.length = [] := List.drop_eq_nil_of_le (by omega)
          simp (maxSteps := 4000000) (disch := omega) only [EW, Nat.reduceBEq, reduceIte, Nat.reduceAdd, Nat.reduceLeDiff, Nat.reduceLT, Nat.reduceSub, Nat.reduceMul, reduceCtorEq, Int.reduceNeg, Int.reduceSub, Int.reduceAdd, Int.reduceLE, Int.reduceLT, Int.reduceMul, Int.reduceToNat, Int.reduceEq, Int.reduceBEq, Int.reduceBNe, Nat.reduceEqDiff, hcl, hAl, hA, hdr]
          have e0 : woC owner l = [] := List.length_eq_zero_iff.1 h0
          rw [e0]
          exact ⟨_, rfl, ⟨[some 0], rfl, rfl, rfl, rfl, ⟨.ref rfl, trivial⟩, ⟨⟨_, rfl, .arr (.refl _)⟩, trivial⟩⟩⟩
        · have hdr : (kaRows A).drop ((woC owner l).length + (l.length - (woC owner l).length)) = [] := List.drop_eq_nil_of_le (by omega)
          simp (maxSteps := 4000000) (disch := omega) only [EW, Nat.reduceBEq, reduceIte, Nat.reduceAdd, Nat.reduceLeDiff, Nat.reduceLT, Nat.reduceSub, Nat.reduceMul, reduceCtorEq, Int.reduceNeg, Int.reduceSub, Int.reduceAdd, Int.reduceLE, Int.reduceLT, Int.reduceMul, Int.reduceToNat, Int.reduceEq, Int.reduceBEq, Int.reduceBNe, Nat.reduceEqDiff, hcl, hAl, hA, hTk, hdr]
          exact ⟨_, rfl, ⟨[some 0], rfl, rfl, rfl, rfl, ⟨.ref rfl, trivial⟩, ⟨⟨_, rfl, .arr (.refl _)⟩, trivial⟩⟩⟩

theorem er_without (l : List Cal) (owner : Int) (hl : l.length ≤ 10000000000) : VFn Try.prog 35 [.sl 4 (kaRows l), .int .i64 owner] (.sl 4 (kaRows (woC owner l))) := by
  refine VFn.intro ok35 (Nat.le_of_ble_eq_true rfl) (vk_start ?_)
  have hcl := kaRows_length l
  have hc := call_clone (kaRows l) (by omega)
  have hd := call_delete l owner hl
  have hwl := woC_len owner l
  have hkl := kaRows_length (woC owner l)
  unfold fOwn at hd
  rw [hcl] at hc
  simp (maxSteps := 4000000) (disch := omega) only [EW, Nat.reduceBEq, reduceIte, Nat.reduceAdd, Nat.reduceLeDiff, Nat.reduceLT, Nat.reduceSub, Nat.reduceMul, reduceCtorEq, Int.reduceNeg, Int.reduceSub, Int.reduceAdd, Int.reduceLE, Int.reduceLT, Int.reduceMul, Int.reduceToNat, Int.reduceEq, Int.reduceBEq, Int.reduceBNe, Nat.reduceEqDiff, vc35, rs35, hcl]
  refine vk_call rfl hc ?_
  simp (maxSteps := 4000000) (disch := omega) only [EW, Nat.reduceBEq, reduceIte, Nat.reduceAdd, Nat.reduceLeDiff, Nat.reduceLT, Nat.reduceSub, Nat.reduceMul, reduceCtorEq, Int.reduceNeg, Int.reduceSub, Int.reduceAdd, Int.reduceLE, Int.reduceLT, Int.reduceMul, Int.reduceToNat, Int.reduceEq, Int.reduceBEq, Int.reduceBNe, Nat.reduceEqDiff, hcl]
  refine vk_call rfl hd ?_
  simp (maxSteps := 4000000) (disch := omega) only [EW, Nat.reduceBEq, reduceIte, Nat.reduceAdd, Nat.reduceLeDiff, Nat.reduceLT, Nat.reduceSub, Nat.reduceMul, reduceCtorEq, Int.reduceNeg, Int.reduceSub, Int.reduceAdd, Int.reduceLE, Int.reduceLT, Int.reduceMul, Int.reduceToNat, Int.reduceEq, Int.reduceBEq, Int.reduceBNe, Nat.reduceEqDiff, hcl]
  refine ⟨_, _, rfl, ?_, .refl _⟩
  have e1 : objRows [some (.arr 123 4 (kaRows (woC owner l) ++ List.replicate (l.length - (woC owner l).length) zC))] 0 = some (4, kaRows (woC owner l) ++ List.replicate (l.length - (woC owner l).length) zC) := rfl
  simp only [lendV, e1]
  rw [if_pos (by rw [List.length_append, hkl]; omega), List.take_left' hkl]
end Go.Proofs.VL

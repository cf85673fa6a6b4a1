/- Contracts of functions of the program, for what calls them, and the law that its name tells. -/
import Derived.Test.YtdhfnmbbdcpnbaaSG
import Derived.Test.YtdhfnmbbdcpnbaaSR
import Derived.Test.YtdhfnmbbdcpnbaaV3
import Derived.Lib.IndexAny
import Derived.Test.YtdhfnmbbdcpnbaaCtoken
import Derived.Test.YtdhfnmbbdcpnbaaCentity
import Derived.Test.YtdhfnmbbdcpnbaaCglazierlaw13
namespace Go.Proofs.VL
open Go Go.RowKit
set_option maxRecDepth 100000
set_option maxHeartbeats 2000000
set_option linter.unusedSimpArgs false
set_option linter.unusedVariables false
attribute [local irreducible] vwp vk

theorem ref_in (c : Nat) (hc : c < 256) (e : List UInt8) (he : e.length ≤ 1000000) : VFn Try.prog 75 [.int .u8 c, .str e] (.bool (e.contains (UInt8.ofNat c))) := by
  refine VFn.intro ok75 (Nat.le_of_ble_eq_true rfl) (vk_start ?_)
  simp (maxSteps := 4000000) (disch := omega) only [EW, Nat.reduceBEq, reduceIte, Nat.reduceAdd, Nat.reduceLeDiff, Nat.reduceLT, Nat.reduceSub, Nat.reduceMul, reduceCtorEq, Int.reduceNeg, Int.reduceSub, Int.reduceAdd, Int.reduceLE, Int.reduceLT, Int.reduceMul, Int.reduceToNat, Int.reduceEq, Int.reduceBEq, Int.reduceBNe, Nat.reduceEqDiff, vc75, rs75]
  refine vk_loopR (γ := Nat) (fun i => { tm := [(0, .int .u8 c), (1, .str e), (5, .int .i64 i)], ob := [], base := 0 })
    (fun i => i ≤ e.length ∧ ∀ x ∈ e.take i, x ≠ UInt8.ofNat c) (fun i => e.length - i) 0 ⟨Nat.zero_le _, by simp⟩ ?_ ?_
  · exact ⟨[], rfl, rfl, rfl, rfl, ⟨.same _ rfl, .same _ rfl, .same _ rfl, trivial⟩, trivial⟩
  · rintro i ⟨hi, hall⟩ R hN hE hR
    rcases Nat.lt_or_ge i e.length with hlt | hge
    · obtain ⟨x, hr⟩ : ∃ r, e[i]? = some r := ⟨_, List.getElem?_eq_getElem hlt⟩
      by_cases hx : x = UInt8.ofNat c
      · have b1 : ((x.toNat : Int) == (c : Int)) = true := by rw [hx]; simp; omega
        simp (maxSteps := 4000000) (disch := omega) only [EW, Nat.reduceBEq, reduceIte, Nat.reduceAdd, Nat.reduceLeDiff, Nat.reduceLT, Nat.reduceSub, Nat.reduceMul, reduceCtorEq, Int.reduceNeg, Int.reduceSub, Int.reduceAdd, Int.reduceLE, Int.reduceLT, Int.reduceMul, Int.reduceToNat, Int.reduceEq, Int.reduceBEq, Int.reduceBNe, Nat.reduceEqDiff, hr, b1]
        refine hR _ ?_
        simp (maxSteps := 4000000) (disch := omega) only [EW, Nat.reduceBEq, reduceIte, Nat.reduceAdd, Nat.reduceLeDiff, Nat.reduceLT, Nat.reduceSub, Nat.reduceMul, reduceCtorEq, Int.reduceNeg, Int.reduceSub, Int.reduceAdd, Int.reduceLE, Int.reduceLT, Int.reduceMul, Int.reduceToNat, Int.reduceEq, Int.reduceBEq, Int.reduceBNe, Nat.reduceEqDiff]
        have : e.contains (UInt8.ofNat c) = true := by rw [List.contains_iff_mem, ← hx]; exact List.mem_of_getElem? hr
        rw [this]
        exact fin rfl
      · have b1 : ((x.toNat : Int) == (c : Int)) = false := by
          rw [beq_eq_false_iff_ne]
          intro h
          apply hx
          apply UInt8.toNat.inj
          simp; omega
        simp (maxSteps := 4000000) (disch := omega) only [EW, Nat.reduceBEq, reduceIte, Nat.reduceAdd, Nat.reduceLeDiff, Nat.reduceLT, Nat.reduceSub, Nat.reduceMul, reduceCtorEq, Int.reduceNeg, Int.reduceSub, Int.reduceAdd, Int.reduceLE, Int.reduceLT, Int.reduceMul, Int.reduceToNat, Int.reduceEq, Int.reduceBEq, Int.reduceBNe, Nat.reduceEqDiff, hr, b1]
        refine hN _ (i + 1) ⟨hlt, ?_⟩ (by omega) ⟨[], rfl, rfl, rfl, rfl, ⟨.same _ rfl, .same _ rfl, .same _ rfl, trivial⟩, trivial⟩
        intro y hy
        rw [List.take_add_one, hr] at hy
        rcases List.mem_append.1 hy with hy | hy
        · exact hall y hy
        · simp at hy; rw [hy]; exact hx
    · simp (maxSteps := 4000000) (disch := omega) only [EW, Nat.reduceBEq, reduceIte, Nat.reduceAdd, Nat.reduceLeDiff, Nat.reduceLT, Nat.reduceSub, Nat.reduceMul, reduceCtorEq, Int.reduceNeg, Int.reduceSub, Int.reduceAdd, Int.reduceLE, Int.reduceLT, Int.reduceMul, Int.reduceToNat, Int.reduceEq, Int.reduceBEq, Int.reduceBNe, Nat.reduceEqDiff]
      refine hE _ _ ?_
      simp (maxSteps := 4000000) (disch := omega) only [EW, Nat.reduceBEq, reduceIte, Nat.reduceAdd, Nat.reduceLeDiff, Nat.reduceLT, Nat.reduceSub, Nat.reduceMul, reduceCtorEq, Int.reduceNeg, Int.reduceSub, Int.reduceAdd, Int.reduceLE, Int.reduceLT, Int.reduceMul, Int.reduceToNat, Int.reduceEq, Int.reduceBEq, Int.reduceBNe, Nat.reduceEqDiff]
      have : e.contains (UInt8.ofNat c) = false := by
        rw [List.take_of_length_le hge] at hall
        cases h : e.contains (UInt8.ofNat c) with
        | false => rfl
        | true => rw [List.contains_iff_mem] at h; exact absurd rfl (hall _ h)
      rw [this]
      exact fin rfl

/-- A labelled text without some bytes. -/
def outL (e : List UInt8) (l : LT) : LT := l.filter fun c => !e.contains c.1
theorem outL_len (e : List UInt8) (l : LT) : (outL e l).length ≤ l.length := List.length_filter_le _ _
theorem outL_snoc (e : List UInt8) (l : LT) (c : UInt8 × Int) : outL e (l ++ [c]) = if e.contains c.1 = true then outL e l else outL e l ++ [c] := by
  unfold outL
  rw [List.filter_append]
  rw [List.filter_cons, List.filter_nil]
  cases h : e.contains c.1 with
  | true => rw [if_neg (by decide), if_pos rfl, List.append_nil]
  | false => rw [if_pos (by decide), if_neg (by decide)]

theorem ref_without (l : LT) (e : List UInt8) (hl : l.length ≤ 1000000000) (he : e.length ≤ 1000000) : VFn Try.prog 26 [.sl 2 (cRows l), .str e] (.sl 2 (cRows (outL e l))) := by
  refine VFn.intro ok26 (Nat.le_of_ble_eq_true rfl) (vk_start ?_)
  simp (maxSteps := 4000000) (disch := omega) only [EW, Nat.reduceBEq, reduceIte, Nat.reduceAdd, Nat.reduceLeDiff, Nat.reduceLT, Nat.reduceSub, Nat.reduceMul, reduceCtorEq, Int.reduceNeg, Int.reduceSub, Int.reduceAdd, Int.reduceLE, Int.reduceLT, Int.reduceMul, Int.reduceToNat, Int.reduceEq, Int.reduceBEq, Int.reduceBNe, Nat.reduceEqDiff, vc26, rs26]
  refine vk_loopR (γ := Nat) (fun i => { tm := [(0, .sl 2 (cRows l)), (1, .str e), (5, .ref 0 (outL e (l.take i)).length), (6, .int .i64 i)], ob := [some (.arr 125 2 (cRows (outL e (l.take i))))], base := 0 })
    (fun i => i ≤ l.length) (fun i => l.length - i) 0 (Nat.zero_le _) ?_ ?_
  · exact ⟨[none], rfl, rfl, rfl, rfl, ⟨.same _ rfl, .same _ rfl, .nref rfl, .same _ rfl, trivial⟩, ⟨⟨_, _, rfl⟩, trivial⟩⟩
  · intro i hi R hN hE hR
    rcases Nat.lt_or_ge i l.length with hlt | hge
    · obtain ⟨⟨c, o⟩, hr⟩ : ∃ r, l[i]? = some r := ⟨_, List.getElem?_eq_getElem hlt⟩
      have hrow : (cRows l)[i]? = some [.int .u8 c.toNat, .int .i64 o] := by rw [cRows_get, hr]; rfl
      have hX : (outL e (l.take i)).length ≤ l.length := by have := outL_len e (l.take i); rw [List.length_take] at this; omega
      have htk : outL e (l.take (i + 1)) = if e.contains c = true then outL e (l.take i) else outL e (l.take i) ++ [(c, o)] := by
        rw [List.take_add_one, hr]; exact outL_snoc e _ _
      have hin := ref_in c.toNat c.toNat_lt e he
      rw [show UInt8.ofNat c.toNat = c by simp] at hin
      simp (maxSteps := 4000000) (disch := omega) only [EW, Nat.reduceBEq, reduceIte, Nat.reduceAdd, Nat.reduceLeDiff, Nat.reduceLT, Nat.reduceSub, Nat.reduceMul, reduceCtorEq, Int.reduceNeg, Int.reduceSub, Int.reduceAdd, Int.reduceLE, Int.reduceLT, Int.reduceMul, Int.reduceToNat, Int.reduceEq, Int.reduceBEq, Int.reduceBNe, Nat.reduceEqDiff, cRows_length, hrow]
      (refine vk_callR rfl ⟨_, .inl rfl, hin⟩ ?_; simp (maxSteps := 4000000) (disch := omega) only [EW, Nat.reduceBEq, reduceIte, Nat.reduceAdd, Nat.reduceLeDiff, Nat.reduceLT, Nat.reduceSub, Nat.reduceMul, reduceCtorEq, Int.reduceNeg, Int.reduceSub, Int.reduceAdd, Int.reduceLE, Int.reduceLT, Int.reduceMul, Int.reduceToNat, Int.reduceEq, Int.reduceBEq, Int.reduceBNe, Nat.reduceEqDiff])
      cases hc : e.contains c with
      | true =>
        simp (maxSteps := 4000000) (disch := omega) only [EW, Nat.reduceBEq, reduceIte, Nat.reduceAdd, Nat.reduceLeDiff, Nat.reduceLT, Nat.reduceSub, Nat.reduceMul, reduceCtorEq, Int.reduceNeg, Int.reduceSub, Int.reduceAdd, Int.reduceLE, Int.reduceLT, Int.reduceMul, Int.reduceToNat, Int.reduceEq, Int.reduceBEq, Int.reduceBNe, Nat.reduceEqDiff, hc]
        refine hN _ (i + 1) hlt (by omega) ?_
        rw [htk, if_pos hc]
        exact ⟨[some 0], rfl, rfl, rfl, rfl, ⟨.same _ rfl, .same _ rfl, .ref rfl, .same _ rfl, trivial⟩, ⟨⟨_, rfl, .arr (.refl _)⟩, trivial⟩⟩
      | false =>
        rw [hc] at htk
        generalize outL e (l.take i) = X at *
        have t1 : (cRows X).take X.length = cRows X := List.take_of_length_le (by rw [cRows_length]; exact Nat.le_refl _)
        have t2 : (cRows X).length = X.length := cRows_length X
        simp (maxSteps := 4000000) (disch := omega) only [EW, Nat.reduceBEq, reduceIte, Nat.reduceAdd, Nat.reduceLeDiff, Nat.reduceLT, Nat.reduceSub, Nat.reduceMul, reduceCtorEq, Int.reduceNeg, Int.reduceSub, Int.reduceAdd, Int.reduceLE, Int.reduceLT, Int.reduceMul, Int.reduceToNat, Int.reduceEq, Int.reduceBEq, Int.reduceBNe, Nat.reduceEqDiff, hc, cRows_length, hrow, t1]
        refine hN _ (i + 1) hlt (by omega) ?_
        rw [htk, if_neg (by simp), ← cRows_append, List.length_append]
        exact ⟨[some 1], rfl, rfl, rfl, rfl, ⟨.same _ rfl, .same _ rfl, .ref rfl, .same _ rfl, trivial⟩, ⟨⟨_, rfl, .arr (.refl _)⟩, trivial⟩⟩
    · simp (maxSteps := 4000000) (disch := omega) only [EW, Nat.reduceBEq, reduceIte, Nat.reduceAdd, Nat.reduceLeDiff, Nat.reduceLT, Nat.reduceSub, Nat.reduceMul, reduceCtorEq, Int.reduceNeg, Int.reduceSub, Int.reduceAdd, Int.reduceLE, Int.reduceLT, Int.reduceMul, Int.reduceToNat, Int.reduceEq, Int.reduceBEq, Int.reduceBNe, Nat.reduceEqDiff, cRows_length]
      refine hE _ _ ?_
      have : l.take i = l := List.take_of_length_le hge
      simp (maxSteps := 4000000) (disch := omega) only [EW, Nat.reduceBEq, reduceIte, Nat.reduceAdd, Nat.reduceLeDiff, Nat.reduceLT, Nat.reduceSub, Nat.reduceMul, reduceCtorEq, Int.reduceNeg, Int.reduceSub, Int.reduceAdd, Int.reduceLE, Int.reduceLT, Int.reduceMul, Int.reduceToNat, Int.reduceEq, Int.reduceBEq, Int.reduceBNe, Nat.reduceEqDiff, this]
      refine ⟨_, .sl 2 (cRows (outL e l)), rfl, ?_, .refl _⟩
      exact lend_rows rfl (by rw [cRows_length])

/-- A reader of a text that has told nothing yet. -/
def mkC (t : List UInt8) (rs : Runs) (at_ : Int) (x : V) : List V := [.str t, .sl 2 (rowsOf rs), .int .i64 at_, x]

theorem rd_done {B : List (Option VObj)} {k : Nat} {t : List UInt8} {rs : Runs} {a : Int} {x : V} (hk : B[k]? = some (some (.box (mkC t rs a x)))) : VCall Try.prog 64 [.ptr k 0] B (.bool (decide ((t.length : Int) ≤ a))) B := by
  refine VCall.introE ok64 (Nat.le_of_ble_eq_true rfl) (vk_start ?_)
  simp (maxSteps := 4000000) (disch := omega) only [EW, Nat.reduceBEq, reduceIte, Nat.reduceAdd, Nat.reduceLeDiff, Nat.reduceLT, Nat.reduceSub, Nat.reduceMul, reduceCtorEq, Int.reduceNeg, Int.reduceSub, Int.reduceAdd, Int.reduceLE, Int.reduceLT, Int.reduceMul, Int.reduceToNat, Int.reduceEq, Int.reduceBEq, Int.reduceBNe, Nat.reduceEqDiff, vc64, rs64, hk, mkC]
  exact ⟨rfl, rfl⟩

theorem rd_doneI (t : List UInt8) (rs : Runs) (a : Int) : VFn Try.prog 64 [.iptr (mkC t rs a .nils)] (.bool (decide ((t.length : Int) ≤ a))) := by
  refine VFn.intro ok64 (Nat.le_of_ble_eq_true rfl) (vk_start ?_)
  simp (maxSteps := 4000000) (disch := omega) only [EW, Nat.reduceBEq, reduceIte, Nat.reduceAdd, Nat.reduceLeDiff, Nat.reduceLT, Nat.reduceSub, Nat.reduceMul, reduceCtorEq, Int.reduceNeg, Int.reduceSub, Int.reduceAdd, Int.reduceLE, Int.reduceLT, Int.reduceMul, Int.reduceToNat, Int.reduceEq, Int.reduceBEq, Int.reduceBNe, Nat.reduceEqDiff, vc64, rs64, mkC]
  exact fin rfl

/-- What is ahead of the next of some bytes, or all. -/
theorem rd_take (t : List UInt8) (rs : Runs) (l : LT) (hlab : lab t rs = l) (e : List UInt8) (a j : Nat) (haj : a ≤ j) (hj : j ≤ t.length) (h1 : ∀ i c, a ≤ i → i < j → t[i]? = some c → e.contains c = false) (h2 : ∀ c, t[j]? = some c → e.contains c = true)
    (ht : t.length ≤ 1000000000) (hrs : rs.length ≤ 1000000000) :
    VCall Try.prog 67 [.ptr 0 0, .str e] [some (.box (mkC t rs a .nils))] (strV ((l.take j).drop a)) [some (.box (mkC t rs j .nils))] := by
  refine VCall.intro ok67 (Nat.le_of_ble_eq_true rfl) (vk_start ?_)
  have hl : l.length = t.length := by rw [← hlab, lab_length]
  simp (maxSteps := 4000000) (disch := omega) only [EW, Nat.reduceBEq, reduceIte, Nat.reduceAdd, Nat.reduceLeDiff, Nat.reduceLT, Nat.reduceSub, Nat.reduceMul, reduceCtorEq, Int.reduceNeg, Int.reduceSub, Int.reduceAdd, Int.reduceLE, Int.reduceLT, Int.reduceMul, Int.reduceToNat, Int.reduceEq, Int.reduceBEq, Int.reduceBNe, Nat.reduceEqDiff, vc67, rs67, mkC]
  refine vk_loopR (γ := Nat) (fun i => { tm := [(0, .ptr 0 0), (1, .str e), (4, .ptr 1 0), (5, .int .i64 a)], ob := [some (.box [.str t, .sl 2 (rowsOf rs), .int .i64 i, .nils]), some (.box [.str [], .nils])], base := 1 })
    (fun i => a ≤ i ∧ i ≤ j) (fun i => j - i) a ⟨Nat.le_refl _, haj⟩ ?_ ?_
  · exact ⟨[some 0, some 1], rfl, rfl, rfl, rfl, ⟨.ptr rfl, .same _ rfl, .ptr rfl, .same _ rfl, trivial⟩, ⟨⟨_, rfl, .box (.cons (.same _ rfl) (.cons (.same _ rfl) (.cons (.same _ rfl) (.cons (.same _ rfl) .nil))))⟩, ⟨⟨_, rfl, .box (.cons (.same _ rfl) (.cons (.same _ rfl) .nil))⟩, trivial⟩⟩⟩
  · rintro i ⟨hai, hij⟩ R hN hE hR
    rcases Nat.lt_or_ge i j with hlt | hge
    · obtain ⟨c, hr⟩ : ∃ r, t[i]? = some r := ⟨_, List.getElem?_eq_getElem (by omega)⟩
      have hc := h1 i c hai hlt hr
      have hix : (Lib.indexByte e c < 0) := by
        rw [Lib.contains_iff_indexByte, decide_eq_false_iff_not] at hc; omega
      have hd : decide ((t.length : Int) ≤ (i : Int)) = false := by simp; omega
      simp (maxSteps := 4000000) (disch := omega) only [EW, Nat.reduceBEq, reduceIte, Nat.reduceAdd, Nat.reduceLeDiff, Nat.reduceLT, Nat.reduceSub, Nat.reduceMul, reduceCtorEq, Int.reduceNeg, Int.reduceSub, Int.reduceAdd, Int.reduceLE, Int.reduceLT, Int.reduceMul, Int.reduceToNat, Int.reduceEq, Int.reduceBEq, Int.reduceBNe, Nat.reduceEqDiff]
      refine vk_callW rfl (rd_done (t := t) (rs := rs) (a := i) (x := .nils) rfl) (Nat.le_refl _) ?_
      simp (maxSteps := 4000000) (disch := omega) only [EW, Nat.reduceBEq, reduceIte, Nat.reduceAdd, Nat.reduceLeDiff, Nat.reduceLT, Nat.reduceSub, Nat.reduceMul, reduceCtorEq, Int.reduceNeg, Int.reduceSub, Int.reduceAdd, Int.reduceLE, Int.reduceLT, Int.reduceMul, Int.reduceToNat, Int.reduceEq, Int.reduceBEq, Int.reduceBNe, Nat.reduceEqDiff, hd, hr]
      refine vk_callR rfl ⟨_, .inl rfl, index_byte e c⟩ ?_
      simp (maxSteps := 4000000) (disch := omega) only [EW, Nat.reduceBEq, reduceIte, Nat.reduceAdd, Nat.reduceLeDiff, Nat.reduceLT, Nat.reduceSub, Nat.reduceMul, reduceCtorEq, Int.reduceNeg, Int.reduceSub, Int.reduceAdd, Int.reduceLE, Int.reduceLT, Int.reduceMul, Int.reduceToNat, Int.reduceEq, Int.reduceBEq, Int.reduceBNe, Nat.reduceEqDiff]
      exact hN _ (i + 1) ⟨by omega, by omega⟩ (by omega) ⟨[some 0, some 1], rfl, rfl, rfl, rfl, ⟨.ptr rfl, .same _ rfl, .ptr rfl, .same _ rfl, trivial⟩, ⟨⟨_, rfl, .box (.cons (.same _ rfl) (.cons (.same _ rfl) (.cons (.same _ rfl) (.cons (.same _ rfl) .nil))))⟩, ⟨⟨_, rfl, .box (.cons (.same _ rfl) (.cons (.same _ rfl) .nil))⟩, trivial⟩⟩⟩
    · have hij2 : i = j := by omega
      subst hij2
      have hcut := cut_of hlab a i ht hrs
      rw [show clampN (i : Int) l.length = i by unfold clampN; omega, show clampN (a : Int) l.length = a by unfold clampN; omega] at hcut
      rcases Nat.lt_or_ge i t.length with hlt | hge2
      · obtain ⟨c, hr⟩ : ∃ r, t[i]? = some r := ⟨_, List.getElem?_eq_getElem (by omega)⟩
        have hc := h2 c hr
        have hix : ¬ (Lib.indexByte e c < 0) := by
          rw [Lib.contains_iff_indexByte, decide_eq_true_eq] at hc; omega
        have hd : decide ((t.length : Int) ≤ (i : Int)) = false := by simp; omega
        simp (maxSteps := 4000000) (disch := omega) only [EW, Nat.reduceBEq, reduceIte, Nat.reduceAdd, Nat.reduceLeDiff, Nat.reduceLT, Nat.reduceSub, Nat.reduceMul, reduceCtorEq, Int.reduceNeg, Int.reduceSub, Int.reduceAdd, Int.reduceLE, Int.reduceLT, Int.reduceMul, Int.reduceToNat, Int.reduceEq, Int.reduceBEq, Int.reduceBNe, Nat.reduceEqDiff]
        refine vk_callW rfl (rd_done (t := t) (rs := rs) (a := i) (x := .nils) rfl) (Nat.le_refl _) ?_
        simp (maxSteps := 4000000) (disch := omega) only [EW, Nat.reduceBEq, reduceIte, Nat.reduceAdd, Nat.reduceLeDiff, Nat.reduceLT, Nat.reduceSub, Nat.reduceMul, reduceCtorEq, Int.reduceNeg, Int.reduceSub, Int.reduceAdd, Int.reduceLE, Int.reduceLT, Int.reduceMul, Int.reduceToNat, Int.reduceEq, Int.reduceBEq, Int.reduceBNe, Nat.reduceEqDiff, hd, hr]
        refine vk_callR rfl ⟨_, .inl rfl, index_byte e c⟩ ?_
        simp (maxSteps := 4000000) (disch := omega) only [EW, Nat.reduceBEq, reduceIte, Nat.reduceAdd, Nat.reduceLeDiff, Nat.reduceLT, Nat.reduceSub, Nat.reduceMul, reduceCtorEq, Int.reduceNeg, Int.reduceSub, Int.reduceAdd, Int.reduceLE, Int.reduceLT, Int.reduceMul, Int.reduceToNat, Int.reduceEq, Int.reduceBEq, Int.reduceBNe, Nat.reduceEqDiff]
        refine hE _ _ ?_
        simp (maxSteps := 4000000) (disch := omega) only [EW, Nat.reduceBEq, reduceIte, Nat.reduceAdd, Nat.reduceLeDiff, Nat.reduceLT, Nat.reduceSub, Nat.reduceMul, reduceCtorEq, Int.reduceNeg, Int.reduceSub, Int.reduceAdd, Int.reduceLE, Int.reduceLT, Int.reduceMul, Int.reduceToNat, Int.reduceEq, Int.reduceBEq, Int.reduceBNe, Nat.reduceEqDiff]
        refine vk_callR rfl ⟨[rawV t rs, .int .i64 a, .int .i64 i], .inl rfl, hcut⟩ ?_
        simp (maxSteps := 4000000) (disch := omega) only [EW, Nat.reduceBEq, reduceIte, Nat.reduceAdd, Nat.reduceLeDiff, Nat.reduceLT, Nat.reduceSub, Nat.reduceMul, reduceCtorEq, Int.reduceNeg, Int.reduceSub, Int.reduceAdd, Int.reduceLE, Int.reduceLT, Int.reduceMul, Int.reduceToNat, Int.reduceEq, Int.reduceBEq, Int.reduceBNe, Nat.reduceEqDiff, strV, rawV]
        exact ⟨_, rfl, ⟨[some 0], rfl, rfl, rfl, rfl, ⟨.agg (.cons (.same _ rfl) (.cons (.same _ rfl) .nil)), trivial⟩, ⟨⟨_, rfl, .box (.cons (.same _ rfl) (.cons (.same _ rfl) (.cons (.same _ rfl) (.cons (.same _ rfl) .nil))))⟩, trivial⟩⟩⟩
      · have hd : decide ((t.length : Int) ≤ (i : Int)) = true := by simp; omega
        simp (maxSteps := 4000000) (disch := omega) only [EW, Nat.reduceBEq, reduceIte, Nat.reduceAdd, Nat.reduceLeDiff, Nat.reduceLT, Nat.reduceSub, Nat.reduceMul, reduceCtorEq, Int.reduceNeg, Int.reduceSub, Int.reduceAdd, Int.reduceLE, Int.reduceLT, Int.reduceMul, Int.reduceToNat, Int.reduceEq, Int.reduceBEq, Int.reduceBNe, Nat.reduceEqDiff]
        refine vk_callW rfl (rd_done (t := t) (rs := rs) (a := i) (x := .nils) rfl) (Nat.le_refl _) ?_
        simp (maxSteps := 4000000) (disch := omega) only [EW, Nat.reduceBEq, reduceIte, Nat.reduceAdd, Nat.reduceLeDiff, Nat.reduceLT, Nat.reduceSub, Nat.reduceMul, reduceCtorEq, Int.reduceNeg, Int.reduceSub, Int.reduceAdd, Int.reduceLE, Int.reduceLT, Int.reduceMul, Int.reduceToNat, Int.reduceEq, Int.reduceBEq, Int.reduceBNe, Nat.reduceEqDiff, hd]
        refine hE _ _ ?_
        simp (maxSteps := 4000000) (disch := omega) only [EW, Nat.reduceBEq, reduceIte, Nat.reduceAdd, Nat.reduceLeDiff, Nat.reduceLT, Nat.reduceSub, Nat.reduceMul, reduceCtorEq, Int.reduceNeg, Int.reduceSub, Int.reduceAdd, Int.reduceLE, Int.reduceLT, Int.reduceMul, Int.reduceToNat, Int.reduceEq, Int.reduceBEq, Int.reduceBNe, Nat.reduceEqDiff]
        refine vk_callR rfl ⟨[rawV t rs, .int .i64 a, .int .i64 i], .inl rfl, hcut⟩ ?_
        simp (maxSteps := 4000000) (disch := omega) only [EW, Nat.reduceBEq, reduceIte, Nat.reduceAdd, Nat.reduceLeDiff, Nat.reduceLT, Nat.reduceSub, Nat.reduceMul, reduceCtorEq, Int.reduceNeg, Int.reduceSub, Int.reduceAdd, Int.reduceLE, Int.reduceLT, Int.reduceMul, Int.reduceToNat, Int.reduceEq, Int.reduceBEq, Int.reduceBNe, Nat.reduceEqDiff, strV, rawV]
        exact ⟨_, rfl, ⟨[some 0], rfl, rfl, rfl, rfl, ⟨.agg (.cons (.same _ rfl) (.cons (.same _ rfl) .nil)), trivial⟩, ⟨⟨_, rfl, .box (.cons (.same _ rfl) (.cons (.same _ rfl) (.cons (.same _ rfl) (.cons (.same _ rfl) .nil))))⟩, trivial⟩⟩⟩

theorem take_none (t : List UInt8) (h : ∀ c, t[0]? = some c → c ≠ 38) : VFn Try.prog 113 [.str t] (.tup [.str [], .int .i64 0]) := by
  refine VFn.intro ok113 (Nat.le_of_ble_eq_true rfl) (vk_start ?_)
  cases t with
  | nil =>
    simp (maxSteps := 4000000) (disch := omega) only [EW, Nat.reduceBEq, reduceIte, Nat.reduceAdd, Nat.reduceLeDiff, Nat.reduceLT, Nat.reduceSub, Nat.reduceMul, reduceCtorEq, Int.reduceNeg, Int.reduceSub, Int.reduceAdd, Int.reduceLE, Int.reduceLT, Int.reduceMul, Int.reduceToNat, Int.reduceEq, Int.reduceBEq, Int.reduceBNe, Nat.reduceEqDiff, vc113, rs113]
    exact fin rfl
  | cons c r =>
    have hc := h c rfl
    have b1 : ((c :: r : List UInt8) == []) = false := rfl
    have b2 : ((c.toNat : Int) != 38) = true := by
      rw [bne_iff_ne]; intro h1; exact hc (by apply UInt8.toNat.inj; simp; omega)
    simp (maxSteps := 4000000) (disch := omega) only [EW, Nat.reduceBEq, reduceIte, Nat.reduceAdd, Nat.reduceLeDiff, Nat.reduceLT, Nat.reduceSub, Nat.reduceMul, reduceCtorEq, Int.reduceNeg, Int.reduceSub, Int.reduceAdd, Int.reduceLE, Int.reduceLT, Int.reduceMul, Int.reduceToNat, Int.reduceEq, Int.reduceBEq, Int.reduceBNe, Nat.reduceEqDiff, vc113, rs113, b1, b2]
    exact fin rfl

theorem decode_plain (t : List UInt8) (rs : Runs) (l : LT) (hlab : lab t rs = l) (h : ∀ c ∈ t, c ≠ 38) (ht : t.length ≤ 1000000000) (hrs : rs.length ≤ 1000000000) : VFn Try.prog 77 [rawV t rs] (strV l) := by
  refine VFn.intro ok77 (Nat.le_of_ble_eq_true rfl) (vk_start ?_)
  have hl : l.length = t.length := by rw [← hlab, lab_length]
  have hn : Near l := hlab ▸ lab_near t rs
  have hcut := cut_of hlab 0 t.length ht hrs
  rw [show clampN (t.length : Int) l.length = l.length by unfold clampN; omega, show clampN (0 : Int) l.length = 0 by unfold clampN; omega, List.take_length, List.drop_zero] at hcut
  simp (maxSteps := 4000000) (disch := omega) only [EW, Nat.reduceBEq, reduceIte, Nat.reduceAdd, Nat.reduceLeDiff, Nat.reduceLT, Nat.reduceSub, Nat.reduceMul, reduceCtorEq, Int.reduceNeg, Int.reduceSub, Int.reduceAdd, Int.reduceLE, Int.reduceLT, Int.reduceMul, Int.reduceToNat, Int.reduceEq, Int.reduceBEq, Int.reduceBNe, Nat.reduceEqDiff, vc77, rs77, rawV]
  refine vk_loopR (γ := Nat) (fun i => { tm := [(1, .ptr 0 0), (2, .ptr 1 0), (3, .nils), (4, .int .i64 0), (5, .int .i64 i)], ob := [some (.box [.str t, .sl 2 (rowsOf rs)]), some (.box [.str [], .nils])], base := 0 })
    (fun i => i ≤ t.length) (fun i => t.length - i) 0 (Nat.zero_le _) ?_ ?_
  · exact ⟨[some 0, some 1], rfl, rfl, rfl, rfl, ⟨.ptr rfl, .ptr rfl, .same _ rfl, .same _ rfl, .same _ rfl, trivial⟩, ⟨⟨_, rfl, .box (.cons (.same _ rfl) (.cons (.same _ rfl) .nil))⟩, ⟨⟨_, rfl, .box (.cons (.same _ rfl) (.cons (.same _ rfl) .nil))⟩, trivial⟩⟩⟩
  · intro i hi R hN hE hR
    rcases Nat.lt_or_ge i t.length with hlt | hge
    · have htk := take_none (t.drop i) (fun c hc => h c (List.mem_of_mem_drop (List.mem_of_getElem? hc)))
      simp (maxSteps := 4000000) (disch := omega) only [EW, Nat.reduceBEq, reduceIte, Nat.reduceAdd, Nat.reduceLeDiff, Nat.reduceLT, Nat.reduceSub, Nat.reduceMul, reduceCtorEq, Int.reduceNeg, Int.reduceSub, Int.reduceAdd, Int.reduceLE, Int.reduceLT, Int.reduceMul, Int.reduceToNat, Int.reduceEq, Int.reduceBEq, Int.reduceBNe, Nat.reduceEqDiff]
      refine vk_pass ?_
      simp (maxSteps := 4000000) (disch := omega) only [EW, Nat.reduceBEq, reduceIte, Nat.reduceAdd, Nat.reduceLeDiff, Nat.reduceLT, Nat.reduceSub, Nat.reduceMul, reduceCtorEq, Int.reduceNeg, Int.reduceSub, Int.reduceAdd, Int.reduceLE, Int.reduceLT, Int.reduceMul, Int.reduceToNat, Int.reduceEq, Int.reduceBEq, Int.reduceBNe, Nat.reduceEqDiff, List.take_length]
      (refine vk_callR rfl ⟨_, .inl rfl, htk⟩ ?_; simp (maxSteps := 4000000) (disch := omega) only [EW, Nat.reduceBEq, reduceIte, Nat.reduceAdd, Nat.reduceLeDiff, Nat.reduceLT, Nat.reduceSub, Nat.reduceMul, reduceCtorEq, Int.reduceNeg, Int.reduceSub, Int.reduceAdd, Int.reduceLE, Int.reduceLT, Int.reduceMul, Int.reduceToNat, Int.reduceEq, Int.reduceBEq, Int.reduceBNe, Nat.reduceEqDiff])
      exact hN _ (i + 1) hlt (by omega) ⟨[some 0, some 1], rfl, rfl, rfl, rfl, ⟨.ptr rfl, .ptr rfl, .same _ rfl, .same _ rfl, .same _ rfl, trivial⟩, ⟨⟨_, rfl, .box (.cons (.same _ rfl) (.cons (.same _ rfl) .nil))⟩, ⟨⟨_, rfl, .box (.cons (.same _ rfl) (.cons (.same _ rfl) .nil))⟩, trivial⟩⟩⟩
    · simp (maxSteps := 4000000) (disch := omega) only [EW, Nat.reduceBEq, reduceIte, Nat.reduceAdd, Nat.reduceLeDiff, Nat.reduceLT, Nat.reduceSub, Nat.reduceMul, reduceCtorEq, Int.reduceNeg, Int.reduceSub, Int.reduceAdd, Int.reduceLE, Int.reduceLT, Int.reduceMul, Int.reduceToNat, Int.reduceEq, Int.reduceBEq, Int.reduceBNe, Nat.reduceEqDiff]
      refine hE _ _ ?_
      simp (maxSteps := 4000000) (disch := omega) only [EW, Nat.reduceBEq, reduceIte, Nat.reduceAdd, Nat.reduceLeDiff, Nat.reduceLT, Nat.reduceSub, Nat.reduceMul, reduceCtorEq, Int.reduceNeg, Int.reduceSub, Int.reduceAdd, Int.reduceLE, Int.reduceLT, Int.reduceMul, Int.reduceToNat, Int.reduceEq, Int.reduceBEq, Int.reduceBNe, Nat.reduceEqDiff]
      refine vk_callR rfl ⟨[rawV t rs, .int .i64 0, .int .i64 t.length], .inl rfl, hcut⟩ ?_
      simp (maxSteps := 4000000) (disch := omega) only [EW, Nat.reduceBEq, reduceIte, Nat.reduceAdd, Nat.reduceLeDiff, Nat.reduceLT, Nat.reduceSub, Nat.reduceMul, reduceCtorEq, Int.reduceNeg, Int.reduceSub, Int.reduceAdd, Int.reduceLE, Int.reduceLT, Int.reduceMul, Int.reduceToNat, Int.reduceEq, Int.reduceBEq, Int.reduceBNe, Nat.reduceEqDiff, strV_raw, rawV]
      rw [vkA_some]
      refine ⟨⟨by simp only [List.length_nil, List.length_cons]; decide, by simp only [List.length_nil, List.length_cons]; decide⟩, ?_⟩
      simp (maxSteps := 4000000) (disch := omega) only [EW, Nat.reduceBEq, reduceIte, Nat.reduceAdd, Nat.reduceLeDiff, Nat.reduceLT, Nat.reduceSub, Nat.reduceMul, reduceCtorEq, Int.reduceNeg, Int.reduceSub, Int.reduceAdd, Int.reduceLE, Int.reduceLT, Int.reduceMul, Int.reduceToNat, Int.reduceEq, Int.reduceBEq, Int.reduceBNe, Nat.reduceEqDiff]
      have hlabs := labs_rawOf (ls := [l]) (fun p hp => by simp at hp; rw [hp]; exact hn)
      rw [List.flatten_cons, List.flatten_nil, List.append_nil] at hlabs
      have hct : (catT ([l].map rawOf)).length = l.length := by rw [← labs_length, hlabs]
      refine vk_call rfl (VFn.eat1 (show VFn Try.prog 84 [.sl 2 (rawRows ([l].map rawOf))] (strV l) from cat_of hlabs (by simp) (fun s hs => by simp at hs; rw [hs]; have := (rawOf_len l).2; omega) (by omega)) 2 rfl) ?_
      simp (maxSteps := 4000000) (disch := omega) only [EW, Nat.reduceBEq, reduceIte, Nat.reduceAdd, Nat.reduceLeDiff, Nat.reduceLT, Nat.reduceSub, Nat.reduceMul, reduceCtorEq, Int.reduceNeg, Int.reduceSub, Int.reduceAdd, Int.reduceLE, Int.reduceLT, Int.reduceMul, Int.reduceToNat, Int.reduceEq, Int.reduceBEq, Int.reduceBNe, Nat.reduceEqDiff, strV_raw, rawV]
      exact fin rfl
end Go.Proofs.VL

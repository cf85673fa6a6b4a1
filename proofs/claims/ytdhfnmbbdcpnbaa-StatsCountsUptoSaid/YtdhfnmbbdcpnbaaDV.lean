/- Contracts of functions of the program, for what calls them, and the law that its name tells. -/
import Derived.Test.YtdhfnmbbdcpnbaaDT
import Derived.Test.YtdhfnmbbdcpnbaaV3
import Derived.Test.YtdhfnmbbdcpnbaaCD
import Derived.Test.YtdhfnmbbdcpnbaaGQ
import Derived.Test.YtdhfnmbbdcpnbaaGR
import Derived.Test.YtdhfnmbbdcpnbaaCstats
import Derived.Test.YtdhfnmbbdcpnbaaCsync
namespace Go.Proofs.VL
open Go Go.RowKit
set_option maxRecDepth 100000
set_option maxHeartbeats 4000000
set_option linter.unusedSimpArgs false
set_option linter.unusedVariables false
attribute [local irreducible] vwp vk

/-- Counts, as they stand in memory. -/
def stC (n0 n1 n2 n3 n4 : Int) (m : V) (d l c : Int) : List V := [.int .i64 n0, .int .i64 n1, .int .i64 n2, .int .i64 n3, .int .i64 n4, .int .i32 l, .int .u32 0, m, .int .u32 d, .int .i32 0, .int .u32 0, .int .i64 c]
/-- Codes, as they stand in memory: stamp, code. -/
def cV (es : List (Nat × Int)) : List (Nat × V × V) := es.map fun e => (e.1, .int .i64 e.2, .bool true)

theorem mfind_cV (c : Int) : ∀ es : List (Nat × Int), mfind (.i .i64) (.int .i64 c) (cV es) = some (if c ∈ es.map (·.2) then some (.bool true) else none)
  | [] => rfl
  | e :: es => by
    have ih := mfind_cV c es
    unfold cV at ih ⊢
    simp only [List.map_cons, mfind, eqKey, and_self, if_true]
    by_cases h : c = e.2
    · simp [h]
    · have : (c == e.2) = false := by simpa using h
      rw [this]
      simp only [ih, List.mem_cons, h, false_or]
theorem mset_cV (c : Int) : ∀ es : List (Nat × Int), mset (.i .i64) (.int .i64 c) (.bool true) (cV es) = cV es
  | [] => rfl
  | e :: es => by
    have ih := mset_cV c es
    unfold cV at ih ⊢
    simp only [List.map_cons, mset, eqKey, and_self, if_true]
    by_cases h : c = e.2
    · simp [h]
    · have : (c == e.2) = false := by simpa using h
      rw [this]
      simp only [ih]

theorem st_new : VCall Try.prog 13 [] [] (.ptr 0 0) [some (.box (stC 0 0 0 0 0 (.mapr 1) 0 0 0)), some (.map [] 0)] := by
  refine VCall.intro ok13 (Nat.le_of_ble_eq_true rfl) (vk_start ?_)
  simp (maxSteps := 4000000) (disch := omega) only [EW, Nat.reduceBEq, reduceIte, Nat.reduceAdd, Nat.reduceLeDiff, Nat.reduceLT, Nat.reduceSub, Nat.reduceMul, reduceCtorEq, Int.reduceNeg, Int.reduceSub, Int.reduceAdd, Int.reduceLE, Int.reduceLT, Int.reduceMul, Int.reduceToNat, Int.reduceEq, Int.reduceBEq, Int.reduceBNe, Nat.reduceEqDiff, vc13, rs13]
  exact ⟨_, rfl, ⟨[some 1, some 0], rfl, rfl, rfl, rfl, ⟨.ptr rfl, trivial⟩, ⟨⟨_, rfl, .box (.cons (.same _ rfl) (.cons (.same _ rfl) (.cons (.same _ rfl) (.cons (.same _ rfl) (.cons (.same _ rfl) (.cons (.same _ rfl) (.cons (.same _ rfl) (.cons (.mapr rfl) (.cons (.same _ rfl) (.cons (.same _ rfl) (.cons (.same _ rfl) (.cons (.same _ rfl) .nil))))))))))))⟩, ⟨(⟨_, rfl, .map (.refl _)⟩), trivial⟩⟩⟩⟩

theorem st_is {B : List (Option VObj)} {k m : Nat} {n0 n1 n2 n3 n4 d l c : Int} (hk : B[k]? = some (some (.box (stC n0 n1 n2 n3 n4 (.mapr m) d l c)))) : VCall Try.prog 51 [.ptr k 0] B (.bool true) B := by
  refine VCall.introE ok51 (Nat.le_of_ble_eq_true rfl) (vk_start ?_)
  simp (maxSteps := 4000000) (disch := omega) only [EW, Nat.reduceBEq, reduceIte, Nat.reduceAdd, Nat.reduceLeDiff, Nat.reduceLT, Nat.reduceSub, Nat.reduceMul, reduceCtorEq, Int.reduceNeg, Int.reduceSub, Int.reduceAdd, Int.reduceLE, Int.reduceLT, Int.reduceMul, Int.reduceToNat, Int.reduceEq, Int.reduceBEq, Int.reduceBNe, Nat.reduceEqDiff, vc51, rs51, hk, stC]
  exact ⟨rfl, rfl⟩

theorem st_isnil {B : List (Option VObj)} : VCall Try.prog 51 [.nilp] B (.bool false) B := by
  refine VCall.introE ok51 (Nat.le_of_ble_eq_true rfl) (vk_start ?_)
  simp (maxSteps := 4000000) (disch := omega) only [EW, Nat.reduceBEq, reduceIte, Nat.reduceAdd, Nat.reduceLeDiff, Nat.reduceLT, Nat.reduceSub, Nat.reduceMul, reduceCtorEq, Int.reduceNeg, Int.reduceSub, Int.reduceAdd, Int.reduceLE, Int.reduceLT, Int.reduceMul, Int.reduceToNat, Int.reduceEq, Int.reduceBEq, Int.reduceBNe, Nat.reduceEqDiff, vc51, rs51]
  exact ⟨rfl, rfl⟩

theorem st_more {B : List (Option VObj)} {k i : Nat} {cs : List V} {x n : Int} (hi : i < 5) (hk : B[k]? = some (some (.box cs))) (hx : cs[i]? = some (.int .i64 x)) : VCall Try.prog 54 [.ptr k 0, .int .i64 i, .int .i64 n] B (.tup []) (B.set k (some (.box (cs.set i (.int .i64 (IntKind.i64.wrap (x + max n 0))))))) := by
  refine VCall.introE ok54 (Nat.le_of_ble_eq_true rfl) (vk_start ?_)
  simp (maxSteps := 4000000) (disch := omega) only [EW, Nat.reduceBEq, reduceIte, Nat.reduceAdd, Nat.reduceLeDiff, Nat.reduceLT, Nat.reduceSub, Nat.reduceMul, reduceCtorEq, Int.reduceNeg, Int.reduceSub, Int.reduceAdd, Int.reduceLE, Int.reduceLT, Int.reduceMul, Int.reduceToNat, Int.reduceEq, Int.reduceBEq, Int.reduceBNe, Nat.reduceEqDiff, vc54, rs54]
  have hm : (if n < 0 then 0 else n) = max n 0 := by split <;> omega
  simp (maxSteps := 4000000) (disch := omega) only [EW, Nat.reduceBEq, reduceIte, Nat.reduceAdd, Nat.reduceLeDiff, Nat.reduceLT, Nat.reduceSub, Nat.reduceMul, reduceCtorEq, Int.reduceNeg, Int.reduceSub, Int.reduceAdd, Int.reduceLE, Int.reduceLT, Int.reduceMul, Int.reduceToNat, Int.reduceEq, Int.reduceBEq, Int.reduceBNe, Nat.reduceEqDiff, hm, Nat.mul_one]
  refine vk_call rfl (addC hk hx) ?_
  simp (maxSteps := 4000000) (disch := omega) only [EW, Nat.reduceBEq, reduceIte, Nat.reduceAdd, Nat.reduceLeDiff, Nat.reduceLT, Nat.reduceSub, Nat.reduceMul, reduceCtorEq, Int.reduceNeg, Int.reduceSub, Int.reduceAdd, Int.reduceLE, Int.reduceLT, Int.reduceMul, Int.reduceToNat, Int.reduceEq, Int.reduceBEq, Int.reduceBNe, Nat.reduceEqDiff]
  exact ⟨rfl, rfl⟩

/-- How many there are of each kind. -/
theorem st_total {B : List (Option VObj)} {k m : Nat} {n0 n1 n2 n3 n4 d l c : Int} (hk : B[k]? = some (some (.box (stC n0 n1 n2 n3 n4 (.mapr m) d l c)))) (q : Int) {r : Int}
    (hr : r = if q < 1 ∨ 5 < q then 0 else [n0, n1, n2, n3, n4].getD (q - 1).toNat 0) : VCall Try.prog 17 [.ptr k 0, .int .i64 q] B (.int .i64 r) B := by
  refine VCall.introE ok17 (Nat.le_of_ble_eq_true rfl) (vk_start ?_)
  simp (maxSteps := 4000000) (disch := omega) only [EW, Nat.reduceBEq, reduceIte, Nat.reduceAdd, Nat.reduceLeDiff, Nat.reduceLT, Nat.reduceSub, Nat.reduceMul, reduceCtorEq, Int.reduceNeg, Int.reduceSub, Int.reduceAdd, Int.reduceLE, Int.reduceLT, Int.reduceMul, Int.reduceToNat, Int.reduceEq, Int.reduceBEq, Int.reduceBNe, Nat.reduceEqDiff, vc17, rs17]
  refine vk_call rfl (st_is hk) ?_
  by_cases h1 : q < 1
  · rw [if_pos (.inl h1)] at hr
    simp (maxSteps := 4000000) (disch := omega) only [EW, Nat.reduceBEq, reduceIte, Nat.reduceAdd, Nat.reduceLeDiff, Nat.reduceLT, Nat.reduceSub, Nat.reduceMul, reduceCtorEq, Int.reduceNeg, Int.reduceSub, Int.reduceAdd, Int.reduceLE, Int.reduceLT, Int.reduceMul, Int.reduceToNat, Int.reduceEq, Int.reduceBEq, Int.reduceBNe, Nat.reduceEqDiff]
    exact ⟨by rw [hr]; rfl, rfl⟩
  · by_cases h2 : 5 < q
    · rw [if_pos (.inr h2)] at hr
      simp (maxSteps := 4000000) (disch := omega) only [EW, Nat.reduceBEq, reduceIte, Nat.reduceAdd, Nat.reduceLeDiff, Nat.reduceLT, Nat.reduceSub, Nat.reduceMul, reduceCtorEq, Int.reduceNeg, Int.reduceSub, Int.reduceAdd, Int.reduceLE, Int.reduceLT, Int.reduceMul, Int.reduceToNat, Int.reduceEq, Int.reduceBEq, Int.reduceBNe, Nat.reduceEqDiff]
      exact ⟨by rw [hr]; rfl, rfl⟩
    · rw [if_neg (by omega)] at hr
      obtain ⟨i, rfl, hi⟩ : ∃ i : Nat, q = (i : Int) + 1 ∧ i < 5 := ⟨(q - 1).toNat, by omega, by omega⟩
      rw [show ((i : Int) + 1 - 1).toNat = i by omega] at hr
      have hw : (i : Int) + 1 - 1 = i := by omega
      have hx : (stC n0 n1 n2 n3 n4 (.mapr m) d l c)[i]? = some (.int .i64 r) := by
        rw [hr]
        match i, hi with
        | 0, _ => rfl
        | 1, _ => rfl
        | 2, _ => rfl
        | 3, _ => rfl
        | 4, _ => rfl
      simp (maxSteps := 4000000) (disch := omega) only [EW, Nat.reduceBEq, reduceIte, Nat.reduceAdd, Nat.reduceLeDiff, Nat.reduceLT, Nat.reduceSub, Nat.reduceMul, reduceCtorEq, Int.reduceNeg, Int.reduceSub, Int.reduceAdd, Int.reduceLE, Int.reduceLT, Int.reduceMul, Int.reduceToNat, Int.reduceEq, Int.reduceBEq, Int.reduceBNe, Nat.reduceEqDiff, hw, Nat.mul_one]
      refine vk_call rfl (loadC hk hx) ?_
      simp (maxSteps := 4000000) (disch := omega) only [EW, Nat.reduceBEq, reduceIte, Nat.reduceAdd, Nat.reduceLeDiff, Nat.reduceLT, Nat.reduceSub, Nat.reduceMul, reduceCtorEq, Int.reduceNeg, Int.reduceSub, Int.reduceAdd, Int.reduceLE, Int.reduceLT, Int.reduceMul, Int.reduceToNat, Int.reduceEq, Int.reduceBEq, Int.reduceBNe, Nat.reduceEqDiff]
      exact ⟨rfl, rfl⟩

/-- The codes there are, with one more. -/
def addK (es : List (Nat × Int)) (clock : Nat) (c : Int) : List (Nat × Int) × Nat := if c ∈ es.map (·.2) then (es, clock) else (es ++ [(clock, c)], clock + 1)

theorem st_add (n0 n1 n2 n3 n4 : Int) (es : List (Nat × Int)) (clock : Nat) (o dn cm : Int) (code p : Int) (sa sc : Nat) (ra rc : List (List V)) :
    VCall Try.prog 16 [.ptr 0 0, .agg [.int .i64 code, .int .i64 p, .sl sa ra, .sl sc rc]] [some (.box (stC n0 n1 n2 n3 n4 (.mapr 1) dn 0 cm)), some (.map (cV es) clock)] (.tup [])
      [some (.box (stC (IntKind.i64.wrap (n0 + 1)) (if code = 0 then IntKind.i64.wrap (n1 + 1) else n1) (IntKind.i64.wrap (n2 + max p 0)) (IntKind.i64.wrap (n3 + ra.length)) (IntKind.i64.wrap (n4 + rc.length)) (.mapr 1) dn 0 cm)), some (.map (cV (addK es clock code).1) (addK es clock code).2)] := by
  have m1 : max (1 : Int) 0 = 1 := rfl
  have hef : elemFree (V.bool true) = true := rfl
  have ma : max (ra.length : Int) 0 = ra.length := by omega
  have mc : max (rc.length : Int) 0 = rc.length := by omega
  have hfind := mfind_cV code es
  refine VCall.introD ok16 (Nat.le_of_ble_eq_true rfl) ?_
  unfold dc16
  refine d_seq (d_vc ?_)
  simp (maxSteps := 4000000) (disch := omega) only [EW, Nat.reduceBEq, reduceIte, Nat.reduceAdd, Nat.reduceLeDiff, Nat.reduceLT, Nat.reduceSub, Nat.reduceMul, reduceCtorEq, Int.reduceNeg, Int.reduceSub, Int.reduceAdd, Int.reduceLE, Int.reduceLT, Int.reduceMul, Int.reduceToNat, Int.reduceEq, Int.reduceBEq, Int.reduceBNe, Nat.reduceEqDiff, St.up, d16p, St.init]
  refine d_seq (d_vc ?_)
  simp (maxSteps := 4000000) (disch := omega) only [EW, Nat.reduceBEq, reduceIte, Nat.reduceAdd, Nat.reduceLeDiff, Nat.reduceLT, Nat.reduceSub, Nat.reduceMul, reduceCtorEq, Int.reduceNeg, Int.reduceSub, Int.reduceAdd, Int.reduceLE, Int.reduceLT, Int.reduceMul, Int.reduceToNat, Int.reduceEq, Int.reduceBEq, Int.reduceBNe, Nat.reduceEqDiff, St.up, d16q]
  refine vk_call rfl (st_is rfl) ?_
  simp (maxSteps := 4000000) (disch := omega) only [EW, Nat.reduceBEq, reduceIte, Nat.reduceAdd, Nat.reduceLeDiff, Nat.reduceLT, Nat.reduceSub, Nat.reduceMul, reduceCtorEq, Int.reduceNeg, Int.reduceSub, Int.reduceAdd, Int.reduceLE, Int.reduceLT, Int.reduceMul, Int.reduceToNat, Int.reduceEq, Int.reduceBEq, Int.reduceBNe, Nat.reduceEqDiff]
  refine d_seq (d_vc ?_)
  simp (maxSteps := 4000000) (disch := omega) only [EW, Nat.reduceBEq, reduceIte, Nat.reduceAdd, Nat.reduceLeDiff, Nat.reduceLT, Nat.reduceSub, Nat.reduceMul, reduceCtorEq, Int.reduceNeg, Int.reduceSub, Int.reduceAdd, Int.reduceLE, Int.reduceLT, Int.reduceMul, Int.reduceToNat, Int.reduceEq, Int.reduceBEq, Int.reduceBNe, Nat.reduceEqDiff, St.up, d16r, stC]
  refine vk_call rfl (st_more (i := 0) (by omega) rfl rfl) ?_
  simp (maxSteps := 4000000) (disch := omega) only [EW, Nat.reduceBEq, reduceIte, Nat.reduceAdd, Nat.reduceLeDiff, Nat.reduceLT, Nat.reduceSub, Nat.reduceMul, reduceCtorEq, Int.reduceNeg, Int.reduceSub, Int.reduceAdd, Int.reduceLE, Int.reduceLT, Int.reduceMul, Int.reduceToNat, Int.reduceEq, Int.reduceBEq, Int.reduceBNe, Nat.reduceEqDiff, m1]
  refine d_seq (d_vc ?_)
  by_cases hc : code = 0
  · have b1 : (code == 0) = true := by simp [hc]
    rw [if_pos hc]
    simp (maxSteps := 4000000) (disch := omega) only [EW, Nat.reduceBEq, reduceIte, Nat.reduceAdd, Nat.reduceLeDiff, Nat.reduceLT, Nat.reduceSub, Nat.reduceMul, reduceCtorEq, Int.reduceNeg, Int.reduceSub, Int.reduceAdd, Int.reduceLE, Int.reduceLT, Int.reduceMul, Int.reduceToNat, Int.reduceEq, Int.reduceBEq, Int.reduceBNe, Nat.reduceEqDiff, St.up, d16s, b1]
    refine vk_call rfl (st_more (i := 1) (by omega) rfl rfl) ?_
    simp (maxSteps := 4000000) (disch := omega) only [EW, Nat.reduceBEq, reduceIte, Nat.reduceAdd, Nat.reduceLeDiff, Nat.reduceLT, Nat.reduceSub, Nat.reduceMul, reduceCtorEq, Int.reduceNeg, Int.reduceSub, Int.reduceAdd, Int.reduceLE, Int.reduceLT, Int.reduceMul, Int.reduceToNat, Int.reduceEq, Int.reduceBEq, Int.reduceBNe, Nat.reduceEqDiff, m1]
    unfold d16t
    refine d_seq (d_vc ?_)
    simp (maxSteps := 4000000) (disch := omega) only [EW, Nat.reduceBEq, reduceIte, Nat.reduceAdd, Nat.reduceLeDiff, Nat.reduceLT, Nat.reduceSub, Nat.reduceMul, reduceCtorEq, Int.reduceNeg, Int.reduceSub, Int.reduceAdd, Int.reduceLE, Int.reduceLT, Int.reduceMul, Int.reduceToNat, Int.reduceEq, Int.reduceBEq, Int.reduceBNe, Nat.reduceEqDiff, St.up, stC, d16a]
    refine vk_call rfl (st_more (i := 2) (by omega) rfl rfl) ?_
    simp (maxSteps := 4000000) (disch := omega) only [EW, Nat.reduceBEq, reduceIte, Nat.reduceAdd, Nat.reduceLeDiff, Nat.reduceLT, Nat.reduceSub, Nat.reduceMul, reduceCtorEq, Int.reduceNeg, Int.reduceSub, Int.reduceAdd, Int.reduceLE, Int.reduceLT, Int.reduceMul, Int.reduceToNat, Int.reduceEq, Int.reduceBEq, Int.reduceBNe, Nat.reduceEqDiff]
    refine d_seq (d_vc ?_)
    simp (maxSteps := 4000000) (disch := omega) only [EW, Nat.reduceBEq, reduceIte, Nat.reduceAdd, Nat.reduceLeDiff, Nat.reduceLT, Nat.reduceSub, Nat.reduceMul, reduceCtorEq, Int.reduceNeg, Int.reduceSub, Int.reduceAdd, Int.reduceLE, Int.reduceLT, Int.reduceMul, Int.reduceToNat, Int.reduceEq, Int.reduceBEq, Int.reduceBNe, Nat.reduceEqDiff, St.up, d16b]
    refine vk_call rfl (st_more (i := 3) (by omega) rfl rfl) ?_
    simp (maxSteps := 4000000) (disch := omega) only [EW, Nat.reduceBEq, reduceIte, Nat.reduceAdd, Nat.reduceLeDiff, Nat.reduceLT, Nat.reduceSub, Nat.reduceMul, reduceCtorEq, Int.reduceNeg, Int.reduceSub, Int.reduceAdd, Int.reduceLE, Int.reduceLT, Int.reduceMul, Int.reduceToNat, Int.reduceEq, Int.reduceBEq, Int.reduceBNe, Nat.reduceEqDiff, ma]
    refine d_seq (d_vc ?_)
    simp (maxSteps := 4000000) (disch := omega) only [EW, Nat.reduceBEq, reduceIte, Nat.reduceAdd, Nat.reduceLeDiff, Nat.reduceLT, Nat.reduceSub, Nat.reduceMul, reduceCtorEq, Int.reduceNeg, Int.reduceSub, Int.reduceAdd, Int.reduceLE, Int.reduceLT, Int.reduceMul, Int.reduceToNat, Int.reduceEq, Int.reduceBEq, Int.reduceBNe, Nat.reduceEqDiff, St.up, d16c]
    refine vk_call rfl (st_more (i := 4) (by omega) rfl rfl) ?_
    simp (maxSteps := 4000000) (disch := omega) only [EW, Nat.reduceBEq, reduceIte, Nat.reduceAdd, Nat.reduceLeDiff, Nat.reduceLT, Nat.reduceSub, Nat.reduceMul, reduceCtorEq, Int.reduceNeg, Int.reduceSub, Int.reduceAdd, Int.reduceLE, Int.reduceLT, Int.reduceMul, Int.reduceToNat, Int.reduceEq, Int.reduceBEq, Int.reduceBNe, Nat.reduceEqDiff, mc]
    refine d_seq (d_vc ?_)
    simp (maxSteps := 4000000) (disch := omega) only [EW, Nat.reduceBEq, reduceIte, Nat.reduceAdd, Nat.reduceLeDiff, Nat.reduceLT, Nat.reduceSub, Nat.reduceMul, reduceCtorEq, Int.reduceNeg, Int.reduceSub, Int.reduceAdd, Int.reduceLE, Int.reduceLT, Int.reduceMul, Int.reduceToNat, Int.reduceEq, Int.reduceBEq, Int.reduceBNe, Nat.reduceEqDiff, St.up, d16d]
    refine vk_call rfl (lockC rfl rfl) ?_
    simp (maxSteps := 4000000) (disch := omega) only [EW, Nat.reduceBEq, reduceIte, Nat.reduceAdd, Nat.reduceLeDiff, Nat.reduceLT, Nat.reduceSub, Nat.reduceMul, reduceCtorEq, Int.reduceNeg, Int.reduceSub, Int.reduceAdd, Int.reduceLE, Int.reduceLT, Int.reduceMul, Int.reduceToNat, Int.reduceEq, Int.reduceBEq, Int.reduceBNe, Nat.reduceEqDiff]
    unfold d16e
    refine d_seq (d_dfr ?_)
    simp (maxSteps := 4000000) (disch := omega) only [EW, Nat.reduceBEq, reduceIte, Nat.reduceAdd, Nat.reduceLeDiff, Nat.reduceLT, Nat.reduceSub, Nat.reduceMul, reduceCtorEq, Int.reduceNeg, Int.reduceSub, Int.reduceAdd, Int.reduceLE, Int.reduceLT, Int.reduceMul, Int.reduceToNat, Int.reduceEq, Int.reduceBEq, Int.reduceBNe, Nat.reduceEqDiff, St.up]
    refine ⟨_, rfl, d_vc ?_⟩
    by_cases hmem : code ∈ es.map (·.2)
    · rw [if_pos hmem] at hfind
      have e1 : addK es clock code = (es, clock) := if_pos hmem
      rw [e1]
      simp (maxSteps := 4000000) (disch := omega) only [EW, Nat.reduceBEq, reduceIte, Nat.reduceAdd, Nat.reduceLeDiff, Nat.reduceLT, Nat.reduceSub, Nat.reduceMul, reduceCtorEq, Int.reduceNeg, Int.reduceSub, Int.reduceAdd, Int.reduceLE, Int.reduceLT, Int.reduceMul, Int.reduceToNat, Int.reduceEq, Int.reduceBEq, Int.reduceBNe, Nat.reduceEqDiff, St.up, d16f, hfind, mset_cV, hef]
      refine retD_n (dend_cons (unlockD rfl rfl) (dend_nil ⟨_, rfl, ?_⟩))
      exact ⟨[some 0, some 1], rfl, rfl, rfl, rfl, ⟨.same _ rfl, trivial⟩, ⟨⟨_, rfl, .box (.cons (.same _ rfl) (.cons (.same _ rfl) (.cons (.same _ rfl) (.cons (.same _ rfl) (.cons (.same _ rfl) (.cons (.same _ rfl) (.cons (.same _ rfl) (.cons (.mapr rfl) (.cons (.same _ rfl) (.cons (.same _ rfl) (.cons (.same _ rfl) (.cons (.same _ rfl) .nil))))))))))))⟩, ⟨(⟨_, rfl, .map (.refl _)⟩), trivial⟩⟩⟩
    · rw [if_neg hmem] at hfind
      have e1 : addK es clock code = (es ++ [(clock, code)], clock + 1) := if_neg hmem
      have e2 : cV (es ++ [(clock, code)]) = cV es ++ [(clock, .int .i64 code, .bool true)] := by simp [cV]
      rw [e1]
      simp (maxSteps := 4000000) (disch := omega) only [EW, Nat.reduceBEq, reduceIte, Nat.reduceAdd, Nat.reduceLeDiff, Nat.reduceLT, Nat.reduceSub, Nat.reduceMul, reduceCtorEq, Int.reduceNeg, Int.reduceSub, Int.reduceAdd, Int.reduceLE, Int.reduceLT, Int.reduceMul, Int.reduceToNat, Int.reduceEq, Int.reduceBEq, Int.reduceBNe, Nat.reduceEqDiff, St.up, d16f, hfind, mset_cV, e2, hef]
      refine retD_n (dend_cons (unlockD rfl rfl) (dend_nil ⟨_, rfl, ?_⟩))
      exact ⟨[some 0, some 1], rfl, rfl, rfl, rfl, ⟨.same _ rfl, trivial⟩, ⟨⟨_, rfl, .box (.cons (.same _ rfl) (.cons (.same _ rfl) (.cons (.same _ rfl) (.cons (.same _ rfl) (.cons (.same _ rfl) (.cons (.same _ rfl) (.cons (.same _ rfl) (.cons (.mapr rfl) (.cons (.same _ rfl) (.cons (.same _ rfl) (.cons (.same _ rfl) (.cons (.same _ rfl) .nil))))))))))))⟩, ⟨(⟨_, rfl, .map (.refl _)⟩), trivial⟩⟩⟩
  · have b1 : (code == 0) = false := by simp [hc]
    rw [if_neg hc]
    simp (maxSteps := 4000000) (disch := omega) only [EW, Nat.reduceBEq, reduceIte, Nat.reduceAdd, Nat.reduceLeDiff, Nat.reduceLT, Nat.reduceSub, Nat.reduceMul, reduceCtorEq, Int.reduceNeg, Int.reduceSub, Int.reduceAdd, Int.reduceLE, Int.reduceLT, Int.reduceMul, Int.reduceToNat, Int.reduceEq, Int.reduceBEq, Int.reduceBNe, Nat.reduceEqDiff, St.up, d16s, b1]
    unfold d16t
    refine d_seq (d_vc ?_)
    simp (maxSteps := 4000000) (disch := omega) only [EW, Nat.reduceBEq, reduceIte, Nat.reduceAdd, Nat.reduceLeDiff, Nat.reduceLT, Nat.reduceSub, Nat.reduceMul, reduceCtorEq, Int.reduceNeg, Int.reduceSub, Int.reduceAdd, Int.reduceLE, Int.reduceLT, Int.reduceMul, Int.reduceToNat, Int.reduceEq, Int.reduceBEq, Int.reduceBNe, Nat.reduceEqDiff, St.up, stC, d16a]
    refine vk_call rfl (st_more (i := 2) (by omega) rfl rfl) ?_
    simp (maxSteps := 4000000) (disch := omega) only [EW, Nat.reduceBEq, reduceIte, Nat.reduceAdd, Nat.reduceLeDiff, Nat.reduceLT, Nat.reduceSub, Nat.reduceMul, reduceCtorEq, Int.reduceNeg, Int.reduceSub, Int.reduceAdd, Int.reduceLE, Int.reduceLT, Int.reduceMul, Int.reduceToNat, Int.reduceEq, Int.reduceBEq, Int.reduceBNe, Nat.reduceEqDiff]
    refine d_seq (d_vc ?_)
    simp (maxSteps := 4000000) (disch := omega) only [EW, Nat.reduceBEq, reduceIte, Nat.reduceAdd, Nat.reduceLeDiff, Nat.reduceLT, Nat.reduceSub, Nat.reduceMul, reduceCtorEq, Int.reduceNeg, Int.reduceSub, Int.reduceAdd, Int.reduceLE, Int.reduceLT, Int.reduceMul, Int.reduceToNat, Int.reduceEq, Int.reduceBEq, Int.reduceBNe, Nat.reduceEqDiff, St.up, d16b]
    refine vk_call rfl (st_more (i := 3) (by omega) rfl rfl) ?_
    simp (maxSteps := 4000000) (disch := omega) only [EW, Nat.reduceBEq, reduceIte, Nat.reduceAdd, Nat.reduceLeDiff, Nat.reduceLT, Nat.reduceSub, Nat.reduceMul, reduceCtorEq, Int.reduceNeg, Int.reduceSub, Int.reduceAdd, Int.reduceLE, Int.reduceLT, Int.reduceMul, Int.reduceToNat, Int.reduceEq, Int.reduceBEq, Int.reduceBNe, Nat.reduceEqDiff, ma]
    refine d_seq (d_vc ?_)
    simp (maxSteps := 4000000) (disch := omega) only [EW, Nat.reduceBEq, reduceIte, Nat.reduceAdd, Nat.reduceLeDiff, Nat.reduceLT, Nat.reduceSub, Nat.reduceMul, reduceCtorEq, Int.reduceNeg, Int.reduceSub, Int.reduceAdd, Int.reduceLE, Int.reduceLT, Int.reduceMul, Int.reduceToNat, Int.reduceEq, Int.reduceBEq, Int.reduceBNe, Nat.reduceEqDiff, St.up, d16c]
    refine vk_call rfl (st_more (i := 4) (by omega) rfl rfl) ?_
    simp (maxSteps := 4000000) (disch := omega) only [EW, Nat.reduceBEq, reduceIte, Nat.reduceAdd, Nat.reduceLeDiff, Nat.reduceLT, Nat.reduceSub, Nat.reduceMul, reduceCtorEq, Int.reduceNeg, Int.reduceSub, Int.reduceAdd, Int.reduceLE, Int.reduceLT, Int.reduceMul, Int.reduceToNat, Int.reduceEq, Int.reduceBEq, Int.reduceBNe, Nat.reduceEqDiff, mc]
    refine d_seq (d_vc ?_)
    simp (maxSteps := 4000000) (disch := omega) only [EW, Nat.reduceBEq, reduceIte, Nat.reduceAdd, Nat.reduceLeDiff, Nat.reduceLT, Nat.reduceSub, Nat.reduceMul, reduceCtorEq, Int.reduceNeg, Int.reduceSub, Int.reduceAdd, Int.reduceLE, Int.reduceLT, Int.reduceMul, Int.reduceToNat, Int.reduceEq, Int.reduceBEq, Int.reduceBNe, Nat.reduceEqDiff, St.up, d16d]
    refine vk_call rfl (lockC rfl rfl) ?_
    simp (maxSteps := 4000000) (disch := omega) only [EW, Nat.reduceBEq, reduceIte, Nat.reduceAdd, Nat.reduceLeDiff, Nat.reduceLT, Nat.reduceSub, Nat.reduceMul, reduceCtorEq, Int.reduceNeg, Int.reduceSub, Int.reduceAdd, Int.reduceLE, Int.reduceLT, Int.reduceMul, Int.reduceToNat, Int.reduceEq, Int.reduceBEq, Int.reduceBNe, Nat.reduceEqDiff]
    unfold d16e
    refine d_seq (d_dfr ?_)
    simp (maxSteps := 4000000) (disch := omega) only [EW, Nat.reduceBEq, reduceIte, Nat.reduceAdd, Nat.reduceLeDiff, Nat.reduceLT, Nat.reduceSub, Nat.reduceMul, reduceCtorEq, Int.reduceNeg, Int.reduceSub, Int.reduceAdd, Int.reduceLE, Int.reduceLT, Int.reduceMul, Int.reduceToNat, Int.reduceEq, Int.reduceBEq, Int.reduceBNe, Nat.reduceEqDiff, St.up]
    refine ⟨_, rfl, d_vc ?_⟩
    by_cases hmem : code ∈ es.map (·.2)
    · rw [if_pos hmem] at hfind
      have e1 : addK es clock code = (es, clock) := if_pos hmem
      rw [e1]
      simp (maxSteps := 4000000) (disch := omega) only [EW, Nat.reduceBEq, reduceIte, Nat.reduceAdd, Nat.reduceLeDiff, Nat.reduceLT, Nat.reduceSub, Nat.reduceMul, reduceCtorEq, Int.reduceNeg, Int.reduceSub, Int.reduceAdd, Int.reduceLE, Int.reduceLT, Int.reduceMul, Int.reduceToNat, Int.reduceEq, Int.reduceBEq, Int.reduceBNe, Nat.reduceEqDiff, St.up, d16f, hfind, mset_cV, hef]
      refine retD_n (dend_cons (unlockD rfl rfl) (dend_nil ⟨_, rfl, ?_⟩))
      exact ⟨[some 0, some 1], rfl, rfl, rfl, rfl, ⟨.same _ rfl, trivial⟩, ⟨⟨_, rfl, .box (.cons (.same _ rfl) (.cons (.same _ rfl) (.cons (.same _ rfl) (.cons (.same _ rfl) (.cons (.same _ rfl) (.cons (.same _ rfl) (.cons (.same _ rfl) (.cons (.mapr rfl) (.cons (.same _ rfl) (.cons (.same _ rfl) (.cons (.same _ rfl) (.cons (.same _ rfl) .nil))))))))))))⟩, ⟨(⟨_, rfl, .map (.refl _)⟩), trivial⟩⟩⟩
    · rw [if_neg hmem] at hfind
      have e1 : addK es clock code = (es ++ [(clock, code)], clock + 1) := if_neg hmem
      have e2 : cV (es ++ [(clock, code)]) = cV es ++ [(clock, .int .i64 code, .bool true)] := by simp [cV]
      rw [e1]
      simp (maxSteps := 4000000) (disch := omega) only [EW, Nat.reduceBEq, reduceIte, Nat.reduceAdd, Nat.reduceLeDiff, Nat.reduceLT, Nat.reduceSub, Nat.reduceMul, reduceCtorEq, Int.reduceNeg, Int.reduceSub, Int.reduceAdd, Int.reduceLE, Int.reduceLT, Int.reduceMul, Int.reduceToNat, Int.reduceEq, Int.reduceBEq, Int.reduceBNe, Nat.reduceEqDiff, St.up, d16f, hfind, mset_cV, e2, hef]
      refine retD_n (dend_cons (unlockD rfl rfl) (dend_nil ⟨_, rfl, ?_⟩))
      exact ⟨[some 0, some 1], rfl, rfl, rfl, rfl, ⟨.same _ rfl, trivial⟩, ⟨⟨_, rfl, .box (.cons (.same _ rfl) (.cons (.same _ rfl) (.cons (.same _ rfl) (.cons (.same _ rfl) (.cons (.same _ rfl) (.cons (.same _ rfl) (.cons (.same _ rfl) (.cons (.mapr rfl) (.cons (.same _ rfl) (.cons (.same _ rfl) (.cons (.same _ rfl) (.cons (.same _ rfl) .nil))))))))))))⟩, ⟨(⟨_, rfl, .map (.refl _)⟩), trivial⟩⟩⟩
end Go.Proofs.VL

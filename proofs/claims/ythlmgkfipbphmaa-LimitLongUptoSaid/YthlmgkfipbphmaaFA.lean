/- Contracts of functions of the program, for what calls them, and the law that its name tells. -/
import Derived.Test.YthlmgkfipbphmaaV3
import Derived.Test.YthlmgkfipbphmaaPV
import Derived.Test.YthlmgkfipbphmaaLA
import Derived.Test.YthlmgkfipbphmaaClimit
import Derived.Test.YthlmgkfipbphmaaCslices
import Derived.Test.YthlmgkfipbphmaaEA
namespace Go.Proofs.VL
open Go Go.RowKit
set_option maxRecDepth 100000
set_option maxHeartbeats 4000000
set_option linter.unusedSimpArgs false
set_option linter.unusedVariables false
attribute [local irreducible] vwp vk

theorem vc_wf (v : Vw) : wfL 0 (vCells v) = true := by cases v; rfl
theorem vc_lend (v : Vw) (ob : List (Option VObj)) : lendL ob (vCells v) = some (vCells v) := by cases v; rfl
def aC (a : (List UInt8 × Runs) × (List UInt8 × Runs)) : List V := [.str a.1.1, .sl 2 (rws a.1.2), .str a.2.1, .sl 2 (rws a.2.2)]
theorem lim_inner (v : Vw) : VFn Try.prog 46 [.agg (vCells v)] (.sl 10 (vRows (innerV v))) := by
  refine VFn.intro ok46 (Nat.le_of_ble_eq_true rfl) (vk_start ?_)
  by_cases h3 : v.kind = 3
  · simp (maxSteps := 4000000) (disch := omega) only [EW, Nat.reduceBEq, reduceIte, Nat.reduceAdd, Nat.reduceLeDiff, Nat.reduceLT, Nat.reduceSub, Nat.reduceMul, reduceCtorEq, Int.reduceNeg, Int.reduceSub, Int.reduceAdd, Int.reduceLE, Int.reduceLT, Int.reduceMul, Int.reduceToNat, Int.reduceEq, Int.reduceBEq, Int.reduceBNe, Nat.reduceEqDiff, vc46, rs46, VCp]
    have e : innerV v = [] := by simp [innerV, h3]
    rw [e]; exact ⟨_, _, rfl, rfl, .nil _⟩
  · by_cases h2 : v.kind = 2
    · simp (maxSteps := 4000000) (disch := omega) only [EW, Nat.reduceBEq, reduceIte, Nat.reduceAdd, Nat.reduceLeDiff, Nat.reduceLT, Nat.reduceSub, Nat.reduceMul, reduceCtorEq, Int.reduceNeg, Int.reduceSub, Int.reduceAdd, Int.reduceLE, Int.reduceLT, Int.reduceMul, Int.reduceToNat, Int.reduceEq, Int.reduceBEq, Int.reduceBNe, Nat.reduceEqDiff, vc46, rs46, VCp]
      have e : innerV v = [] := by simp [innerV, h2]
      rw [e]; exact ⟨_, _, rfl, rfl, .nil _⟩
    · simp (maxSteps := 4000000) (disch := omega) only [EW, Nat.reduceBEq, reduceIte, Nat.reduceAdd, Nat.reduceLeDiff, Nat.reduceLT, Nat.reduceSub, Nat.reduceMul, reduceCtorEq, Int.reduceNeg, Int.reduceSub, Int.reduceAdd, Int.reduceLE, Int.reduceLT, Int.reduceMul, Int.reduceToNat, Int.reduceEq, Int.reduceBEq, Int.reduceBNe, Nat.reduceEqDiff, vc46, rs46, VCp]
      have e : innerV v = v.kids := by simp [innerV, h2, h3]
      rw [e]; exact fin rfl
theorem lim_odd (t : List UInt8) (rows : List (List V)) : VFn Try.prog 74 [.agg [.str t, .sl 2 rows]] (.bool (decide (4096 < t.length))) := by
  refine VFn.intro ok74 (Nat.le_of_ble_eq_true rfl) (vk_start ?_)
  by_cases h : 4096 < t.length
  · simp (maxSteps := 4000000) (disch := omega) only [EW, Nat.reduceBEq, reduceIte, Nat.reduceAdd, Nat.reduceLeDiff, Nat.reduceLT, Nat.reduceSub, Nat.reduceMul, reduceCtorEq, Int.reduceNeg, Int.reduceSub, Int.reduceAdd, Int.reduceLE, Int.reduceLT, Int.reduceMul, Int.reduceToNat, Int.reduceEq, Int.reduceBEq, Int.reduceBNe, Nat.reduceEqDiff, vc74, rs74]
    exact fin rfl
  · simp (maxSteps := 4000000) (disch := omega) only [EW, Nat.reduceBEq, reduceIte, Nat.reduceAdd, Nat.reduceLeDiff, Nat.reduceLT, Nat.reduceSub, Nat.reduceMul, reduceCtorEq, Int.reduceNeg, Int.reduceSub, Int.reduceAdd, Int.reduceLE, Int.reduceLT, Int.reduceMul, Int.reduceToNat, Int.reduceEq, Int.reduceBEq, Int.reduceBNe, Nat.reduceEqDiff, vc74, rs74]
    exact fin rfl

theorem attr_indexO {α : Type} (ls : List α) (g : α → List V) (f : FuncId) (caps : List V) (p : α → Bool) (ob : List (Option VObj)) (hsz : ∀ r ∈ ls, (g r).length = 4) (hl : ls.length ≤ 1000000000000) (h : ∀ r ∈ ls, VCall Try.prog f ([] ++ [.agg (g r)] ++ caps) ob (.bool (p r)) ob) :
    VCall Try.prog 96 [.sl 4 (ls.map g), .fn f [] caps] ob (.int .i64 (idxP p ls)) ob := by
  refine VCall.introE ok96 (Nat.le_of_ble_eq_true rfl) (vk_start ?_)
  simp (maxSteps := 4000000) (disch := omega) only [EW, Nat.reduceBEq, reduceIte, Nat.reduceAdd, Nat.reduceLeDiff, Nat.reduceLT, Nat.reduceSub, Nat.reduceMul, reduceCtorEq, Int.reduceNeg, Int.reduceSub, Int.reduceAdd, Int.reduceLE, Int.reduceLT, Int.reduceMul, Int.reduceToNat, Int.reduceEq, Int.reduceBEq, Int.reduceBNe, Nat.reduceEqDiff, vc96, rs96]
  refine vk_loopT (γ := Nat) (fun i => { tm := [(0, .sl 4 (ls.map g)), (1, .fn f [] caps), (7, .int .i64 ls.length), (8, .int .i64 i)], ob := ob, base := ob.length })
    (fun i => i ≤ ls.length ∧ idxP p ls = shiftI i (idxP p (ls.drop i))) (fun i => ls.length - i) 0 ⟨Nat.zero_le _, (shiftI_zero _).symm⟩ ?_ ?_
  · exact St.thin_mk rfl rfl ⟨rfl, rfl, rfl, rfl, trivial⟩
  · rintro i ⟨hi, hI⟩ R hN hE hR
    rcases Nat.lt_or_ge i ls.length with hlt | hge
    · obtain ⟨r, hr⟩ : ∃ r, ls[i]? = some r := ⟨_, List.getElem?_eq_getElem hlt⟩
      have hm := List.mem_of_getElem? hr
      have hrl := hsz r hm
      have htk : (g r).take 4 = g r := List.take_of_length_le (by omega)
      have hgr : (ls.map g)[i]? = some (g r) := by rw [List.getElem?_map, hr]; rfl
      have hc := h r hm
      rw [drop_at' hr] at hI
      simp (maxSteps := 4000000) (disch := omega) only [EW, Nat.reduceBEq, reduceIte, Nat.reduceAdd, Nat.reduceLeDiff, Nat.reduceLT, Nat.reduceSub, Nat.reduceMul, reduceCtorEq, Int.reduceNeg, Int.reduceSub, Int.reduceAdd, Int.reduceLE, Int.reduceLT, Int.reduceMul, Int.reduceToNat, Int.reduceEq, Int.reduceBEq, Int.reduceBNe, Nat.reduceEqDiff, hgr, htk, hrl]
      refine vk_call rfl hc ?_
      cases hp : p r with
      | true =>
        simp (maxSteps := 4000000) (disch := omega) only [EW, Nat.reduceBEq, reduceIte, Nat.reduceAdd, Nat.reduceLeDiff, Nat.reduceLT, Nat.reduceSub, Nat.reduceMul, reduceCtorEq, Int.reduceNeg, Int.reduceSub, Int.reduceAdd, Int.reduceLE, Int.reduceLT, Int.reduceMul, Int.reduceToNat, Int.reduceEq, Int.reduceBEq, Int.reduceBNe, Nat.reduceEqDiff]
        refine hR _ ?_
        simp (maxSteps := 4000000) (disch := omega) only [EW, Nat.reduceBEq, reduceIte, Nat.reduceAdd, Nat.reduceLeDiff, Nat.reduceLT, Nat.reduceSub, Nat.reduceMul, reduceCtorEq, Int.reduceNeg, Int.reduceSub, Int.reduceAdd, Int.reduceLE, Int.reduceLT, Int.reduceMul, Int.reduceToNat, Int.reduceEq, Int.reduceBEq, Int.reduceBNe, Nat.reduceEqDiff]
        rw [hI, idxP_hit hp, shiftI_nat]
        exact ⟨rfl, rfl⟩
      | false =>
        simp (maxSteps := 4000000) (disch := omega) only [EW, Nat.reduceBEq, reduceIte, Nat.reduceAdd, Nat.reduceLeDiff, Nat.reduceLT, Nat.reduceSub, Nat.reduceMul, reduceCtorEq, Int.reduceNeg, Int.reduceSub, Int.reduceAdd, Int.reduceLE, Int.reduceLT, Int.reduceMul, Int.reduceToNat, Int.reduceEq, Int.reduceBEq, Int.reduceBNe, Nat.reduceEqDiff]
        refine hN _ (i + 1) ⟨hlt, ?_⟩ (by omega) ?_
        · rw [hI, idxP_miss hp, shiftI_succ]
        · exact St.thin_mk rfl rfl ⟨rfl, rfl, rfl, rfl, trivial⟩
    · simp (maxSteps := 4000000) (disch := omega) only [EW, Nat.reduceBEq, reduceIte, Nat.reduceAdd, Nat.reduceLeDiff, Nat.reduceLT, Nat.reduceSub, Nat.reduceMul, reduceCtorEq, Int.reduceNeg, Int.reduceSub, Int.reduceAdd, Int.reduceLE, Int.reduceLT, Int.reduceMul, Int.reduceToNat, Int.reduceEq, Int.reduceBEq, Int.reduceBNe, Nat.reduceEqDiff]
      refine hE _ _ ?_
      rw [hI, List.drop_eq_nil_of_le hge]
      simp (maxSteps := 4000000) (disch := omega) only [EW, Nat.reduceBEq, reduceIte, Nat.reduceAdd, Nat.reduceLeDiff, Nat.reduceLT, Nat.reduceSub, Nat.reduceMul, reduceCtorEq, Int.reduceNeg, Int.reduceSub, Int.reduceAdd, Int.reduceLE, Int.reduceLT, Int.reduceMul, Int.reduceToNat, Int.reduceEq, Int.reduceBEq, Int.reduceBNe, Nat.reduceEqDiff]
      exact ⟨rfl, rfl⟩
theorem attr_containsO {α : Type} (ls : List α) (g : α → List V) (f : FuncId) (caps : List V) (p : α → Bool) (ob : List (Option VObj)) (hsz : ∀ r ∈ ls, (g r).length = 4) (hl : ls.length ≤ 1000000000000) (h : ∀ r ∈ ls, VCall Try.prog f ([] ++ [.agg (g r)] ++ caps) ob (.bool (p r)) ob) :
    VCall Try.prog 75 [.sl 4 (ls.map g), .fn f [] caps] ob (.bool (ls.any p)) ob := by
  refine VCall.introE ok75 (Nat.le_of_ble_eq_true rfl) (vk_start ?_)
  simp (maxSteps := 4000000) (disch := omega) only [EW, Nat.reduceBEq, reduceIte, Nat.reduceAdd, Nat.reduceLeDiff, Nat.reduceLT, Nat.reduceSub, Nat.reduceMul, reduceCtorEq, Int.reduceNeg, Int.reduceSub, Int.reduceAdd, Int.reduceLE, Int.reduceLT, Int.reduceMul, Int.reduceToNat, Int.reduceEq, Int.reduceBEq, Int.reduceBNe, Nat.reduceEqDiff, vc75, rs75]
  refine vk_call rfl (attr_indexO ls g f caps p ob hsz hl h) ?_
  simp (maxSteps := 4000000) (disch := omega) only [EW, Nat.reduceBEq, reduceIte, Nat.reduceAdd, Nat.reduceLeDiff, Nat.reduceLT, Nat.reduceSub, Nat.reduceMul, reduceCtorEq, Int.reduceNeg, Int.reduceSub, Int.reduceAdd, Int.reduceLE, Int.reduceLT, Int.reduceMul, Int.reduceToNat, Int.reduceEq, Int.reduceBEq, Int.reduceBNe, Nat.reduceEqDiff]
  rw [← idxP_any]
  exact ⟨rfl, rfl⟩
theorem view_indexO {α : Type} (ls : List α) (g : α → List V) (f : FuncId) (caps : List V) (p : α → Bool) (ob : List (Option VObj)) (hsz : ∀ r ∈ ls, (g r).length = 10) (hl : ls.length ≤ 1000000000000) (h : ∀ r ∈ ls, VCall Try.prog f ([] ++ [.agg (g r)] ++ caps) ob (.bool (p r)) ob) :
    VCall Try.prog 95 [.sl 10 (ls.map g), .fn f [] caps] ob (.int .i64 (idxP p ls)) ob := by
  refine VCall.introE ok95 (Nat.le_of_ble_eq_true rfl) (vk_start ?_)
  simp (maxSteps := 4000000) (disch := omega) only [EW, Nat.reduceBEq, reduceIte, Nat.reduceAdd, Nat.reduceLeDiff, Nat.reduceLT, Nat.reduceSub, Nat.reduceMul, reduceCtorEq, Int.reduceNeg, Int.reduceSub, Int.reduceAdd, Int.reduceLE, Int.reduceLT, Int.reduceMul, Int.reduceToNat, Int.reduceEq, Int.reduceBEq, Int.reduceBNe, Nat.reduceEqDiff, vc95, rs95]
  refine vk_loopT (γ := Nat) (fun i => { tm := [(0, .sl 10 (ls.map g)), (1, .fn f [] caps), (7, .int .i64 ls.length), (8, .int .i64 i)], ob := ob, base := ob.length })
    (fun i => i ≤ ls.length ∧ idxP p ls = shiftI i (idxP p (ls.drop i))) (fun i => ls.length - i) 0 ⟨Nat.zero_le _, (shiftI_zero _).symm⟩ ?_ ?_
  · exact St.thin_mk rfl rfl ⟨rfl, rfl, rfl, rfl, trivial⟩
  · rintro i ⟨hi, hI⟩ R hN hE hR
    rcases Nat.lt_or_ge i ls.length with hlt | hge
    · obtain ⟨r, hr⟩ : ∃ r, ls[i]? = some r := ⟨_, List.getElem?_eq_getElem hlt⟩
      have hm := List.mem_of_getElem? hr
      have hrl := hsz r hm
      have htk : (g r).take 10 = g r := List.take_of_length_le (by omega)
      have hgr : (ls.map g)[i]? = some (g r) := by rw [List.getElem?_map, hr]; rfl
      have hc := h r hm
      rw [drop_at' hr] at hI
      simp (maxSteps := 4000000) (disch := omega) only [EW, Nat.reduceBEq, reduceIte, Nat.reduceAdd, Nat.reduceLeDiff, Nat.reduceLT, Nat.reduceSub, Nat.reduceMul, reduceCtorEq, Int.reduceNeg, Int.reduceSub, Int.reduceAdd, Int.reduceLE, Int.reduceLT, Int.reduceMul, Int.reduceToNat, Int.reduceEq, Int.reduceBEq, Int.reduceBNe, Nat.reduceEqDiff, hgr, htk, hrl]
      refine vk_call rfl hc ?_
      cases hp : p r with
      | true =>
        simp (maxSteps := 4000000) (disch := omega) only [EW, Nat.reduceBEq, reduceIte, Nat.reduceAdd, Nat.reduceLeDiff, Nat.reduceLT, Nat.reduceSub, Nat.reduceMul, reduceCtorEq, Int.reduceNeg, Int.reduceSub, Int.reduceAdd, Int.reduceLE, Int.reduceLT, Int.reduceMul, Int.reduceToNat, Int.reduceEq, Int.reduceBEq, Int.reduceBNe, Nat.reduceEqDiff]
        refine hR _ ?_
        simp (maxSteps := 4000000) (disch := omega) only [EW, Nat.reduceBEq, reduceIte, Nat.reduceAdd, Nat.reduceLeDiff, Nat.reduceLT, Nat.reduceSub, Nat.reduceMul, reduceCtorEq, Int.reduceNeg, Int.reduceSub, Int.reduceAdd, Int.reduceLE, Int.reduceLT, Int.reduceMul, Int.reduceToNat, Int.reduceEq, Int.reduceBEq, Int.reduceBNe, Nat.reduceEqDiff]
        rw [hI, idxP_hit hp, shiftI_nat]
        exact ⟨rfl, rfl⟩
      | false =>
        simp (maxSteps := 4000000) (disch := omega) only [EW, Nat.reduceBEq, reduceIte, Nat.reduceAdd, Nat.reduceLeDiff, Nat.reduceLT, Nat.reduceSub, Nat.reduceMul, reduceCtorEq, Int.reduceNeg, Int.reduceSub, Int.reduceAdd, Int.reduceLE, Int.reduceLT, Int.reduceMul, Int.reduceToNat, Int.reduceEq, Int.reduceBEq, Int.reduceBNe, Nat.reduceEqDiff]
        refine hN _ (i + 1) ⟨hlt, ?_⟩ (by omega) ?_
        · rw [hI, idxP_miss hp, shiftI_succ]
        · exact St.thin_mk rfl rfl ⟨rfl, rfl, rfl, rfl, trivial⟩
    · simp (maxSteps := 4000000) (disch := omega) only [EW, Nat.reduceBEq, reduceIte, Nat.reduceAdd, Nat.reduceLeDiff, Nat.reduceLT, Nat.reduceSub, Nat.reduceMul, reduceCtorEq, Int.reduceNeg, Int.reduceSub, Int.reduceAdd, Int.reduceLE, Int.reduceLT, Int.reduceMul, Int.reduceToNat, Int.reduceEq, Int.reduceBEq, Int.reduceBNe, Nat.reduceEqDiff]
      refine hE _ _ ?_
      rw [hI, List.drop_eq_nil_of_le hge]
      simp (maxSteps := 4000000) (disch := omega) only [EW, Nat.reduceBEq, reduceIte, Nat.reduceAdd, Nat.reduceLeDiff, Nat.reduceLT, Nat.reduceSub, Nat.reduceMul, reduceCtorEq, Int.reduceNeg, Int.reduceSub, Int.reduceAdd, Int.reduceLE, Int.reduceLT, Int.reduceMul, Int.reduceToNat, Int.reduceEq, Int.reduceBEq, Int.reduceBNe, Nat.reduceEqDiff]
      exact ⟨rfl, rfl⟩
theorem view_containsO {α : Type} (ls : List α) (g : α → List V) (f : FuncId) (caps : List V) (p : α → Bool) (ob : List (Option VObj)) (hsz : ∀ r ∈ ls, (g r).length = 10) (hl : ls.length ≤ 1000000000000) (h : ∀ r ∈ ls, VCall Try.prog f ([] ++ [.agg (g r)] ++ caps) ob (.bool (p r)) ob) :
    VCall Try.prog 72 [.sl 10 (ls.map g), .fn f [] caps] ob (.bool (ls.any p)) ob := by
  refine VCall.introE ok72 (Nat.le_of_ble_eq_true rfl) (vk_start ?_)
  simp (maxSteps := 4000000) (disch := omega) only [EW, Nat.reduceBEq, reduceIte, Nat.reduceAdd, Nat.reduceLeDiff, Nat.reduceLT, Nat.reduceSub, Nat.reduceMul, reduceCtorEq, Int.reduceNeg, Int.reduceSub, Int.reduceAdd, Int.reduceLE, Int.reduceLT, Int.reduceMul, Int.reduceToNat, Int.reduceEq, Int.reduceBEq, Int.reduceBNe, Nat.reduceEqDiff, vc72, rs72]
  refine vk_call rfl (view_indexO ls g f caps p ob hsz hl h) ?_
  simp (maxSteps := 4000000) (disch := omega) only [EW, Nat.reduceBEq, reduceIte, Nat.reduceAdd, Nat.reduceLeDiff, Nat.reduceLT, Nat.reduceSub, Nat.reduceMul, reduceCtorEq, Int.reduceNeg, Int.reduceSub, Int.reduceAdd, Int.reduceLE, Int.reduceLT, Int.reduceMul, Int.reduceToNat, Int.reduceEq, Int.reduceBEq, Int.reduceBNe, Nat.reduceEqDiff]
  rw [← idxP_any]
  exact ⟨rfl, rfl⟩
theorem aRows_aC (l : List ((List UInt8 × Runs) × (List UInt8 × Runs))) : aRows l = l.map aC := rfl
theorem lim_long2 (v : Vw) (a : (List UInt8 × Runs) × (List UInt8 × Runs)) : VCall Try.prog 76 [.agg (aC a), .ptr 1 0] [some (.box (vCells v)), some (.box [.fn 74 [] []])] (.bool (oddS a.1 || oddS a.2)) [some (.box (vCells v)), some (.box [.fn 74 [] []])] := by
  refine VCall.intro ok76 (Nat.le_of_ble_eq_true rfl) (vk_start ?_)
  have h1 := lim_odd a.1.1 (rws a.1.2)
  have h2 := lim_odd a.2.1 (rws a.2.2)
  unfold oddS
  by_cases hb : 4096 < a.1.1.length
  · rw [decide_eq_true hb] at h1
    simp (maxSteps := 4000000) (disch := omega) only [EW, Nat.reduceBEq, reduceIte, Nat.reduceAdd, Nat.reduceLeDiff, Nat.reduceLT, Nat.reduceSub, Nat.reduceMul, reduceCtorEq, Int.reduceNeg, Int.reduceSub, Int.reduceAdd, Int.reduceLE, Int.reduceLT, Int.reduceMul, Int.reduceToNat, Int.reduceEq, Int.reduceBEq, Int.reduceBNe, Nat.reduceEqDiff, vc76, rs76, aC]
    (refine vk_callR rfl ⟨_, .inl rfl, h1⟩ ?_; simp (maxSteps := 4000000) (disch := omega) only [EW, Nat.reduceBEq, reduceIte, Nat.reduceAdd, Nat.reduceLeDiff, Nat.reduceLT, Nat.reduceSub, Nat.reduceMul, reduceCtorEq, Int.reduceNeg, Int.reduceSub, Int.reduceAdd, Int.reduceLE, Int.reduceLT, Int.reduceMul, Int.reduceToNat, Int.reduceEq, Int.reduceBEq, Int.reduceBNe, Nat.reduceEqDiff])
    exact ⟨_, rfl, ⟨[some 0, some 1], rfl, rfl, rfl, rfl, ⟨.same _ rfl, trivial⟩, ⟨⟨_, rfl, .box (SubML.same _ (vc_wf v))⟩, ⟨⟨_, rfl, .box (.cons (.same _ rfl) .nil)⟩, trivial⟩⟩⟩⟩
  · rw [decide_eq_false hb] at h1
    simp (maxSteps := 4000000) (disch := omega) only [EW, Nat.reduceBEq, reduceIte, Nat.reduceAdd, Nat.reduceLeDiff, Nat.reduceLT, Nat.reduceSub, Nat.reduceMul, reduceCtorEq, Int.reduceNeg, Int.reduceSub, Int.reduceAdd, Int.reduceLE, Int.reduceLT, Int.reduceMul, Int.reduceToNat, Int.reduceEq, Int.reduceBEq, Int.reduceBNe, Nat.reduceEqDiff, vc76, rs76, aC]
    (refine vk_callR rfl ⟨_, .inl rfl, h1⟩ ?_; simp (maxSteps := 4000000) (disch := omega) only [EW, Nat.reduceBEq, reduceIte, Nat.reduceAdd, Nat.reduceLeDiff, Nat.reduceLT, Nat.reduceSub, Nat.reduceMul, reduceCtorEq, Int.reduceNeg, Int.reduceSub, Int.reduceAdd, Int.reduceLE, Int.reduceLT, Int.reduceMul, Int.reduceToNat, Int.reduceEq, Int.reduceBEq, Int.reduceBNe, Nat.reduceEqDiff])
    (refine vk_callR rfl ⟨_, .inl rfl, h2⟩ ?_; simp (maxSteps := 4000000) (disch := omega) only [EW, Nat.reduceBEq, reduceIte, Nat.reduceAdd, Nat.reduceLeDiff, Nat.reduceLT, Nat.reduceSub, Nat.reduceMul, reduceCtorEq, Int.reduceNeg, Int.reduceSub, Int.reduceAdd, Int.reduceLE, Int.reduceLT, Int.reduceMul, Int.reduceToNat, Int.reduceEq, Int.reduceBEq, Int.reduceBNe, Nat.reduceEqDiff])
    exact ⟨_, rfl, ⟨[some 0, some 1], rfl, rfl, rfl, rfl, ⟨.same _ rfl, trivial⟩, ⟨⟨_, rfl, .box (SubML.same _ (vc_wf v))⟩, ⟨⟨_, rfl, .box (.cons (.same _ rfl) .nil)⟩, trivial⟩⟩⟩⟩
theorem lim_long (v : Vw) (hl : v.attrs.length ≤ 1000000000000) : VFn Try.prog 49 [.agg (vCells v)] (.bool (longV v)) := by
  refine VFn.intro ok49 (Nat.le_of_ble_eq_true rfl) (vk_start ?_)
  have h1 := lim_odd v.tag.1 (rws v.tag.2)
  have h2 := lim_odd v.text.1 (rws v.text.2)
  have h3 := attr_containsO v.attrs aC 76 [.ptr 1 0] (fun a => oddS a.1 || oddS a.2) [some (.box (vCells v)), some (.box [.fn 74 [] []])] (fun r _ => rfl) hl (fun r _ => lim_long2 v r)
  rw [← aRows_aC] at h3
  have e : longV v = (oddS v.tag || oddS v.text || decide (32 < v.key.length) || v.attrs.any fun a => oddS a.1 || oddS a.2) := rfl
  generalize (v.attrs.any fun a => oddS a.1 || oddS a.2) = b3 at h3 e
  rw [e]
  unfold oddS
  by_cases hb : 4096 < v.tag.1.length
  · rw [decide_eq_true hb] at h1
    simp (maxSteps := 4000000) (disch := omega) only [EW, Nat.reduceBEq, reduceIte, Nat.reduceAdd, Nat.reduceLeDiff, Nat.reduceLT, Nat.reduceSub, Nat.reduceMul, reduceCtorEq, Int.reduceNeg, Int.reduceSub, Int.reduceAdd, Int.reduceLE, Int.reduceLT, Int.reduceMul, Int.reduceToNat, Int.reduceEq, Int.reduceBEq, Int.reduceBNe, Nat.reduceEqDiff, vc49, rs49, VCp]
    (refine vk_callR rfl ⟨_, .inl rfl, h1⟩ ?_; simp (maxSteps := 4000000) (disch := omega) only [EW, Nat.reduceBEq, reduceIte, Nat.reduceAdd, Nat.reduceLeDiff, Nat.reduceLT, Nat.reduceSub, Nat.reduceMul, reduceCtorEq, Int.reduceNeg, Int.reduceSub, Int.reduceAdd, Int.reduceLE, Int.reduceLT, Int.reduceMul, Int.reduceToNat, Int.reduceEq, Int.reduceBEq, Int.reduceBNe, Nat.reduceEqDiff])
    exact fin rfl
  · rw [decide_eq_false hb] at h1
    simp (maxSteps := 4000000) (disch := omega) only [EW, Nat.reduceBEq, reduceIte, Nat.reduceAdd, Nat.reduceLeDiff, Nat.reduceLT, Nat.reduceSub, Nat.reduceMul, reduceCtorEq, Int.reduceNeg, Int.reduceSub, Int.reduceAdd, Int.reduceLE, Int.reduceLT, Int.reduceMul, Int.reduceToNat, Int.reduceEq, Int.reduceBEq, Int.reduceBNe, Nat.reduceEqDiff, vc49, rs49, VCp]
    (refine vk_callR rfl ⟨_, .inl rfl, h1⟩ ?_; simp (maxSteps := 4000000) (disch := omega) only [EW, Nat.reduceBEq, reduceIte, Nat.reduceAdd, Nat.reduceLeDiff, Nat.reduceLT, Nat.reduceSub, Nat.reduceMul, reduceCtorEq, Int.reduceNeg, Int.reduceSub, Int.reduceAdd, Int.reduceLE, Int.reduceLT, Int.reduceMul, Int.reduceToNat, Int.reduceEq, Int.reduceBEq, Int.reduceBNe, Nat.reduceEqDiff, VCp])
    by_cases hb2 : 4096 < v.text.1.length
    · rw [decide_eq_true hb2] at h2
      (refine vk_callR rfl ⟨_, .inl rfl, h2⟩ ?_; simp (maxSteps := 4000000) (disch := omega) only [EW, Nat.reduceBEq, reduceIte, Nat.reduceAdd, Nat.reduceLeDiff, Nat.reduceLT, Nat.reduceSub, Nat.reduceMul, reduceCtorEq, Int.reduceNeg, Int.reduceSub, Int.reduceAdd, Int.reduceLE, Int.reduceLT, Int.reduceMul, Int.reduceToNat, Int.reduceEq, Int.reduceBEq, Int.reduceBNe, Nat.reduceEqDiff, VCp])
      exact fin rfl
    · rw [decide_eq_false hb2] at h2
      (refine vk_callR rfl ⟨_, .inl rfl, h2⟩ ?_; simp (maxSteps := 4000000) (disch := omega) only [EW, Nat.reduceBEq, reduceIte, Nat.reduceAdd, Nat.reduceLeDiff, Nat.reduceLT, Nat.reduceSub, Nat.reduceMul, reduceCtorEq, Int.reduceNeg, Int.reduceSub, Int.reduceAdd, Int.reduceLE, Int.reduceLT, Int.reduceMul, Int.reduceToNat, Int.reduceEq, Int.reduceBEq, Int.reduceBNe, Nat.reduceEqDiff, VCp])
      by_cases hk : 32 < v.key.length
      · simp (maxSteps := 4000000) (disch := omega) only [EW, Nat.reduceBEq, reduceIte, Nat.reduceAdd, Nat.reduceLeDiff, Nat.reduceLT, Nat.reduceSub, Nat.reduceMul, reduceCtorEq, Int.reduceNeg, Int.reduceSub, Int.reduceAdd, Int.reduceLE, Int.reduceLT, Int.reduceMul, Int.reduceToNat, Int.reduceEq, Int.reduceBEq, Int.reduceBNe, Nat.reduceEqDiff, VCp]
        exact fin rfl
      · simp (maxSteps := 4000000) (disch := omega) only [EW, Nat.reduceBEq, reduceIte, Nat.reduceAdd, Nat.reduceLeDiff, Nat.reduceLT, Nat.reduceSub, Nat.reduceMul, reduceCtorEq, Int.reduceNeg, Int.reduceSub, Int.reduceAdd, Int.reduceLE, Int.reduceLT, Int.reduceMul, Int.reduceToNat, Int.reduceEq, Int.reduceBEq, Int.reduceBNe, Nat.reduceEqDiff, VCp]
        refine vk_call rfl h3 ?_
        simp (maxSteps := 4000000) (disch := omega) only [EW, Nat.reduceBEq, reduceIte, Nat.reduceAdd, Nat.reduceLeDiff, Nat.reduceLT, Nat.reduceSub, Nat.reduceMul, reduceCtorEq, Int.reduceNeg, Int.reduceSub, Int.reduceAdd, Int.reduceLE, Int.reduceLT, Int.reduceMul, Int.reduceToNat, Int.reduceEq, Int.reduceBEq, Int.reduceBNe, Nat.reduceEqDiff]
        exact fin rfl
theorem lim_many (v : Vw) : VFn Try.prog 50 [.agg (vCells v)] (.bool (manyV v)) := by
  refine VFn.intro ok50 (Nat.le_of_ble_eq_true rfl) (vk_start ?_)
  have e1 : (aRows v.attrs).length = v.attrs.length := by simp [aRows]
  have e2 : (hRows v.hooks).length = v.hooks.length := by simp [hRows]
  unfold manyV
  by_cases h : 8 < v.attrs.length
  · simp (maxSteps := 4000000) (disch := omega) only [EW, Nat.reduceBEq, reduceIte, Nat.reduceAdd, Nat.reduceLeDiff, Nat.reduceLT, Nat.reduceSub, Nat.reduceMul, reduceCtorEq, Int.reduceNeg, Int.reduceSub, Int.reduceAdd, Int.reduceLE, Int.reduceLT, Int.reduceMul, Int.reduceToNat, Int.reduceEq, Int.reduceBEq, Int.reduceBNe, Nat.reduceEqDiff, vc50, rs50, VCp, e1, e2]
    exact fin rfl
  · by_cases h2 : 8 < v.hooks.length
    · simp (maxSteps := 4000000) (disch := omega) only [EW, Nat.reduceBEq, reduceIte, Nat.reduceAdd, Nat.reduceLeDiff, Nat.reduceLT, Nat.reduceSub, Nat.reduceMul, reduceCtorEq, Int.reduceNeg, Int.reduceSub, Int.reduceAdd, Int.reduceLE, Int.reduceLT, Int.reduceMul, Int.reduceToNat, Int.reduceEq, Int.reduceBEq, Int.reduceBNe, Nat.reduceEqDiff, vc50, rs50, VCp, e1, e2]
      exact fin rfl
    · simp (maxSteps := 4000000) (disch := omega) only [EW, Nat.reduceBEq, reduceIte, Nat.reduceAdd, Nat.reduceLeDiff, Nat.reduceLT, Nat.reduceSub, Nat.reduceMul, reduceCtorEq, Int.reduceNeg, Int.reduceSub, Int.reduceAdd, Int.reduceLE, Int.reduceLT, Int.reduceMul, Int.reduceToNat, Int.reduceEq, Int.reduceBEq, Int.reduceBNe, Nat.reduceEqDiff, vc50, rs50, VCp, e1, e2]
      exact fin rfl
theorem someV_any (p : Vw → Bool) : ∀ l : List Vw, someV p l = l.any fun v => p v || someV p (innerV v)
  | [] => rfl
  | v :: l => by rw [someV, someV1_eq, someV_any p l]; rfl
theorem lend_v (v : Vw) (ob : List (Option VObj)) : lendL ob [.agg (vCells v)] = some [.agg (vCells v)] := by simp only [lendL, lendV, vc_lend]
theorem some_facts {l : List Vw} {v : Vw} (hv : v ∈ l) : cntV (innerV v) < cntV l ∧ v.attrs.length ≤ cntV l := by
  have h1 := cnt_mem hv
  have h2 := cnt_inner v
  omega
theorem lim_some1 (g : FuncId) (q : Vw → Bool) (v : Vw) (hg : VFn Try.prog g [.agg (vCells v)] (.bool (q v))) (hs : VFn Try.prog 48 [.sl 10 (vRows (innerV v)), .fn g [] []] (.bool (someV q (innerV v)))) :
    VCall Try.prog 73 [.agg (vCells v), .ptr 0 0] [some (.box [.fn g [] []])] (.bool (q v || someV q (innerV v))) [some (.box [.fn g [] []])] := by
  refine VCall.intro ok73 (Nat.le_of_ble_eq_true rfl) (vk_start ?_)
  have hi := lim_inner v
  simp (maxSteps := 4000000) (disch := omega) only [EW, Nat.reduceBEq, reduceIte, Nat.reduceAdd, Nat.reduceLeDiff, Nat.reduceLT, Nat.reduceSub, Nat.reduceMul, reduceCtorEq, Int.reduceNeg, Int.reduceSub, Int.reduceAdd, Int.reduceLE, Int.reduceLT, Int.reduceMul, Int.reduceToNat, Int.reduceEq, Int.reduceBEq, Int.reduceBNe, Nat.reduceEqDiff, vc73, rs73, VCp]
  refine vk_callR rfl ⟨_, .inl (lend_v v _), hg⟩ ?_
  cases hq : q v with
  | true =>
    simp (maxSteps := 4000000) (disch := omega) only [EW, Nat.reduceBEq, reduceIte, Nat.reduceAdd, Nat.reduceLeDiff, Nat.reduceLT, Nat.reduceSub, Nat.reduceMul, reduceCtorEq, Int.reduceNeg, Int.reduceSub, Int.reduceAdd, Int.reduceLE, Int.reduceLT, Int.reduceMul, Int.reduceToNat, Int.reduceEq, Int.reduceBEq, Int.reduceBNe, Nat.reduceEqDiff, VCp]
    exact ⟨_, rfl, ⟨[some 0], rfl, rfl, rfl, rfl, ⟨.same _ rfl, trivial⟩, ⟨⟨_, rfl, .box (.cons (.same _ rfl) .nil)⟩, trivial⟩⟩⟩
  | false =>
    simp (maxSteps := 4000000) (disch := omega) only [EW, Nat.reduceBEq, reduceIte, Nat.reduceAdd, Nat.reduceLeDiff, Nat.reduceLT, Nat.reduceSub, Nat.reduceMul, reduceCtorEq, Int.reduceNeg, Int.reduceSub, Int.reduceAdd, Int.reduceLE, Int.reduceLT, Int.reduceMul, Int.reduceToNat, Int.reduceEq, Int.reduceBEq, Int.reduceBNe, Nat.reduceEqDiff, VCp]
    refine vk_callR rfl ⟨_, .inl (lend_v v _), hi⟩ ?_
    simp (maxSteps := 4000000) (disch := omega) only [EW, Nat.reduceBEq, reduceIte, Nat.reduceAdd, Nat.reduceLeDiff, Nat.reduceLT, Nat.reduceSub, Nat.reduceMul, reduceCtorEq, Int.reduceNeg, Int.reduceSub, Int.reduceAdd, Int.reduceLE, Int.reduceLT, Int.reduceMul, Int.reduceToNat, Int.reduceEq, Int.reduceBEq, Int.reduceBNe, Nat.reduceEqDiff, VCp]
    (refine vk_callR rfl ⟨_, .inl rfl, hs⟩ ?_; simp (maxSteps := 4000000) (disch := omega) only [EW, Nat.reduceBEq, reduceIte, Nat.reduceAdd, Nat.reduceLeDiff, Nat.reduceLT, Nat.reduceSub, Nat.reduceMul, reduceCtorEq, Int.reduceNeg, Int.reduceSub, Int.reduceAdd, Int.reduceLE, Int.reduceLT, Int.reduceMul, Int.reduceToNat, Int.reduceEq, Int.reduceBEq, Int.reduceBNe, Nat.reduceEqDiff, VCp])
    exact ⟨_, rfl, ⟨[some 0], rfl, rfl, rfl, rfl, ⟨.same _ rfl, trivial⟩, ⟨⟨_, rfl, .box (.cons (.same _ rfl) .nil)⟩, trivial⟩⟩⟩
theorem lim_some (g : FuncId) (q : Vw → Bool) (hg : ∀ v, v.attrs.length ≤ 1000000000000 → VFn Try.prog g [.agg (vCells v)] (.bool (q v))) (l : List Vw) (hl : cntV l ≤ 1000000000000) : VFn Try.prog 48 [.sl 10 (vRows l), .fn g [] []] (.bool (someV q l)) := by
  have IH : ∀ v ∈ l, VFn Try.prog 48 [.sl 10 (vRows (innerV v)), .fn g [] []] (.bool (someV q (innerV v))) := fun v hv => lim_some g q hg (innerV v) (by have := some_facts hv; omega)
  have hc := view_containsO l vCells 73 [.ptr 0 0] (fun v => q v || someV q (innerV v)) [some (.box [.fn g [] []])] (fun r _ => vc_len r) (by have := cnt_len l; omega) (fun v hv => lim_some1 g q v (hg v (by have := some_facts hv; omega)) (IH v hv))
  rw [← vRows_map, ← someV_any] at hc
  refine VFn.intro ok48 (Nat.le_of_ble_eq_true rfl) (vk_start ?_)
  simp (maxSteps := 4000000) (disch := omega) only [EW, Nat.reduceBEq, reduceIte, Nat.reduceAdd, Nat.reduceLeDiff, Nat.reduceLT, Nat.reduceSub, Nat.reduceMul, reduceCtorEq, Int.reduceNeg, Int.reduceSub, Int.reduceAdd, Int.reduceLE, Int.reduceLT, Int.reduceMul, Int.reduceToNat, Int.reduceEq, Int.reduceBEq, Int.reduceBNe, Nat.reduceEqDiff, vc48, rs48]
  refine vk_call rfl hc ?_
  simp (maxSteps := 4000000) (disch := omega) only [EW, Nat.reduceBEq, reduceIte, Nat.reduceAdd, Nat.reduceLeDiff, Nat.reduceLT, Nat.reduceSub, Nat.reduceMul, reduceCtorEq, Int.reduceNeg, Int.reduceSub, Int.reduceAdd, Int.reduceLE, Int.reduceLT, Int.reduceMul, Int.reduceToNat, Int.reduceEq, Int.reduceBEq, Int.reduceBNe, Nat.reduceEqDiff]
  exact fin rfl
termination_by cntV l
decreasing_by exact (some_facts hv).1
end Go.Proofs.VL

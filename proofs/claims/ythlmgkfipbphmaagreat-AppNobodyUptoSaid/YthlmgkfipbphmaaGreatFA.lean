/- Contracts of functions of the program, for what calls them, and the law that its name tells. -/
import Derived.Test.YthlmgkfipbphmaaGreatV3
import Derived.Test.YthlmgkfipbphmaaGreatPV
import Derived.Test.YthlmgkfipbphmaaGreatClimit
import Derived.Test.YthlmgkfipbphmaaGreatCslices
namespace Go.Proofs.VL
open Go Go.RowKit
set_option maxRecDepth 100000
set_option maxHeartbeats 4000000
set_option linter.unusedSimpArgs false
set_option linter.unusedVariables false
attribute [local irreducible] vwp vk

theorem vc_wf (v : Vw) : wfL 0 (vCells v) = true := by cases v; rfl
theorem vc_lend (v : Vw) (ob : List (Option VObj)) : lendL ob (vCells v) = some (vCells v) := by cases v; rfl
def aC (a : (List UInt8 × Runs) × (List UInt8 × Runs)) : List V := [.str a.1.1, .sl 2 (rws a.1.2), .str a.2.1, .sl 2 (rws a.2.2)]
theorem lim_inner (v : Vw) : VFn Tryz.prog 67 [.agg (vCells v)] (.sl 10 (vRows (innerV v))) := by
  refine VFn.intro ok67 (Nat.le_of_ble_eq_true rfl) (vk_start ?_)
  by_cases h3 : v.kind = 3
  · simp (maxSteps := 4000000) (disch := omega) only [EW, Nat.reduceBEq, reduceIte, Nat.reduceAdd, Nat.reduceLeDiff, Nat.reduceLT, Nat.reduceSub, Nat.reduceMul, reduceCtorEq, Int.reduceNeg, Int.reduceSub, Int.reduceAdd, Int.reduceLE, Int.reduceLT, Int.reduceMul, Int.reduceToNat, Int.reduceEq, Int.reduceBEq, Int.reduceBNe, Nat.reduceEqDiff, vc67, rs67, VCp]
    have e : innerV v = [] := by simp [innerV, h3]
    rw [e]; exact ⟨_, _, rfl, rfl, .nil _⟩
  · by_cases h2 : v.kind = 2
    · simp (maxSteps := 4000000) (disch := omega) only [EW, Nat.reduceBEq, reduceIte, Nat.reduceAdd, Nat.reduceLeDiff, Nat.reduceLT, Nat.reduceSub, Nat.reduceMul, reduceCtorEq, Int.reduceNeg, Int.reduceSub, Int.reduceAdd, Int.reduceLE, Int.reduceLT, Int.reduceMul, Int.reduceToNat, Int.reduceEq, Int.reduceBEq, Int.reduceBNe, Nat.reduceEqDiff, vc67, rs67, VCp]
      have e : innerV v = [] := by simp [innerV, h2]
      rw [e]; exact ⟨_, _, rfl, rfl, .nil _⟩
    · simp (maxSteps := 4000000) (disch := omega) only [EW, Nat.reduceBEq, reduceIte, Nat.reduceAdd, Nat.reduceLeDiff, Nat.reduceLT, Nat.reduceSub, Nat.reduceMul, reduceCtorEq, Int.reduceNeg, Int.reduceSub, Int.reduceAdd, Int.reduceLE, Int.reduceLT, Int.reduceMul, Int.reduceToNat, Int.reduceEq, Int.reduceBEq, Int.reduceBNe, Nat.reduceEqDiff, vc67, rs67, VCp]
      have e : innerV v = v.kids := by simp [innerV, h2, h3]
      rw [e]; exact fin rfl
theorem lim_odd (t : List UInt8) (rows : List (List V)) : VFn Tryz.prog 130 [.agg [.str t, .sl 2 rows]] (.bool (decide (4096 < t.length))) := by
  refine VFn.intro ok130 (Nat.le_of_ble_eq_true rfl) (vk_start ?_)
  by_cases h : 4096 < t.length
  · simp (maxSteps := 4000000) (disch := omega) only [EW, Nat.reduceBEq, reduceIte, Nat.reduceAdd, Nat.reduceLeDiff, Nat.reduceLT, Nat.reduceSub, Nat.reduceMul, reduceCtorEq, Int.reduceNeg, Int.reduceSub, Int.reduceAdd, Int.reduceLE, Int.reduceLT, Int.reduceMul, Int.reduceToNat, Int.reduceEq, Int.reduceBEq, Int.reduceBNe, Nat.reduceEqDiff, vc130, rs130]
    exact fin rfl
  · simp (maxSteps := 4000000) (disch := omega) only [EW, Nat.reduceBEq, reduceIte, Nat.reduceAdd, Nat.reduceLeDiff, Nat.reduceLT, Nat.reduceSub, Nat.reduceMul, reduceCtorEq, Int.reduceNeg, Int.reduceSub, Int.reduceAdd, Int.reduceLE, Int.reduceLT, Int.reduceMul, Int.reduceToNat, Int.reduceEq, Int.reduceBEq, Int.reduceBNe, Nat.reduceEqDiff, vc130, rs130]
    exact fin rfl

theorem attr_indexO {α : Type} (ls : List α) (g : α → List V) (f : FuncId) (caps : List V) (p : α → Bool) (ob : List (Option VObj)) (hsz : ∀ r ∈ ls, (g r).length = 4) (hl : ls.length ≤ 1000000000000) (h : ∀ r ∈ ls, VCall Tryz.prog f ([] ++ [.agg (g r)] ++ caps) ob (.bool (p r)) ob) :
    VCall Tryz.prog 180 [.sl 4 (ls.map g), .fn f [] caps] ob (.int .i64 (idxP p ls)) ob := by
  refine VCall.introE ok180 (Nat.le_of_ble_eq_true rfl) (vk_start ?_)
  simp (maxSteps := 4000000) (disch := omega) only [EW, Nat.reduceBEq, reduceIte, Nat.reduceAdd, Nat.reduceLeDiff, Nat.reduceLT, Nat.reduceSub, Nat.reduceMul, reduceCtorEq, Int.reduceNeg, Int.reduceSub, Int.reduceAdd, Int.reduceLE, Int.reduceLT, Int.reduceMul, Int.reduceToNat, Int.reduceEq, Int.reduceBEq, Int.reduceBNe, Nat.reduceEqDiff, vc180, rs180]
  refine vk_loopT (γ := Nat) (fun i => { tm := [(0, .sl 4 (ls.map g)), (1, .fn f [] caps), (7, .int .i64 ls.length), (8, .int .i64 i)], ob := ob, base := ob.length })
    (fun i => i ≤ ls.length ∧ idxP p ls = shiftI i (idxP p (ls.drop i))) (fun i => ls.length - i) 0 ⟨Nat.zero_le _, (shiftI_zero _).symm⟩ ?_ ?_
  · exact St.thin_mk rfl rfl ⟨rfl, rfl, rfl, rfl, trivial⟩
  · rintro i ⟨hi, hI⟩ R hN hE hR
    rcases Nat.lt_or_ge i ls.length with hlt | hge
    · obtain ⟨r, hr⟩ : ∃ r, ls[i]? = some r := ⟨_, List.getElem?_eq_getElem hlt⟩
      have hm := List.mem_of_getElem? hr
      have hrl := hsz r hm
      have htk : (g r).take 4 = g r := List.take_of_length_le (by omega)
      have hgr : (ls.map g)[i]? = some (g r) := by rw [List.getElem?_map, hr]; rfl
      have hc := h r hm
      rw [drop_at' hr] at hI
      simp (maxSteps := 4000000) (disch := omega) only [EW, Nat.reduceBEq, reduceIte, Nat.reduceAdd, Nat.reduceLeDiff, Nat.reduceLT, Nat.reduceSub, Nat.reduceMul, reduceCtorEq, Int.reduceNeg, Int.reduceSub, Int.reduceAdd, Int.reduceLE, Int.reduceLT, Int.reduceMul, Int.reduceToNat, Int.reduceEq, Int.reduceBEq, Int.reduceBNe, Nat.reduceEqDiff, hgr, htk, hrl]
      refine vk_call rfl hc ?_
      cases hp : p r with
      | true =>
        simp (maxSteps := 4000000) (disch := omega) only [EW, Nat.reduceBEq, reduceIte, Nat.reduceAdd, Nat.reduceLeDiff, Nat.reduceLT, Nat.reduceSub, Nat.reduceMul, reduceCtorEq, Int.reduceNeg, Int.reduceSub, Int.reduceAdd, Int.reduceLE, Int.reduceLT, Int.reduceMul, Int.reduceToNat, Int.reduceEq, Int.reduceBEq, Int.reduceBNe, Nat.reduceEqDiff]
        refine hR _ ?_
        simp (maxSteps := 4000000) (disch := omega) only [EW, Nat.reduceBEq, reduceIte, Nat.reduceAdd, Nat.reduceLeDiff, Nat.reduceLT, Nat.reduceSub, Nat.reduceMul, reduceCtorEq, Int.reduceNeg, Int.reduceSub, Int.reduceAdd, Int.reduceLE, Int.reduceLT, Int.reduceMul, Int.reduceToNat, Int.reduceEq, Int.reduceBEq, Int.reduceBNe, Nat.reduceEqDiff]
        rw [hI, idxP_hit hp, shiftI_nat]
        exact ⟨rfl, rfl⟩
      | false =>
        simp (maxSteps := 4000000) (disch := omega) only [EW, Nat.reduceBEq, reduceIte, Nat.reduceAdd, Nat.reduceLeDiff, Nat.reduceLT, Nat.reduceSub, Nat.reduceMul, reduceCtorEq, Int.reduceNeg, Int.reduceSub, Int.reduceAdd, Int.reduceLE, Int.reduceLT, Int.reduceMul, Int.reduceToNat, Int.reduceEq, Int.reduceBEq, Int.reduceBNe, Nat.reduceEqDiff]
        refine hN _ (i + 1) ⟨hlt, ?_⟩ (by omega) ?_
        · rw [hI, idxP_miss hp, shiftI_succ]
        · exact St.thin_mk rfl rfl ⟨rfl, rfl, rfl, rfl, trivial⟩
    · simp (maxSteps := 4000000) (disch := omega) only [EW, Nat.reduceBEq, reduceIte, Nat.reduceAdd, Nat.reduceLeDiff, Nat.reduceLT, Nat.reduceSub, Nat.reduceMul, reduceCtorEq, Int.reduceNeg, Int.reduceSub, Int.reduceAdd, Int.reduceLE, Int.reduceLT, Int.reduceMul, Int.reduceToNat, Int.reduceEq, Int.reduceBEq, Int.reduceBNe, Nat.reduceEqDiff]
      refine hE _ _ ?_
      rw [hI, List.drop_eq_nil_of_le hge]
      simp (maxSteps := 4000000) (disch := omega) only [EW, Nat.reduceBEq, reduceIte, Nat.reduceAdd, Nat.reduceLeDiff, Nat.reduceLT, Nat.reduceSub, Nat.reduceMul, reduceCtorEq, Int.reduceNeg, Int.reduceSub, Int.reduceAdd, Int.reduceLE, Int.reduceLT, Int.reduceMul, Int.reduceToNat, Int.reduceEq, Int.reduceBEq, Int.reduceBNe, Nat.reduceEqDiff]
      exact ⟨rfl, rfl⟩
theorem attr_containsO {α : Type} (ls : List α) (g : α → List V) (f : FuncId) (caps : List V) (p : α → Bool) (ob : List (Option VObj)) (hsz : ∀ r ∈ ls, (g r).length = 4) (hl : ls.length ≤ 1000000000000) (h : ∀ r ∈ ls, VCall Tryz.prog f ([] ++ [.agg (g r)] ++ caps) ob (.bool (p r)) ob) :
    VCall Tryz.prog 131 [.sl 4 (ls.map g), .fn f [] caps] ob (.bool (ls.any p)) ob := by
  refine VCall.introE ok131 (Nat.le_of_ble_eq_true rfl) (vk_start ?_)
  simp (maxSteps := 4000000) (disch := omega) only [EW, Nat.reduceBEq, reduceIte, Nat.reduceAdd, Nat.reduceLeDiff, Nat.reduceLT, Nat.reduceSub, Nat.reduceMul, reduceCtorEq, Int.reduceNeg, Int.reduceSub, Int.reduceAdd, Int.reduceLE, Int.reduceLT, Int.reduceMul, Int.reduceToNat, Int.reduceEq, Int.reduceBEq, Int.reduceBNe, Nat.reduceEqDiff, vc131, rs131]
  refine vk_call rfl (attr_indexO ls g f caps p ob hsz hl h) ?_
  simp (maxSteps := 4000000) (disch := omega) only [EW, Nat.reduceBEq, reduceIte, Nat.reduceAdd, Nat.reduceLeDiff, Nat.reduceLT, Nat.reduceSub, Nat.reduceMul, reduceCtorEq, Int.reduceNeg, Int.reduceSub, Int.reduceAdd, Int.reduceLE, Int.reduceLT, Int.reduceMul, Int.reduceToNat, Int.reduceEq, Int.reduceBEq, Int.reduceBNe, Nat.reduceEqDiff]
  rw [← idxP_any]
  exact ⟨rfl, rfl⟩
theorem view_indexO {α : Type} (ls : List α) (g : α → List V) (f : FuncId) (caps : List V) (p : α → Bool) (ob : List (Option VObj)) (hsz : ∀ r ∈ ls, (g r).length = 10) (hl : ls.length ≤ 1000000000000) (h : ∀ r ∈ ls, VCall Tryz.prog f ([] ++ [.agg (g r)] ++ caps) ob (.bool (p r)) ob) :
    VCall Tryz.prog 179 [.sl 10 (ls.map g), .fn f [] caps] ob (.int .i64 (idxP p ls)) ob := by
  refine VCall.introE ok179 (Nat.le_of_ble_eq_true rfl) (vk_start ?_)
  simp (maxSteps := 4000000) (disch := omega) only [EW, Nat.reduceBEq, reduceIte, Nat.reduceAdd, Nat.reduceLeDiff, Nat.reduceLT, Nat.reduceSub, Nat.reduceMul, reduceCtorEq, Int.reduceNeg, Int.reduceSub, Int.reduceAdd, Int.reduceLE, Int.reduceLT, Int.reduceMul, Int.reduceToNat, Int.reduceEq, Int.reduceBEq, Int.reduceBNe, Nat.reduceEqDiff, vc179, rs179]
  refine vk_loopT (γ := Nat) (fun i => { tm := [(0, .sl 10 (ls.map g)), (1, .fn f [] caps), (7, .int .i64 ls.length), (8, .int .i64 i)], ob := ob, base := ob.length })
    (fun i => i ≤ ls.length ∧ idxP p ls = shiftI i (idxP p (ls.drop i))) (fun i => ls.length - i) 0 ⟨Nat.zero_le _, (shiftI_zero _).symm⟩ ?_ ?_
  · exact St.thin_mk rfl rfl ⟨rfl, rfl, rfl, rfl, trivial⟩
  · rintro i ⟨hi, hI⟩ R hN hE hR
    rcases Nat.lt_or_ge i ls.length with hlt | hge
    · obtain ⟨r, hr⟩ : ∃ r, ls[i]? = some r := ⟨_, List.getElem?_eq_getElem hlt⟩
      have hm := List.mem_of_getElem? hr
      have hrl := hsz r hm
      have htk : (g r).take 10 = g r := List.take_of_length_le (by omega)
      have hgr : (ls.map g)[i]? = some (g r) := by rw [List.getElem?_map, hr]; rfl
      have hc := h r hm
      rw [drop_at' hr] at hI
      simp (maxSteps := 4000000) (disch := omega) only [EW, Nat.reduceBEq, reduceIte, Nat.reduceAdd, Nat.reduceLeDiff, Nat.reduceLT, Nat.reduceSub, Nat.reduceMul, reduceCtorEq, Int.reduceNeg, Int.reduceSub, Int.reduceAdd, Int.reduceLE, Int.reduceLT, Int.reduceMul, Int.reduceToNat, Int.reduceEq, Int.reduceBEq, Int.reduceBNe, Nat.reduceEqDiff, hgr, htk, hrl]
      refine vk_call rfl hc ?_
      cases hp : p r with
      | true =>
        simp (maxSteps := 4000000) (disch := omega) only [EW, Nat.reduceBEq, reduceIte, Nat.reduceAdd, Nat.reduceLeDiff, Nat.reduceLT, Nat.reduceSub, Nat.reduceMul, reduceCtorEq, Int.reduceNeg, Int.reduceSub, Int.reduceAdd, Int.reduceLE, Int.reduceLT, Int.reduceMul, Int.reduceToNat, Int.reduceEq, Int.reduceBEq, Int.reduceBNe, Nat.reduceEqDiff]
        refine hR _ ?_
        simp (maxSteps := 4000000) (disch := omega) only [EW, Nat.reduceBEq, reduceIte, Nat.reduceAdd, Nat.reduceLeDiff, Nat.reduceLT, Nat.reduceSub, Nat.reduceMul, reduceCtorEq, Int.reduceNeg, Int.reduceSub, Int.reduceAdd, Int.reduceLE, Int.reduceLT, Int.reduceMul, Int.reduceToNat, Int.reduceEq, Int.reduceBEq, Int.reduceBNe, Nat.reduceEqDiff]
        rw [hI, idxP_hit hp, shiftI_nat]
        exact ⟨rfl, rfl⟩
      | false =>
        simp (maxSteps := 4000000) (disch := omega) only [EW, Nat.reduceBEq, reduceIte, Nat.reduceAdd, Nat.reduceLeDiff, Nat.reduceLT, Nat.reduceSub, Nat.reduceMul, reduceCtorEq, Int.reduceNeg, Int.reduceSub, Int.reduceAdd, Int.reduceLE, Int.reduceLT, Int.reduceMul, Int.reduceToNat, Int.reduceEq, Int.reduceBEq, Int.reduceBNe, Nat.reduceEqDiff]
        refine hN _ (i + 1) ⟨hlt, ?_⟩ (by omega) ?_
        · rw [hI, idxP_miss hp, shiftI_succ]
        · exact St.thin_mk rfl rfl ⟨rfl, rfl, rfl, rfl, trivial⟩
    · simp (maxSteps := 4000000) (disch := omega) only [EW, Nat.reduceBEq, reduceIte, Nat.reduceAdd, Nat.reduceLeDiff, Nat.reduceLT, Nat.reduceSub, Nat.reduceMul, reduceCtorEq, Int.reduceNeg, Int.reduceSub, Int.reduceAdd, Int.reduceLE, Int.reduceLT, Int.reduceMul, Int.reduceToNat, Int.reduceEq, Int.reduceBEq, Int.reduceBNe, Nat.reduceEqDiff]
      refine hE _ _ ?_
      rw [hI, List.drop_eq_nil_of_le hge]
      simp (maxSteps := 4000000) (disch := omega) only [EW, Nat.reduceBEq, reduceIte, Nat.reduceAdd, Nat.reduceLeDiff, Nat.reduceLT, Nat.reduceSub, Nat.reduceMul, reduceCtorEq, Int.reduceNeg, Int.reduceSub, Int.reduceAdd, Int.reduceLE, Int.reduceLT, Int.reduceMul, Int.reduceToNat, Int.reduceEq, Int.reduceBEq, Int.reduceBNe, Nat.reduceEqDiff]
      exact ⟨rfl, rfl⟩
theorem view_containsO {α : Type} (ls : List α) (g : α → List V) (f : FuncId) (caps : List V) (p : α → Bool) (ob : List (Option VObj)) (hsz : ∀ r ∈ ls, (g r).length = 10) (hl : ls.length ≤ 1000000000000) (h : ∀ r ∈ ls, VCall Tryz.prog f ([] ++ [.agg (g r)] ++ caps) ob (.bool (p r)) ob) :
    VCall Tryz.prog 128 [.sl 10 (ls.map g), .fn f [] caps] ob (.bool (ls.any p)) ob := by
  refine VCall.introE ok128 (Nat.le_of_ble_eq_true rfl) (vk_start ?_)
  simp (maxSteps := 4000000) (disch := omega) only [EW, Nat.reduceBEq, reduceIte, Nat.reduceAdd, Nat.reduceLeDiff, Nat.reduceLT, Nat.reduceSub, Nat.reduceMul, reduceCtorEq, Int.reduceNeg, Int.reduceSub, Int.reduceAdd, Int.reduceLE, Int.reduceLT, Int.reduceMul, Int.reduceToNat, Int.reduceEq, Int.reduceBEq, Int.reduceBNe, Nat.reduceEqDiff, vc128, rs128]
  refine vk_call rfl (view_indexO ls g f caps p ob hsz hl h) ?_
  simp (maxSteps := 4000000) (disch := omega) only [EW, Nat.reduceBEq, reduceIte, Nat.reduceAdd, Nat.reduceLeDiff, Nat.reduceLT, Nat.reduceSub, Nat.reduceMul, reduceCtorEq, Int.reduceNeg, Int.reduceSub, Int.reduceAdd, Int.reduceLE, Int.reduceLT, Int.reduceMul, Int.reduceToNat, Int.reduceEq, Int.reduceBEq, Int.reduceBNe, Nat.reduceEqDiff]
  rw [← idxP_any]
  exact ⟨rfl, rfl⟩
theorem aRows_aC (l : List ((List UInt8 × Runs) × (List UInt8 × Runs))) : aRows l = l.map aC := rfl
theorem lim_long2 (v : Vw) (a : (List UInt8 × Runs) × (List UInt8 × Runs)) : VCall Tryz.prog 132 [.agg (aC a), .ptr 1 0] [some (.box (vCells v)), some (.box [.fn 130 [] []])] (.bool (oddS a.1 || oddS a.2)) [some (.box (vCells v)), some (.box [.fn 130 [] []])] := by
  refine VCall.intro ok132 (Nat.le_of_ble_eq_true rfl) (vk_start ?_)
  have h1 := lim_odd a.1.1 (rws a.1.2)
  have h2 := lim_odd a.2.1 (rws a.2.2)
  unfold oddS
  by_cases hb : 4096 < a.1.1.length
  · rw [decide_eq_true hb] at h1
    simp (maxSteps := 4000000) (disch := omega) only [EW, Nat.reduceBEq, reduceIte, Nat.reduceAdd, Nat.reduceLeDiff, Nat.reduceLT, Nat.reduceSub, Nat.reduceMul, reduceCtorEq, Int.reduceNeg, Int.reduceSub, Int.reduceAdd, Int.reduceLE, Int.reduceLT, Int.reduceMul, Int.reduceToNat, Int.reduceEq, Int.reduceBEq, Int.reduceBNe, Nat.reduceEqDiff, vc132, rs132, aC]
    (refine vk_callR rfl ⟨_, .inl rfl, h1⟩ ?_; simp (maxSteps := 4000000) (disch := omega) only [EW, Nat.reduceBEq, reduceIte, Nat.reduceAdd, Nat.reduceLeDiff, Nat.reduceLT, Nat.reduceSub, Nat.reduceMul, reduceCtorEq, Int.reduceNeg, Int.reduceSub, Int.reduceAdd, Int.reduceLE, Int.reduceLT, Int.reduceMul, Int.reduceToNat, Int.reduceEq, Int.reduceBEq, Int.reduceBNe, Nat.reduceEqDiff])
    exact ⟨_, rfl, ⟨[some 0, some 1], rfl, rfl, rfl, rfl, ⟨.same _ rfl, trivial⟩, ⟨⟨_, rfl, .box (SubML.same _ (vc_wf v))⟩, ⟨⟨_, rfl, .box (.cons (.same _ rfl) .nil)⟩, trivial⟩⟩⟩⟩
  · rw [decide_eq_false hb] at h1
    simp (maxSteps := 4000000) (disch := omega) only [EW, Nat.reduceBEq, reduceIte, Nat.reduceAdd, Nat.reduceLeDiff, Nat.reduceLT, Nat.reduceSub, Nat.reduceMul, reduceCtorEq, Int.reduceNeg, Int.reduceSub, Int.reduceAdd, Int.reduceLE, Int.reduceLT, Int.reduceMul, Int.reduceToNat, Int.reduceEq, Int.reduceBEq, Int.reduceBNe, Nat.reduceEqDiff, vc132, rs132, aC]
    (refine vk_callR rfl ⟨_, .inl rfl, h1⟩ ?_; simp (maxSteps := 4000000) (disch := omega) only [EW, Nat.reduceBEq, reduceIte, Nat.reduceAdd, Nat.reduceLeDiff, Nat.reduceLT, Nat.reduceSub, Nat.reduceMul, reduceCtorEq, Int.reduceNeg, Int.reduceSub, Int.reduceAdd, Int.reduceLE, Int.reduceLT, Int.reduceMul, Int.reduceToNat, Int.reduceEq, Int.reduceBEq, Int.reduceBNe, Nat.reduceEqDiff])
    (refine vk_callR rfl ⟨_, .inl rfl, h2⟩ ?_; simp (maxSteps := 4000000) (disch := omega) only [EW, Nat.reduceBEq, reduceIte, Nat.reduceAdd, Nat.reduceLeDiff, Nat.reduceLT, Nat.reduceSub, Nat.reduceMul, reduceCtorEq, Int.reduceNeg, Int.reduceSub, Int.reduceAdd, Int.reduceLE, Int.reduceLT, Int.reduceMul, Int.reduceToNat, Int.reduceEq, Int.reduceBEq, Int.reduceBNe, Nat.reduceEqDiff])
    exact ⟨_, rfl, ⟨[some 0, some 1], rfl, rfl, rfl, rfl, ⟨.same _ rfl, trivial⟩, ⟨⟨_, rfl, .box (SubML.same _ (vc_wf v))⟩, ⟨⟨_, rfl, .box (.cons (.same _ rfl) .nil)⟩, trivial⟩⟩⟩⟩
theorem lim_long (v : Vw) (hl : v.attrs.length ≤ 1000000000000) : VFn Tryz.prog 89 [.agg (vCells v)] (.bool (longV v)) := by
  refine VFn.intro ok89 (Nat.le_of_ble_eq_true rfl) (vk_start ?_)
  have h1 := lim_odd v.tag.1 (rws v.tag.2)
  have h2 := lim_odd v.text.1 (rws v.text.2)
  have h3 := attr_containsO v.attrs aC 132 [.ptr 1 0] (fun a => oddS a.1 || oddS a.2) [some (.box (vCells v)), some (.box [.fn 130 [] []])] (fun r _ => rfl) hl (fun r _ => lim_long2 v r)
  rw [← aRows_aC] at h3
  have e : longV v = (oddS v.tag || oddS v.text || decide (32 < v.key.length) || v.attrs.any fun a => oddS a.1 || oddS a.2) := rfl
  generalize (v.attrs.any fun a => oddS a.1 || oddS a.2) = b3 at h3 e
  rw [e]
  unfold oddS
  by_cases hb : 4096 < v.tag.1.length
  · rw [decide_eq_true hb] at h1
    simp (maxSteps := 4000000) (disch := omega) only [EW, Nat.reduceBEq, reduceIte, Nat.reduceAdd, Nat.reduceLeDiff, Nat.reduceLT, Nat.reduceSub, Nat.reduceMul, reduceCtorEq, Int.reduceNeg, Int.reduceSub, Int.reduceAdd, Int.reduceLE, Int.reduceLT, Int.reduceMul, Int.reduceToNat, Int.reduceEq, Int.reduceBEq, Int.reduceBNe, Nat.reduceEqDiff, vc89, rs89, VCp]
    (refine vk_callR rfl ⟨_, .inl rfl, h1⟩ ?_; simp (maxSteps := 4000000) (disch := omega) only [EW, Nat.reduceBEq, reduceIte, Nat.reduceAdd, Nat.reduceLeDiff, Nat.reduceLT, Nat.reduceSub, Nat.reduceMul, reduceCtorEq, Int.reduceNeg, Int.reduceSub, Int.reduceAdd, Int.reduceLE, Int.reduceLT, Int.reduceMul, Int.reduceToNat, Int.reduceEq, Int.reduceBEq, Int.reduceBNe, Nat.reduceEqDiff])
    exact fin rfl
  · rw [decide_eq_false hb] at h1
    simp (maxSteps := 4000000) (disch := omega) only [EW, Nat.reduceBEq, reduceIte, Nat.reduceAdd, Nat.reduceLeDiff, Nat.reduceLT, Nat.reduceSub, Nat.reduceMul, reduceCtorEq, Int.reduceNeg, Int.reduceSub, Int.reduceAdd, Int.reduceLE, Int.reduceLT, Int.reduceMul, Int.reduceToNat, Int.reduceEq, Int.reduceBEq, Int.reduceBNe, Nat.reduceEqDiff, vc89, rs89, VCp]
    (refine vk_callR rfl ⟨_, .inl rfl, h1⟩ ?_; simp (maxSteps := 4000000) (disch := omega) only [EW, Nat.reduceBEq, reduceIte, Nat.reduceAdd, Nat.reduceLeDiff, Nat.reduceLT, Nat.reduceSub, Nat.reduceMul, reduceCtorEq, Int.reduceNeg, Int.reduceSub, Int.reduceAdd, Int.reduceLE, Int.reduceLT, Int.reduceMul, Int.reduceToNat, Int.reduceEq, Int.reduceBEq, Int.reduceBNe, Nat.reduceEqDiff, VCp])
    by_cases hb2 : 4096 < v.text.1.length
    · rw [decide_eq_true hb2] at h2
      (refine vk_callR rfl ⟨_, .inl rfl, h2⟩ ?_; simp (maxSteps := 4000000) (disch := omega) only [EW, Nat.reduceBEq, reduceIte, Nat.reduceAdd, Nat.reduceLeDiff, Nat.reduceLT, Nat.reduceSub, Nat.reduceMul, reduceCtorEq, Int.reduceNeg, Int.reduceSub, Int.reduceAdd, Int.reduceLE, Int.reduceLT, Int.reduceMul, Int.reduceToNat, Int.reduceEq, Int.reduceBEq, Int.reduceBNe, Nat.reduceEqDiff, VCp])
      exact fin rfl
    · rw [decide_eq_false hb2] at h2
      (refine vk_callR rfl ⟨_, .inl rfl, h2⟩ ?_; simp (maxSteps := 4000000) (disch := omega) only [EW, Nat.reduceBEq, reduceIte, Nat.reduceAdd, Nat.reduceLeDiff, Nat.reduceLT, Nat.reduceSub, Nat.reduceMul, reduceCtorEq, Int.reduceNeg, Int.reduceSub, Int.reduceAdd, Int.reduceLE, Int.reduceLT, Int.reduceMul, Int.reduceToNat, Int.reduceEq, Int.reduceBEq, Int.reduceBNe, Nat.reduceEqDiff, VCp])
      by_cases hk : 32 < v.key.length
      · simp (maxSteps := 4000000) (disch := omega) only [EW, Nat.reduceBEq, reduceIte, Nat.reduceAdd, Nat.reduceLeDiff, Nat.reduceLT, Nat.reduceSub, Nat.reduceMul, reduceCtorEq, Int.reduceNeg, Int.reduceSub, Int.reduceAdd, Int.reduceLE, Int.reduceLT, Int.reduceMul, Int.reduceToNat, Int.reduceEq, Int.reduceBEq, Int.reduceBNe, Nat.reduceEqDiff, VCp]
        exact fin rfl
      · simp (maxSteps := 4000000) (disch := omega) only [EW, Nat.reduceBEq, reduceIte, Nat.reduceAdd, Nat.reduceLeDiff, Nat.reduceLT, Nat.reduceSub, Nat.reduceMul, reduceCtorEq, Int.reduceNeg, Int.reduceSub, Int.reduceAdd, Int.reduceLE, Int.reduceLT, Int.reduceMul, Int.reduceToNat, Int.reduceEq, Int.reduceBEq, Int.reduceBNe, Nat.reduceEqDiff, VCp]
        refine vk_call rfl h3 ?_
        simp (maxSteps := 4000000) (disch := omega) only [EW, Nat.reduceBEq, reduceIte, Nat.reduceAdd, Nat.reduceLeDiff, Nat.reduceLT, Nat.reduceSub, Nat.reduceMul, reduceCtorEq, Int.reduceNeg, Int.reduceSub, Int.reduceAdd, Int.reduceLE, Int.reduceLT, Int.reduceMul, Int.reduceToNat, Int.reduceEq, Int.reduceBEq, Int.reduceBNe, Nat.reduceEqDiff]
        exact fin rfl
theorem lim_many (v : Vw) : VFn Tryz.prog 90 [.agg (vCells v)] (.bool (manyV v)) := by
  refine VFn.intro ok90 (Nat.le_of_ble_eq_true rfl) (vk_start ?_)
  have e1 : (aRows v.attrs).length = v.attrs.length := by simp [aRows]
  have e2 : (hRows v.hooks).length = v.hooks.length := by simp [hRows]
  unfold manyV
  by_cases h : 8 < v.attrs.length
  · simp (maxSteps := 4000000) (disch := omega) only [EW, Nat.reduceBEq, reduceIte, Nat.reduceAdd, Nat.reduceLeDiff, Nat.reduceLT, Nat.reduceSub, Nat.reduceMul, reduceCtorEq, Int.reduceNeg, Int.reduceSub, Int.reduceAdd, Int.reduceLE, Int.reduceLT, Int.reduceMul, Int.reduceToNat, Int.reduceEq, Int.reduceBEq, Int.reduceBNe, Nat.reduceEqDiff, vc90, rs90, VCp, e1, e2]
    exact fin rfl
  · by_cases h2 : 8 < v.hooks.length
    · simp (maxSteps := 4000000) (disch := omega) only [EW, Nat.reduceBEq, reduceIte, Nat.reduceAdd, Nat.reduceLeDiff, Nat.reduceLT, Nat.reduceSub, Nat.reduceMul, reduceCtorEq, Int.reduceNeg, Int.reduceSub, Int.reduceAdd, Int.reduceLE, Int.reduceLT, Int.reduceMul, Int.reduceToNat, Int.reduceEq, Int.reduceBEq, Int.reduceBNe, Nat.reduceEqDiff, vc90, rs90, VCp, e1, e2]
      exact fin rfl
    · simp (maxSteps := 4000000) (disch := omega) only [EW, Nat.reduceBEq, reduceIte, Nat.reduceAdd, Nat.reduceLeDiff, Nat.reduceLT, Nat.reduceSub, Nat.reduceMul, reduceCtorEq, Int.reduceNeg, Int.reduceSub, Int.reduceAdd, Int.reduceLE, Int.reduceLT, Int.reduceMul, Int.reduceToNat, Int.reduceEq, Int.reduceBEq, Int.reduceBNe, Nat.reduceEqDiff, vc90, rs90, VCp, e1, e2]
      exact fin rfl
theorem someV_any (p : Vw → Bool) : ∀ l : List Vw, someV p l = l.any fun v => p v || someV p (innerV v)
  | [] => rfl
  | v :: l => by rw [someV, someV1_eq, someV_any p l]; rfl
theorem lend_v (v : Vw) (ob : List (Option VObj)) : lendL ob [.agg (vCells v)] = some [.agg (vCells v)] := by simp only [lendL, lendV, vc_lend]
theorem some_facts {l : List Vw} {v : Vw} (hv : v ∈ l) : cntV (innerV v) < cntV l ∧ v.attrs.length ≤ cntV l := by
  have h1 := cnt_mem hv
  have h2 := cnt_inner v
  omega
theorem lim_some1 (g : FuncId) (q : Vw → Bool) (v : Vw) (hg : VFn Tryz.prog g [.agg (vCells v)] (.bool (q v))) (hs : VFn Tryz.prog 88 [.sl 10 (vRows (innerV v)), .fn g [] []] (.bool (someV q (innerV v)))) :
    VCall Tryz.prog 129 [.agg (vCells v), .ptr 0 0] [some (.box [.fn g [] []])] (.bool (q v || someV q (innerV v))) [some (.box [.fn g [] []])] := by
  refine VCall.intro ok129 (Nat.le_of_ble_eq_true rfl) (vk_start ?_)
  have hi := lim_inner v
  simp (maxSteps := 4000000) (disch := omega) only [EW, Nat.reduceBEq, reduceIte, Nat.reduceAdd, Nat.reduceLeDiff, Nat.reduceLT, Nat.reduceSub, Nat.reduceMul, reduceCtorEq, Int.reduceNeg, Int.reduceSub, Int.reduceAdd, Int.reduceLE, Int.reduceLT, Int.reduceMul, Int.reduceToNat, Int.reduceEq, Int.reduceBEq, Int.reduceBNe, Nat.reduceEqDiff, vc129, rs129, VCp]
  refine vk_callR rfl ⟨_, .inl (lend_v v _), hg⟩ ?_
  cases hq : q v with
  | true =>
    simp (maxSteps := 4000000) (disch := omega) only [EW, Nat.reduceBEq, reduceIte, Nat.reduceAdd, Nat.reduceLeDiff, Nat.reduceLT, Nat.reduceSub, Nat.reduceMul, reduceCtorEq, Int.reduceNeg, Int.reduceSub, Int.reduceAdd, Int.reduceLE, Int.reduceLT, Int.reduceMul, Int.reduceToNat, Int.reduceEq, Int.reduceBEq, Int.reduceBNe, Nat.reduceEqDiff, VCp]
    exact ⟨_, rfl, ⟨[some 0], rfl, rfl, rfl, rfl, ⟨.same _ rfl, trivial⟩, ⟨⟨_, rfl, .box (.cons (.same _ rfl) .nil)⟩, trivial⟩⟩⟩
  | false =>
    simp (maxSteps := 4000000) (disch := omega) only [EW, Nat.reduceBEq, reduceIte, Nat.reduceAdd, Nat.reduceLeDiff, Nat.reduceLT, Nat.reduceSub, Nat.reduceMul, reduceCtorEq, Int.reduceNeg, Int.reduceSub, Int.reduceAdd, Int.reduceLE, Int.reduceLT, Int.reduceMul, Int.reduceToNat, Int.reduceEq, Int.reduceBEq, Int.reduceBNe, Nat.reduceEqDiff, VCp]
    refine vk_callR rfl ⟨_, .inl (lend_v v _), hi⟩ ?_
    simp (maxSteps := 4000000) (disch := omega) only [EW, Nat.reduceBEq, reduceIte, Nat.reduceAdd, Nat.reduceLeDiff, Nat.reduceLT, Nat.reduceSub, Nat.reduceMul, reduceCtorEq, Int.reduceNeg, Int.reduceSub, Int.reduceAdd, Int.reduceLE, Int.reduceLT, Int.reduceMul, Int.reduceToNat, Int.reduceEq, Int.reduceBEq, Int.reduceBNe, Nat.reduceEqDiff, VCp]
    (refine vk_callR rfl ⟨_, .inl rfl, hs⟩ ?_; simp (maxSteps := 4000000) (disch := omega) only [EW, Nat.reduceBEq, reduceIte, Nat.reduceAdd, Nat.reduceLeDiff, Nat.reduceLT, Nat.reduceSub, Nat.reduceMul, reduceCtorEq, Int.reduceNeg, Int.reduceSub, Int.reduceAdd, Int.reduceLE, Int.reduceLT, Int.reduceMul, Int.reduceToNat, Int.reduceEq, Int.reduceBEq, Int.reduceBNe, Nat.reduceEqDiff, VCp])
    exact ⟨_, rfl, ⟨[some 0], rfl, rfl, rfl, rfl, ⟨.same _ rfl, trivial⟩, ⟨⟨_, rfl, .box (.cons (.same _ rfl) .nil)⟩, trivial⟩⟩⟩
theorem lim_some (g : FuncId) (q : Vw → Bool) (hg : ∀ v, v.attrs.length ≤ 1000000000000 → VFn Tryz.prog g [.agg (vCells v)] (.bool (q v))) (l : List Vw) (hl : cntV l ≤ 1000000000000) : VFn Tryz.prog 88 [.sl 10 (vRows l), .fn g [] []] (.bool (someV q l)) := by
  have IH : ∀ v ∈ l, VFn Tryz.prog 88 [.sl 10 (vRows (innerV v)), .fn g [] []] (.bool (someV q (innerV v))) := fun v hv => lim_some g q hg (innerV v) (by have := some_facts hv; omega)
  have hc := view_containsO l vCells 129 [.ptr 0 0] (fun v => q v || someV q (innerV v)) [some (.box [.fn g [] []])] (fun r _ => vc_len r) (by have := cnt_len l; omega) (fun v hv => lim_some1 g q v (hg v (by have := some_facts hv; omega)) (IH v hv))
  rw [← vRows_map, ← someV_any] at hc
  refine VFn.intro ok88 (Nat.le_of_ble_eq_true rfl) (vk_start ?_)
  simp (maxSteps := 4000000) (disch := omega) only [EW, Nat.reduceBEq, reduceIte, Nat.reduceAdd, Nat.reduceLeDiff, Nat.reduceLT, Nat.reduceSub, Nat.reduceMul, reduceCtorEq, Int.reduceNeg, Int.reduceSub, Int.reduceAdd, Int.reduceLE, Int.reduceLT, Int.reduceMul, Int.reduceToNat, Int.reduceEq, Int.reduceBEq, Int.reduceBNe, Nat.reduceEqDiff, vc88, rs88]
  refine vk_call rfl hc ?_
  simp (maxSteps := 4000000) (disch := omega) only [EW, Nat.reduceBEq, reduceIte, Nat.reduceAdd, Nat.reduceLeDiff, Nat.reduceLT, Nat.reduceSub, Nat.reduceMul, reduceCtorEq, Int.reduceNeg, Int.reduceSub, Int.reduceAdd, Int.reduceLE, Int.reduceLT, Int.reduceMul, Int.reduceToNat, Int.reduceEq, Int.reduceBEq, Int.reduceBNe, Nat.reduceEqDiff]
  exact fin rfl
termination_by cntV l
decreasing_by exact (some_facts hv).1
theorem sizeV_take (l : List Vw) (i : Nat) {v : Vw} (h : l[i]? = some v) : sizeV (l.take (i + 1)) = sizeV (l.take i) + sizeV1 v := by
  rw [List.take_add_one, h]
  have : ∀ a b : List Vw, sizeV (a ++ b) = sizeV a + sizeV b := by
    intro a
    induction a with
    | nil => intro b; simp [sizeV]
    | cons x a ih => intro b; rw [List.cons_append, sizeV, sizeV, ih]; omega
  rw [this]
  simp [sizeV]
theorem size_cnt : ∀ (n : Nat) (l : List Vw), cntV l ≤ n → sizeV l ≤ cntV l
  | n, [], _ => Nat.le_refl _
  | n, v :: l, h => by
    rw [sizeV, cntV] 
    have h1 := size_cnt n l (by rw [cntV] at h; omega)
    cases v with
    | mk k t ky a hk kids tx s =>
      simp only [sizeV1, cntV1] at h1 ⊢
      have h2 : sizeV kids ≤ cntV kids := by
        cases n with
        | zero => rw [cntV, cntV1] at h; omega
        | succ n => exact size_cnt n kids (by rw [cntV, cntV1] at h; omega)
      split <;> omega
theorem lim_size (l : List Vw) (hl : cntV l ≤ 1000000000000) : VFn Tryz.prog 22 [.sl 10 (vRows l)] (.int .i64 (sizeV l)) := by
  have IH : ∀ v ∈ l, VFn Tryz.prog 22 [.sl 10 (vRows (innerV v))] (.int .i64 (sizeV (innerV v))) := fun v hv => lim_size (innerV v) (by have := some_facts hv; omega)
  have hln := vRows_length l
  have hlc := cnt_len l
  have hsz := size_cnt _ l (Nat.le_refl _)
  have e0 : ∀ i, i ≤ l.length → l.length - i + sizeV (l.take i) ≤ sizeV l ∧ sizeV (l.take i) ≤ sizeV l := by
    intro i
    have h1 : ∀ l : List Vw, l.length ≤ sizeV l := by
      intro l
      induction l with
      | nil => exact Nat.le_refl _
      | cons v l ih => cases v; simp only [List.length_cons, sizeV, sizeV1]; omega
    have h2 : ∀ a b : List Vw, sizeV (a ++ b) = sizeV a + sizeV b := by
      intro a
      induction a with
      | nil => intro b; simp [sizeV]
      | cons x a ih => intro b; rw [List.cons_append, sizeV, sizeV, ih]; omega
    intro hi
    have h3 := h2 (l.take i) (l.drop i)
    rw [List.take_append_drop] at h3
    have h4 := h1 (l.drop i)
    rw [List.length_drop] at h4
    omega
  refine VFn.intro ok22 (Nat.le_of_ble_eq_true rfl) (vk_start ?_)
  simp (maxSteps := 4000000) (disch := omega) only [EW, Nat.reduceBEq, reduceIte, Nat.reduceAdd, Nat.reduceLeDiff, Nat.reduceLT, Nat.reduceSub, Nat.reduceMul, reduceCtorEq, Int.reduceNeg, Int.reduceSub, Int.reduceAdd, Int.reduceLE, Int.reduceLT, Int.reduceMul, Int.reduceToNat, Int.reduceEq, Int.reduceBEq, Int.reduceBNe, Nat.reduceEqDiff, vc22, rs22, hln]
  refine vk_loopR (γ := Nat) (fun i => { tm := [(3, .int .i64 ((l.length - i + sizeV (l.take i) : Nat) : Int)), (8, .sl 10 (vRows l)), (9, .int .i64 l.length), (10, .int .i64 i)], ob := [], base := 0 })
    (fun i => i ≤ l.length) (fun i => l.length - i) 0 (Nat.zero_le _) ?_ ?_
  · exact ⟨[], rfl, rfl, rfl, rfl, ⟨.of_eq (by first | rfl | (simp; done) | (simp; omega)) rfl, .same _ rfl, .same _ rfl, .same _ rfl, trivial⟩, trivial⟩
  · rintro i hi R hN hE hR
    rcases Nat.lt_or_ge i l.length with hlt | hge
    · obtain ⟨v, hv⟩ : ∃ v, l[i]? = some v := ⟨_, List.getElem?_eq_getElem hlt⟩
      have hr : (vRows l)[i]? = some (vCells v) := by rw [vRows_get, hv]; rfl
      have hm := List.mem_of_getElem? hv
      have h1 := lim_inner v
      have h2 := IH v hm
      have h3 := sizeV_take l i hv
      have h4 := sizeV1_eq v
      have h5 := e0 (i + 1) hlt
      have h6 := e0 i hi
      simp (maxSteps := 4000000) (disch := omega) only [EW, Nat.reduceBEq, reduceIte, Nat.reduceAdd, Nat.reduceLeDiff, Nat.reduceLT, Nat.reduceSub, Nat.reduceMul, reduceCtorEq, Int.reduceNeg, Int.reduceSub, Int.reduceAdd, Int.reduceLE, Int.reduceLT, Int.reduceMul, Int.reduceToNat, Int.reduceEq, Int.reduceBEq, Int.reduceBNe, Nat.reduceEqDiff, hr, VCp]
      refine vk_callR rfl ⟨_, .inl (lend_v v _), h1⟩ ?_
      simp (maxSteps := 4000000) (disch := omega) only [EW, Nat.reduceBEq, reduceIte, Nat.reduceAdd, Nat.reduceLeDiff, Nat.reduceLT, Nat.reduceSub, Nat.reduceMul, reduceCtorEq, Int.reduceNeg, Int.reduceSub, Int.reduceAdd, Int.reduceLE, Int.reduceLT, Int.reduceMul, Int.reduceToNat, Int.reduceEq, Int.reduceBEq, Int.reduceBNe, Nat.reduceEqDiff]
      (refine vk_callR rfl ⟨_, .inl rfl, h2⟩ ?_; simp (maxSteps := 4000000) (disch := omega) only [EW, Nat.reduceBEq, reduceIte, Nat.reduceAdd, Nat.reduceLeDiff, Nat.reduceLT, Nat.reduceSub, Nat.reduceMul, reduceCtorEq, Int.reduceNeg, Int.reduceSub, Int.reduceAdd, Int.reduceLE, Int.reduceLT, Int.reduceMul, Int.reduceToNat, Int.reduceEq, Int.reduceBEq, Int.reduceBNe, Nat.reduceEqDiff])
      refine hN _ (i + 1) hlt (by omega) ?_
      have e : ((l.length - i + sizeV (l.take i) : Nat) : Int) + (sizeV (innerV v) : Int) = ((l.length - (i + 1) + sizeV (l.take (i + 1)) : Nat) : Int) := by omega
      rw [← e]
      exact ⟨[], rfl, rfl, rfl, rfl, ⟨.same _ rfl, .same _ rfl, .same _ rfl, .same _ rfl, trivial⟩, trivial⟩
    · have e : i = l.length := by omega
      subst e
      simp (maxSteps := 4000000) (disch := omega) only [EW, Nat.reduceBEq, reduceIte, Nat.reduceAdd, Nat.reduceLeDiff, Nat.reduceLT, Nat.reduceSub, Nat.reduceMul, reduceCtorEq, Int.reduceNeg, Int.reduceSub, Int.reduceAdd, Int.reduceLE, Int.reduceLT, Int.reduceMul, Int.reduceToNat, Int.reduceEq, Int.reduceBEq, Int.reduceBNe, Nat.reduceEqDiff]
      refine hE _ _ ?_
      simp (maxSteps := 4000000) (disch := omega) only [EW, Nat.reduceBEq, reduceIte, Nat.reduceAdd, Nat.reduceLeDiff, Nat.reduceLT, Nat.reduceSub, Nat.reduceMul, reduceCtorEq, Int.reduceNeg, Int.reduceSub, Int.reduceAdd, Int.reduceLE, Int.reduceLT, Int.reduceMul, Int.reduceToNat, Int.reduceEq, Int.reduceBEq, Int.reduceBNe, Nat.reduceEqDiff]
      have e : l.length - l.length + sizeV (l.take l.length) = sizeV l := by rw [List.take_length]; omega
      rw [e]
      exact fin rfl
termination_by cntV l
decreasing_by exact (some_facts hv).1
end Go.Proofs.VL

/- Contracts of functions of the program, for what calls them, and the law that its name tells. -/
import Derived.Test.YthlmgkfipbphmaaGreatKC
import Derived.Test.YthlmgkfipbphmaaGreatEY
namespace Go.Proofs.VL
open Go Go.RowKit
set_option maxRecDepth 100000
set_option maxHeartbeats 8000000
set_option linter.unusedSimpArgs false
set_option linter.unusedVariables false
attribute [local irreducible] vwp vk

/-- The objects of a new app, behind an array. -/
def obR : Obs := [some (.map [(0, .int .i64 0, .agg [.int .i64 0, .int .i64 0, .int .i64 (-1), .int .i64 1, .str [100, 105, 118], .sl 2 [[.int .i64 3, .int .i64 0]], .str [], .int .i64 0, .nils, .nils, .nils, .str [], .nils])] 1),
  some (.box [.mapr 1, .int .i64 0, .int .i64 0, .int .i64 0, .int .i64 0, .int .i64 1, .int .i64 0, .int .i64 0, .int .i64 0]),
  some (.box [.ptr 2 0, .nilp, .ptr 4 0, .ptr 5 0, .ptr 6 0, .nils]),
  some (.box [.int .i64 1, .nilp]), some (.box [.int .i64 2, .nilp]), some (.box [.int .i64 3, .nilp])]
def obA (X : List (List V)) : Obs := some (.arr 70 14 X) :: obR
theorem new_app (X : List (List V)) : VCall Tryz.prog 36 [] [some (.arr 70 14 X)] (.ptr 3 0) (obA X) := runG_sound tabY_ok 1000 60 _ _ _ _ _ (by kernel_rfl)
def oc4 : List V := [.int .i64 4, .int .i64 0, .nils, .nils]
theorem do3 (X : List (List V)) : VCall Tryz.prog 38 [.ptr 3 0, .agg (stp 3)] (obA X) (.agg oc4) (obA X) := runG_sound tabY_ok 1000 60 _ _ _ _ _ (by kernel_rfl)
theorem do2 (X : List (List V)) : VCall Tryz.prog 38 [.ptr 3 0, .agg (stp 2)] (obA X) (.agg oc4) (obA X) := runG_sound tabY_ok 1000 60 _ _ _ _ _ (by kernel_rfl)
noncomputable def ob1 (X : List (List V)) : Obs := match runG tabY 1000 60 38 [.ptr 3 0, .agg (stp 1)] (obA X) with | some (_, o) => o | none => []
theorem do1 (X : List (List V)) : VCall Tryz.prog 38 [.ptr 3 0, .agg (stp 1)] (obA X) (.agg [.int .i64 0, .int .i64 0, .nils, .nils]) (ob1 X) := runG_sound tabY_ok 1000 60 _ _ _ _ _ (by kernel_rfl)
def obN (X : List (List V)) : Obs := [some (.arr 70 14 X), none, none, none, none, none, none]
theorem forget {f : FuncId} {args : List V} {X : List (List V)} {oc : List V} {ob' : Obs} (h : VCall Tryz.prog f args (obA X) (.agg oc) ob') (hw : wfL 0 oc = true) (hl : fgL ob'.length [some 0, some 1, some 2, some 3, some 4, some 5, some 6] = true) (h0 : ob'[0]? = some (some (.arr 70 14 X))) : VCall Tryz.prog f args (obA X) (.agg oc) (obN X) := by
  refine VCall.less h ⟨[some 0, some 1, some 2, some 3, some 4, some 5, some 6], rfl, rfl, hl, rfl, ⟨.same _ hw, trivial⟩, ⟨⟨_, h0, .arr (subR_refl _)⟩, trivial⟩⟩
/-- What the last step of a kind comes to. -/
def ocK (k : Int) : List V := if k = 1 then [.int .i64 0, .int .i64 0, .nils, .nils] else oc4
theorem do_last (k : Int) (hk : 1 ≤ k) (hk3 : k ≤ 3) (X : List (List V)) : VCall Tryz.prog 38 [.ptr 3 0, .agg (stp k)] (obA X) (.agg (ocK k)) (obN X) := by
  obtain rfl | rfl | rfl : k = 1 ∨ k = 2 ∨ k = 3 := by omega
  · exact forget (do1 X) rfl (by kernel_rfl) (by kernel_rfl)
  · exact forget (do2 X) rfl rfl rfl
  · exact forget (do3 X) rfl rfl rfl
theorem inFrame {f : FuncId} {args : List V} {X : List (List V)} {oc : List V} {obs' : Obs} (h : VCall Tryz.prog f args (obA X) (.agg oc) obs') (hl : obs'.length = 7) (ha : wfL 7 args = true) (hoc : wfL 0 oc = true) (ho : wfOb 7 obs' = true) (e : List (Option VObj)) (hr : renL (nameOf [0, 1, 2, 3, 4, 5, 6] (obA X ++ e).length) args = args) (hr2 : renL (nameOf [0, 1, 2, 3, 4, 5, 6] (obA X ++ e).length) oc = oc) (hp : putObs (nameOf [0, 1, 2, 3, 4, 5, 6] (obA X ++ e).length) (obA X ++ e) [0, 1, 2, 3, 4, 5, 6] obs' = obs' ++ e) (hwr : wfL 7 oc = true) :
    VCall Tryz.prog f args (obA X ++ e) (.agg oc) (obs' ++ e) := by
  have hf := VCall.frame h [0, 1, 2, 3, 4, 5, 6] (obA X ++ e) ⟨rfl, by decide, fun i j hj => by
    match i, hj with
    | 0, hj => simp at hj; subst hj; exact ⟨by simp [obA, obR], fun o' ho => by simp [obA] at ho; subst ho; simp [obA, obR, renO]⟩
    | 1, hj => simp at hj; subst hj; exact ⟨by simp [obA, obR], fun o' ho => by simp [obA, obR] at ho; subst ho; simp [obA, obR, renO]⟩
    | 2, hj => simp at hj; subst hj; exact ⟨by simp [obA, obR], fun o' ho => by simp [obA, obR] at ho; subst ho; simp [obA, obR, renO, renL, renV, nameOf]⟩
    | 3, hj => simp at hj; subst hj; exact ⟨by simp [obA, obR], fun o' ho => by simp [obA, obR] at ho; subst ho; simp [obA, obR, renO, renL, renV, nameOf]⟩
    | 4, hj => simp at hj; subst hj; exact ⟨by simp [obA, obR], fun o' ho => by simp [obA, obR] at ho; subst ho; simp [obA, obR, renO, renL, renV, nameOf]⟩
    | 5, hj => simp at hj; subst hj; exact ⟨by simp [obA, obR], fun o' ho => by simp [obA, obR] at ho; subst ho; simp [obA, obR, renO, renL, renV, nameOf]⟩
    | 6, hj => simp at hj; subst hj; exact ⟨by simp [obA, obR], fun o' ho => by simp [obA, obR] at ho; subst ho; simp [obA, obR, renO, renL, renV, nameOf]⟩
    | i + 7, hj => simp at hj⟩ ha (by simp [obA, obR, wfOb, wfO, wfL, wfV]) (by simp only [wfV]; rw [hl]; exact hwr) (by rw [hl]; exact ho) (by rw [hl]; simp [obA, obR])
  rw [hr, hp] at hf
  simpa only [renV, hr2] using hf
end Go.Proofs.VL

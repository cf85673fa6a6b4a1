/- Contracts of functions of the program, for what calls them, and the law that its name tells. -/
import Derived.Test.YthlmgkfipbphmaaQC
namespace Go.Proofs.VL
open Go Go.RowKit
set_option maxRecDepth 100000
set_option maxHeartbeats 8000000
set_option linter.unusedSimpArgs false
set_option linter.unusedVariables false
attribute [local irreducible] vwp vk

theorem a_getAt (A : Ar) (id : Int) (b : Nat) (hb : b ≤ 1000000000) (hn : ∀ n, getN A.es id = some n → n.ok b) {B : List (Option VObj)} (h0 : B[0]? = some (some (.box (aCells 1 A)))) (h1 : B[1]? = some (some (.map (mV A.es) A.clock))) :
    VCall Try.prog 16 [.ptr 0 0, .int .i64 id] B (.tup [.agg (nCellsK (gotN A id).1 (.ref B.length (gotN A id).1.kids.length)), .bool (gotN A id).2]) (B ++ [some (.arr 3 1 (iRows (gotN A id).1.kids))]) := by
  have hf := VCall.frame (a_get A id b hb hn) [0, 1] B ⟨rfl, by simp, fun i j hj => by
    match i, hj with
    | 0, hj => simp at hj; subst hj; exact ⟨getElem?_lt h0, fun o' ho => by simp [aOb] at ho; subst ho; exact h0⟩
    | 1, hj => simp at hj; subst hj; exact ⟨getElem?_lt h1, fun o' ho => by simp [aOb] at ho; subst ho; exact h1⟩
    | i + 2, hj => simp at hj⟩ rfl rfl rfl rfl (by simp [aOb])
  have e : putObs (nameOf [0, 1] B.length) B [0, 1] (aOb A ++ [some (.arr 3 1 (iRows (gotN A id).1.kids))]) = B ++ [some (.arr 3 1 (iRows (gotN A id).1.kids))] := by
    have e1 : renO (nameOf [0, 1] B.length) (.box (aCells 1 A)) = .box (aCells 1 A) := by simp [aCells, renO, renL, renV, nameOf]
    have e2 : renO (nameOf [0, 1] B.length) (.map (mV A.es) A.clock) = .map (mV A.es) A.clock := rfl
    simp only [putObs, aOb, List.cons_append, List.nil_append, Option.map_some, e1, e2]
    rw [set_same h0, set_same h1]
    rfl
  rw [e] at hf
  have hr : renV (nameOf [0, 1] B.length) (.tup [.agg (nCellsK (gotN A id).1 (.ref 2 (gotN A id).1.kids.length)), .bool (gotN A id).2]) = .tup [.agg (nCellsK (gotN A id).1 (.ref B.length (gotN A id).1.kids.length)), .bool (gotN A id).2] := by
    simp [nCellsK, renV, renL, nameOf]
  rw [hr] at hf
  exact hf

def A1 (ki : Int) (tag : List UInt8 × Runs) (key : List UInt8) (sl : Int) : Ar := addA newA 0 (newN 1 0 ki (fixR tag) key sl)
/-- A call that reads alone, carried out. -/
theorem reads {f : FuncId} {args : List V} {ob : Obs} {r : V} (hw : wfV ob.length r = true) (ho : wfOb ob.length ob = true) (h : (match runF tabP 1000 60 f args ob with | some (v, o) => some (v, o.take ob.length, Nat.ble ob.length o.length) | none => none) = some (r, ob, true)) : VCall Try.prog f args ob r ob := by
  split at h <;> simp only [reduceCtorEq, Option.some.injEq, Prod.mk.injEq] at h
  rename_i v o hv
  obtain ⟨rfl, h2, h3⟩ := h
  have hc := runF_sound tabP_ok 1000 60 _ _ _ _ _ hv
  have e : o = ob ++ o.drop ob.length := by
    have := List.take_append_drop ob.length o
    rw [h2] at this; exact this.symm
  rw [e] at hc
  exact VCall.trim hc (Nat.le_refl _) hw ho
theorem inside1 (ki : Int) (tag : List UInt8 × Runs) (key : List UInt8) (sl : Int) : VCall Try.prog 97 [.ptr 0 0, .int .i64 0, .int .i64 1] (aOb (A1 ki tag key sl)) (.bool false) (aOb (A1 ki tag key sl)) := reads rfl rfl (by kernel_rfl)
theorem root_ok {b : Nat} (hb : 3 ≤ b) : rootN.ok b := ⟨⟨by show 3 ≤ b; omega, by show 1 ≤ b; omega⟩, ⟨Nat.zero_le _, Nat.zero_le _⟩, Nat.zero_le _, Nat.zero_le _, Nat.zero_le _, fun a h => by cases h⟩
theorem new_ok {b : Nat} (ki : Int) {tag : List UInt8 × Runs} (key : List UInt8) (sl : Int) (ht : rawOk b tag) : (newN 1 0 ki (fixR tag) key sl).ok b := ⟨fixR_ok ht, ⟨Nat.zero_le _, Nat.zero_le _⟩, Nat.zero_le _, Nat.zero_le _, Nat.zero_le _, fun a h => by cases h⟩
end Go.Proofs.VL

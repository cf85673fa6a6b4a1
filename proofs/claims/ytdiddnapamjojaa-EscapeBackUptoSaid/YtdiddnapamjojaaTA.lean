/- Contracts of functions of the program, for what calls them, and the law that its name tells. -/
import Derived.Test.YtdiddnapamjojaaSZ
import Derived.Test.YtdiddnapamjojaaSP
namespace Go.Proofs.VL
open Go Go.RowKit
set_option maxRecDepth 100000
set_option maxHeartbeats 2000000
set_option linter.unusedSimpArgs false
set_option linter.unusedVariables false
attribute [local irreducible] vwp vk

theorem ref_text (l : LT) (hl : l.length ≤ 1000000000) : VFn Try.prog 109 [.sl 2 (cRows l)] (.str (txt l)) := by
  refine VFn.intro ok109 (Nat.le_of_ble_eq_true rfl) (vk_start ?_)
  have h := ref_str l (by omega)
  simp only [vc109, rs109, wrap64, EV0, e_condB, Nat.reduceBEq, reduceIte, Nat.reduceAdd, Nat.reduceLeDiff, Nat.reduceLT, Nat.reduceSub, Nat.reduceMul, reduceCtorEq, Int.reduceNeg, Int.reduceSub, Int.reduceAdd, Int.reduceLE, Int.reduceLT, Int.reduceMul, Int.reduceToNat, Int.reduceEq, Int.reduceBEq, Int.reduceBNe, Nat.reduceEqDiff]
  refine vk_callR rfl ⟨_, .inl rfl, h⟩ ?_
  simp only [wrap64, EV0, e_condB, Nat.reduceBEq, reduceIte, Nat.reduceAdd, Nat.reduceLeDiff, Nat.reduceLT, Nat.reduceSub, Nat.reduceMul, reduceCtorEq, Int.reduceNeg, Int.reduceSub, Int.reduceAdd, Int.reduceLE, Int.reduceLT, Int.reduceMul, Int.reduceToNat, Int.reduceEq, Int.reduceBEq, Int.reduceBNe, Nat.reduceEqDiff, strV_raw, rawV]
  exact ⟨_, _, rfl, rfl, .refl _⟩

/-- What a text begins with, and how long that is; 0: no reference. -/
def takeB (t : List UInt8) : List UInt8 × Nat :=
  match t with
  | [] => ([], 0)
  | c :: _ => if c = 38 then
      (if Lib.indexByte t 59 < 0 then ([], 0) else
        let e := (Lib.indexByte t 59).toNat
        let o := standsB ((t.take e).drop 1)
        if o = [] then ([], 0) else (o, e + 1))
      else ([], 0)
end Go.Proofs.VL

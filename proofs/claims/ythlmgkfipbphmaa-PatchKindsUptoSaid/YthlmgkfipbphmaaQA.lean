/- Contracts of functions of the program, for what calls them, and the law that its name tells. -/
import Derived.Test.YthlmgkfipbphmaaEP
import Derived.Test.YthlmgkfipbphmaaAE
namespace Go.Proofs.VL
open Go Go.RowKit
set_option maxRecDepth 100000
set_option maxHeartbeats 4000000
set_option linter.unusedSimpArgs false
set_option linter.unusedVariables false

/-- Nothing is kept but the number that is told. -/
theorem forget2 {f : FuncId} {args : List V} {r : Int} {ob' : Obs} (h : VCall Try.prog f args (aOb newA) (.int .i64 r) ob') (hl : fgL ob'.length [some 0, some 1] = true) : VCall Try.prog f args (aOb newA) (.int .i64 r) [none, none] :=
  VCall.less h ⟨[some 0, some 1], rfl, rfl, hl, rfl, ⟨.same _ rfl, trivial⟩, trivial⟩
def runTo (r : Int) (o : Option (V × Obs)) : Bool := match o with | some (.int .i64 q, ob) => decide (q = r) && fgL ob.length [some 0, some 1] | _ => false
theorem runTo_ok {f : FuncId} {args : List V} {r : Int} (h : runTo r (runF tabP 1000 60 f args (aOb newA)) = true) : VCall Try.prog f args (aOb newA) (.int .i64 r) [none, none] := by
  unfold runTo at h
  split at h <;> try (cases h; done)
  rename_i q ob hq
  simp only [Bool.and_eq_true, decide_eq_true_eq] at h
  obtain ⟨rfl, h2⟩ := h
  exact forget2 (runF_sound tabP_ok 1000 60 _ _ _ _ _ hq) h2

section
variable (nd pa at_ ki sl : Int) (tag na va tx : List UInt8 × Runs) (key : List UInt8) (hs : List (Int × Bool × Int)) (n : Nat)
abbrev oneR (p : Pat) (r : Int) : Prop := VCall Try.prog 27 [.ptr 0 0, .agg (pCells p)] (aOb newA) (.int .i64 r) [none, none]
theorem one2z : oneR ⟨2, 0, pa, at_, ki, tag, key, sl, na, va, hs, tx⟩ 20 := runTo_ok (by kernel_rfl)
theorem one2p : oneR ⟨2, .ofNat (n + 1), pa, at_, ki, tag, key, sl, na, va, hs, tx⟩ 14 := runTo_ok (by kernel_rfl)
theorem one2n : oneR ⟨2, .negSucc n, pa, at_, ki, tag, key, sl, na, va, hs, tx⟩ 14 := runTo_ok (by kernel_rfl)
theorem one3z : oneR ⟨3, 0, pa, at_, ki, tag, key, sl, na, va, hs, tx⟩ 9 := runTo_ok (by kernel_rfl)
theorem one3p : oneR ⟨3, .ofNat (n + 1), pa, at_, ki, tag, key, sl, na, va, hs, tx⟩ 14 := runTo_ok (by kernel_rfl)
theorem one3n : oneR ⟨3, .negSucc n, pa, at_, ki, tag, key, sl, na, va, hs, tx⟩ 14 := runTo_ok (by kernel_rfl)
theorem one4p : oneR ⟨4, .ofNat (n + 1), pa, at_, ki, tag, key, sl, na, va, hs, tx⟩ 14 := runTo_ok (by kernel_rfl)
theorem one4n : oneR ⟨4, .negSucc n, pa, at_, ki, tag, key, sl, na, va, hs, tx⟩ 14 := runTo_ok (by kernel_rfl)
theorem one5z : oneR ⟨5, 0, pa, at_, ki, tag, key, sl, na, va, hs, tx⟩ 0 := runTo_ok (by kernel_rfl)
theorem one5p : oneR ⟨5, .ofNat (n + 1), pa, at_, ki, tag, key, sl, na, va, hs, tx⟩ 14 := runTo_ok (by kernel_rfl)
theorem one5n : oneR ⟨5, .negSucc n, pa, at_, ki, tag, key, sl, na, va, hs, tx⟩ 14 := runTo_ok (by kernel_rfl)
theorem one6z : oneR ⟨6, 0, pa, at_, ki, tag, key, sl, na, va, hs, tx⟩ 12 := runTo_ok (by kernel_rfl)
theorem one6p : oneR ⟨6, .ofNat (n + 1), pa, at_, ki, tag, key, sl, na, va, hs, tx⟩ 14 := runTo_ok (by kernel_rfl)
theorem one6n : oneR ⟨6, .negSucc n, pa, at_, ki, tag, key, sl, na, va, hs, tx⟩ 14 := runTo_ok (by kernel_rfl)
theorem one7p : oneR ⟨7, .ofNat (n + 1), pa, at_, ki, tag, key, sl, na, va, hs, tx⟩ 14 := runTo_ok (by kernel_rfl)
theorem one7n : oneR ⟨7, .negSucc n, pa, at_, ki, tag, key, sl, na, va, hs, tx⟩ 14 := runTo_ok (by kernel_rfl)
theorem one1p : oneR ⟨1, nd, .ofNat (n + 1), at_, ki, tag, key, sl, na, va, hs, tx⟩ 14 := runTo_ok (by kernel_rfl)
theorem one1n : oneR ⟨1, nd, .negSucc n, at_, ki, tag, key, sl, na, va, hs, tx⟩ 14 := runTo_ok (by kernel_rfl)
end
end Go.Proofs.VL

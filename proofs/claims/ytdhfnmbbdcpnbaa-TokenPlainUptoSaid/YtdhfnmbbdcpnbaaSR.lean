/- Contracts of functions of the program, for what calls them, and the law that its name tells. -/
import Derived.Test.YtdhfnmbbdcpnbaaV3
import Derived.KernelRfl
import Derived.Tactics
import Derived.Tactics2
import Derived.Lib.Strings
import Derived.Lib.Slices
import Derived.Lib.Walk
import Derived.Lib.Bytealg
import Derived.Test.YtdhfnmbbdcpnbaaCstrings
import Derived.Test.YtdhfnmbbdcpnbaaCstringslite
namespace Go.Proofs
set_option maxHeartbeats 1000000 in
set_option maxRecDepth 100000 in
theorem Try.stringslite_IndexByte (s : ByteArray) (c : Int) (w : World) :
    Calls Try.prog 154 #[.string s, .int .u8 c] w fun e w' => e = .returned (.int .i64 (Lib.indexByte s.data.toList c.toNat.toUInt8)) ∧ w' = w := by
  go_enter Try.func154, Try.ntmps154
  go_wp2
  rw [run_callFunc_extern Try.func185 (by kernel_rfl) (by kernel_rfl) (by kernel_rfl) (e := Extern.BytealgIndexByte.indexByte) (by kernel_rfl), Lib.run_indexByteString]
  simp only [Result.andThen]
  rw [Oper.upon_value]
  go_wp2
  go_ret
  exact ⟨rfl, rfl⟩
end Go.Proofs
namespace Go.Proofs.VL
open Go Go.RowKit
set_option maxRecDepth 100000
set_option maxHeartbeats 2000000
set_option linter.unusedSimpArgs false
set_option linter.unusedVariables false

theorem lite_index (t : List UInt8) (c : UInt8) : VFn Try.prog 154 [.str t, .int .u8 c.toNat] (.int .i64 (Lib.indexByte t c)) := by
  refine VFn.ofCalls ⟨_, Try.func154, by kernel_rfl, by kernel_rfl⟩ fun w E vs h => ?_
  obtain ⟨v1, w1, e1, h1, v2, w2, e2, h2, e3⟩ := h
  subst e3; subst e2; subst e1
  · simp only [Rep] at h1 h2
    subst h1; subst h2
    refine ⟨_, rfl, ?_⟩
    have := Try.stringslite_IndexByte ⟨⟨t⟩⟩ c.toNat w
    have e : ((c.toNat : Int).toNat).toUInt8 = c := by simp
    rw [e] at this
    exact this

theorem index_byte (t : List UInt8) (c : UInt8) : VFn Try.prog 108 [.str t, .int .u8 c.toNat] (.int .i64 (Lib.indexByte t c)) := by
  refine VFn.intro ok108 (Nat.le_of_ble_eq_true rfl) (vk_start ?_)
  simp only [vc108, rs108, wrap64, EV0, e_condB, Nat.reduceBEq, reduceIte, Nat.reduceAdd, Nat.reduceLeDiff, Nat.reduceLT, Nat.reduceSub, Nat.reduceMul, reduceCtorEq, Int.reduceNeg, Int.reduceSub, Int.reduceAdd, Int.reduceLE, Int.reduceLT, Int.reduceMul, Int.reduceToNat, Int.reduceEq, Int.reduceBEq, Int.reduceBNe, Nat.reduceEqDiff]
  refine vk_call rfl (CallR.call ⟨_, .inl rfl, lite_index t c⟩) ?_
  simp only [wrap64, EV0, e_condB, Nat.reduceBEq, reduceIte, Nat.reduceAdd, Nat.reduceLeDiff, Nat.reduceLT, Nat.reduceSub, Nat.reduceMul, reduceCtorEq, Int.reduceNeg, Int.reduceSub, Int.reduceAdd, Int.reduceLE, Int.reduceLT, Int.reduceMul, Int.reduceToNat, Int.reduceEq, Int.reduceBEq, Int.reduceBNe, Nat.reduceEqDiff]
  exact ⟨_, _, rfl, rfl, .refl _⟩
end Go.Proofs.VL

/- Contracts of functions of the program, for what calls them, and the law that its name tells. -/
import Derived.Test.YtdhfnmbbdcpnbaaV3
import Derived.Test.YtdhfnmbbdcpnbaaSR
namespace Go.Proofs.VL
open Go Go.RowKit
noncomputable def idxF (args : List V) (ob : Obs) : Option (V × Obs) :=
  match args with
  | [.str t, .int .u8 (.ofNat n)] => match Nat.blt n 256 with
    | true => some (.int .i64 (Lib.indexByte t (UInt8.ofNat n)), ob)
    | false => none
  | _ => none
theorem idxF_ok (args : List V) (ob : Obs) (r : V) (ob' : Obs) (h : idxF args ob = some (r, ob')) : VCall Try.prog 154 args ob r ob' := by
  unfold idxF at h
  split at h <;> try (cases h; done)
  rename_i t n
  split at h <;> try (cases h; done)
  rename_i hn
  simp only [Option.some.injEq, Prod.mk.injEq] at h
  obtain ⟨rfl, rfl⟩ := h
  have hn2 : n < 256 := Nat.le_of_ble_eq_true hn
  have h1 := lite_index t (UInt8.ofNat n)
  rw [show ((UInt8.ofNat n).toNat : Int) = (n : Int) by simp; omega] at h1
  have h2 := VCall.app h1 ob rfl rfl rfl
  simpa [renV] using h2
end Go.Proofs.VL

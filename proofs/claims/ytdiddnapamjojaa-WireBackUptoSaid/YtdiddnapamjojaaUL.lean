/- Contracts of functions of the program, for what calls them, and the law that its name tells. -/
import Derived.Test.YtdiddnapamjojaaUK
namespace Go.Proofs.VL
open Go Go.RowKit Go.WideShapes Go.ChangeShapes Go.ChangeAt
set_option maxRecDepth 100000
set_option linter.unusedSimpArgs false
set_option linter.unusedVariables false

theorem und_u8' : Try.prog.underlying 5 = some (.int .u8) := by kernel_rfl
theorem ty_byte {xs : List V} {b : Nat} (h : Ty Try.prog 5 xs b) : ∃ c : UInt8, xs = [.int .u8 c.toNat] ∧ 0 + 1 ≤ b ∧ True := by
  obtain ⟨n, rfl, w0, rfl⟩ := h.intI und_u8'
  have h' : (decide (IntKind.u8.min ≤ n) && decide (n ≤ IntKind.u8.max)) = true := w0
  rw [Bool.and_eq_true, decide_eq_true_eq, decide_eq_true_eq] at h'
  have h1 : IntKind.u8.min = 0 := rfl
  have h2 : IntKind.u8.max = 255 := rfl
  rw [h1, h2] at h'
  refine ⟨UInt8.ofNat n.toNat, ?_, by omega, trivial⟩
  have : ((UInt8.ofNat n.toNat).toNat : Int) = n := by
    rw [UInt8.toNat_ofNat']; omega
  rw [this]
theorem cells_u8 : Try.prog.cellsOf 5 = 1 := by kernel_rfl
theorem ty_bytes {xs : List V} {b : Nat} (h : Ty Try.prog 77 xs b) : ∃ l : List UInt8, xs = [.sl 1 (bRows l)] ∧ l.length ≤ b := by
  obtain ⟨rows, bs, rfl, h1, h2, rfl⟩ := h.sliceI Try.underlying77
  obtain ⟨l, rfl, q1, q2⟩ := rows_sum (fun c : UInt8 => [.int .u8 c.toNat]) (fun _ => 0) (fun _ => True) (fun xs b h => ty_byte h) rows bs h1 h2
  exact ⟨l, by rw [cells_u8]; rfl, by omega⟩
theorem arg_bytes (x : V) : argV Try.prog 77 [x] = x := arg_one (by kernel_rfl) x
end Go.Proofs.VL

/- Contracts of functions of the program, for what calls them, and the law that its name tells. -/
import Derived.Test.YtdhfnmbbdcpnbaaV4
import Derived.Test.YtdhfnmbbdcpnbaaDX
namespace Go.Proofs.VL
open Go Go.RowKit
noncomputable def tagsF (args : List V) (ob : Obs) : Option (V × Obs) :=
  match args with
  | [] => some (.ref ob.length 17, ob ++ [some (.arr 165 1 (sRow tagL))])
  | _ => none
theorem tagsF_ok (args : List V) (ob : Obs) (r : V) (ob' : Obs) (h : tagsF args ob = some (r, ob')) : VCall Try.prog 47 args ob r ob' := by
  unfold tagsF at h
  split at h <;> try (cases h; done)
  simp only [Option.some.injEq, Prod.mk.injEq] at h
  obtain ⟨rfl, rfl⟩ := h
  exact VCall.app tags ob rfl rfl rfl
end Go.Proofs.VL

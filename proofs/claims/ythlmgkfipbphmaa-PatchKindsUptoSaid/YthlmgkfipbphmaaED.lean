/- Contracts of functions of the program, for what calls them, and the law that its name tells. -/
import Derived.Test.YthlmgkfipbphmaaV3
import Derived.Test.YthlmgkfipbphmaaAR
import Derived.Test.YthlmgkfipbphmaaAG
namespace Go.Proofs.VL
open Go Go.RowKit
set_option maxRecDepth 100000
set_option maxHeartbeats 8000000
set_option linter.unusedSimpArgs false
set_option linter.unusedVariables false

theorem mapsCloneAt (es : List (Nat × V × V)) (c : Nat) (B : List (Option VObj)) (k : Nat) (h0 : B[k]? = some (some (.map es c))) : VCall Try.prog 43 [.mapr k] B (.mapr B.length) (B ++ [some (.map es c)]) := by
  have hf := VCall.frame (maps_clone es c) [k] B ⟨rfl, by simp, fun i j hj => by
    match i, hj with
    | 0, hj => simp at hj; subst hj; exact ⟨(List.getElem?_eq_some_iff.1 h0).1, fun o' ho => by simp at ho; subst ho; exact h0⟩
    | i + 1, hj => simp at hj⟩ rfl rfl rfl rfl (Nat.le_succ 1)
  have hs : B.set k (some (.map es c)) = B := by
    apply List.ext_getElem?
    intro i
    rw [List.getElem?_set]
    split
    · rename_i h; subst h; rw [h0]; simp [(List.getElem?_eq_some_iff.1 h0).1]
    · rfl
  have e2 : putObs (nameOf [k] B.length) B [k] [some (.map es c), some (.map es c)] = B ++ [some (.map es c)] := by
    simp [putObs, renO, hs, nameOf]
  rw [e2] at hf
  simpa [renL, renV, nameOf] using hf
noncomputable def mapsCloneF (args : List V) (ob : Obs) : Option (V × Obs) :=
  match args with
  | [.mapr k] => match ob[k]? with
    | some (some (.map es c)) => some (.mapr ob.length, ob ++ [some (.map es c)])
    | _ => none
  | _ => none
theorem mapsCloneF_ok (args : List V) (ob : Obs) (r : V) (ob' : Obs) (h : mapsCloneF args ob = some (r, ob')) : VCall Try.prog 43 args ob r ob' := by
  unfold mapsCloneF at h
  split at h <;> try (cases h; done)
  rename_i k
  split at h <;> try (cases h; done)
  rename_i es c ho
  simp only [Option.some.injEq, Prod.mk.injEq] at h
  obtain ⟨rfl, rfl⟩ := h
  exact mapsCloneAt es c ob k ho
end Go.Proofs.VL

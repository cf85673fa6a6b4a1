/- Contracts of functions of the program, for what calls them, and the law that its name tells. -/
import Derived.Test.YtdhfnmbbdcpnbaaV3
import Derived.RegionTactic
import Derived.Test.YtdhfnmbbdcpnbaaProg
namespace Go.Proofs.VL
open Go Go.RowKit Go.Proofs
set_option maxRecDepth 100000
set_option maxHeartbeats 8000000
set_option linter.unusedSimpArgs false
set_option linter.unusedVariables false

/-! ### allow.Tags: an array of its own, as a slice -/
def tagL : List (List UInt8) := [[100, 105, 118], [115, 112, 97, 110], [112], [97], [117, 108], [108, 105], [98], [105], [101, 109], [115, 116, 114, 111, 110, 103], [104, 49], [104, 50], [98, 114], [104, 114], [105, 109, 103], [115, 99, 114, 105, 112, 116], [115, 116, 121, 108, 101]]
def sRow (l : List (List UInt8)) : List (List V) := l.map fun t => [.str t]
def sVal (l : List (List UInt8)) : List Value := l.map fun t => .string ⟨⟨t⟩⟩
theorem flat_sRow {w : World} {E : Env} : ∀ l, RepFlat w E 1 (sRow l) (sVal l)
  | [] => by simp [sRow, sVal, RepFlat]
  | t :: l => by
    show RepFlat w E 1 ([V.str t] :: sRow l) _
    simp only [RepFlat]
    exact ⟨[.string ⟨⟨t⟩⟩], _, rfl, rfl, by simp [RepL, Rep], flat_sRow l⟩
theorem ones_sVal (l : List (List UInt8)) : Ones (sVal l) := by
  intro v hv
  obtain ⟨z, _, rfl⟩ := List.mem_map.1 hv
  rfl
theorem en47 : Enter Try.prog 47 := ⟨_, Try.func47, by kernel_rfl, by kernel_rfl⟩
theorem tags_calls (w : World) : Calls Try.prog 47 #[] w fun en w' => en = .returned (.slice (some ⟨w.heap.size, 0, none⟩) 17 17) ∧ ∃ d, w' = { w.alloc (.cells ⟨sVal tagL⟩ 165 (0, 0)) with drawn := d } := by
  go_enter Try.func47, Try.ntmps47
  go_wp2
  go_ret
  exact ⟨rfl, w.drawn, rfl⟩
theorem tags : VCall Try.prog 47 [] [] (.ref 0 17) [some (.arr 165 1 (sRow tagL))] :=
  fresh_arr en47 (rows := sRow tagL) (vs := sVal tagL) (e := 165) (by decide) rfl (ones_sVal _) (fun _ _ => flat_sRow _) (fun w E us h => by
    have : us = [] := by simpa only [RepL] using h
    subst this
    exact tags_calls w)
end Go.Proofs.VL

/- Contracts of functions of the program, for what calls them, and the law that its name tells. -/
import Derived.Test.YthlmgkfipbphmaaSC
namespace Go.Proofs.VL
open Go Go.RowKit
set_option maxRecDepth 100000
set_option maxHeartbeats 1000000
set_option linter.unusedSimpArgs false
set_option linter.unusedVariables false

/-- Labelled texts, as they came. -/
abbrev Raw := List UInt8 × Runs
def rawRows (ss : List Raw) : List (List V) := ss.map fun s => [.str s.1, .sl 2 (rowsOf s.2)]
theorem rawRows_get (ss : List Raw) (i : Nat) : (rawRows ss)[i]? = (ss[i]?).map fun s => [.str s.1, .sl 2 (rowsOf s.2)] := by simp [rawRows]
theorem rawRows_length (ss : List Raw) : (rawRows ss).length = ss.length := by simp [rawRows]
def catT (ss : List Raw) : List UInt8 := ss.flatMap (·.1)
def catO (ss : List Raw) : List Int := ss.flatMap fun s => orig s.1.length s.2
theorem catO_length (ss : List Raw) : (catO ss).length = (catT ss).length := by
  induction ss with
  | nil => rfl
  | cons s ss ih => simp only [catO, catT, List.flatMap_cons, List.length_append, orig_length] at ih ⊢; omega
theorem catT_take (ss : List Raw) (i : Nat) : (catT (ss.take i)).length ≤ (catT ss).length := by
  have : catT ss = catT (ss.take i) ++ catT (ss.drop i) := by simp only [catT]; rw [← List.flatMap_append, List.take_append_drop]
  rw [this]; simp
theorem bRows_append (a b : List UInt8) : bRows a ++ bRows b = bRows (a ++ b) := by simp [bRows]
theorem bRows_length (a : List UInt8) : (bRows a).length = a.length := by simp [bRows]
theorem bRows_take (a : List UInt8) : List.take a.length (bRows a) = bRows a := List.take_of_length_le (by rw [bRows_length]; exact Nat.le_refl _)
theorem expand_take (l : Runs) (j : Nat) {n o : Int} (h : l[j]? = some (n, o)) : expand (l.take (j + 1)) = expand (l.take j) ++ List.replicate n.toNat o := by
  rw [List.take_add_one, h]; simp [expand]

def catObs (a : List Int) (b : List UInt8) : List (Option VObj) := [some (.box [.str [], .nils]), some (.box [.str [], .ref 2 (rle a).length]), some (.arr 107 2 (rowsOf (rle a))), some (.arr 5 1 (bRows b))]

end Go.Proofs.VL

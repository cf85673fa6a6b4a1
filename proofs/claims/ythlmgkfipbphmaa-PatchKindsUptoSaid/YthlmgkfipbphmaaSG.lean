/- Contracts of functions of the program, for what calls them, and the law that its name tells. -/
import Derived.Test.YthlmgkfipbphmaaSF
import Derived.Test.YthlmgkfipbphmaaCmark
namespace Go.Proofs.VL
open Go Go.RowKit
set_option maxRecDepth 100000
set_option maxHeartbeats 2000000
set_option linter.unusedSimpArgs false
set_option linter.unusedVariables false

def clampN (x : Int) (n : Nat) : Nat := min x.toNat n

theorem cut_step (L : List Int) (m a b : Nat) (o : Int) : ((L ++ List.replicate m o).take b).drop a = (L.take b).drop a ++ List.replicate (min (L.length + m) b - max L.length a) o := by
  rw [List.take_append, List.drop_append, List.take_replicate, List.drop_replicate, List.length_take]
  congr 2
  omega

theorem lab_cut (t : List UInt8) (rs : Runs) (a b : Nat) : rawV ((t.take b).drop a) (rle (((orig t.length rs).take b).drop a)) = strV (((lab t rs).take b).drop a) := by
  unfold strV
  rw [List.map_drop, List.map_take, lab_fst, List.map_drop, List.map_take, lab_snd]

theorem fix_of {t : List UInt8} {rs : Runs} {l : LT} (h : lab t rs = l) (ht : t.length ≤ 1000000000) (hrs : rs.length ≤ 1000000000) : VFn Try.prog 40 [rawV t rs] (strV l) := by
  subst h
  unfold strV
  rw [lab_fst, lab_snd]
  exact fix t rs ht hrs

/-- Labelled texts as told of bytes with origins. -/
def rawOf (l : LT) : Raw := (l.map (·.1), rle (l.map (·.2)))
theorem lab_rawOf {l : LT} (h : Near l) : lab (rawOf l).1 (rawOf l).2 = l := lab_str h
theorem labs_rawOf : ∀ {ls : List LT}, (∀ l ∈ ls, Near l) → labs (ls.map rawOf) = ls.flatten
  | [], _ => rfl
  | l :: ls, h => by
    have := labs_rawOf (ls := ls) (fun q hq => h q (by simp [hq]))
    simp only [labs, List.map_cons, List.flatMap_cons, List.flatten_cons] at this ⊢
    rw [this, lab_rawOf (h l (by simp))]
theorem strV_raw (l : LT) : strV l = rawV (rawOf l).1 (rawOf l).2 := rfl
theorem rawOf_len (l : LT) : (rawOf l).1.length = l.length ∧ (rawOf l).2.length ≤ l.length := by
  refine ⟨by simp [rawOf], ?_⟩
  have := rle_len (l.map (·.2))
  simpa [rawOf] using this
end Go.Proofs.VL

/- Contracts of functions of the program, for what calls them, and the law that its name tells. -/
import Derived.Test.YthlmgkfipbphmaaSE
import Derived.Test.YthlmgkfipbphmaaCmark
namespace Go.Proofs.VL
open Go Go.RowKit
set_option maxRecDepth 100000
set_option maxHeartbeats 2000000
set_option linter.unusedSimpArgs false
set_option linter.unusedVariables false

def isB (t : List UInt8) (rs : Runs) (l : LT) : Bool := decide (t = l.map (·.1) ∧ rs = rle (l.map (·.2)))

theorem mark_of_at (t : List UInt8) (o : Int) (rs : Runs) (ht : t.length ≤ 1000000000) (h : rle (List.replicate t.length (nearI o)) = rs) : VFn Try.prog 14 [.str t, .int .i64 o] (rawV t rs) := h ▸ mark_of t o ht

def labs (ss : List Raw) : LT := ss.flatMap fun s => lab s.1 s.2
theorem labs_fst (ss : List Raw) : (labs ss).map (·.1) = catT ss := by
  induction ss with
  | nil => rfl
  | cons s ss ih => simp only [labs, catT, List.flatMap_cons, List.map_append] at ih ⊢; rw [ih, lab_fst]
theorem labs_snd (ss : List Raw) : (labs ss).map (·.2) = catO ss := by
  induction ss with
  | nil => rfl
  | cons s ss ih => simp only [labs, catO, List.flatMap_cons, List.map_append] at ih ⊢; rw [ih, lab_snd]
theorem labs_length (ss : List Raw) : (labs ss).length = (catT ss).length := by rw [← labs_fst]; simp
theorem isB_true {l : LT} {t : List UInt8} {rs : Runs} (h1 : l.map (·.1) = t) (h2 : rle (l.map (·.2)) = rs) : isB t rs l = true := by simp [isB, h1, h2]

end Go.Proofs.VL

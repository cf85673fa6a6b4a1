/- Contracts of functions of the program, for what calls them, and the law that its name tells. -/
import Derived.Test.YtdiddnapamjojaaUC
import Derived.Test.YtdiddnapamjojaaTV
namespace Go.Proofs.VL
open Go Go.RowKit
set_option linter.unusedSimpArgs false
set_option linter.unusedVariables false

/-! ### reading what was put -/
theorem tak_app (a w : List UInt8) : tak a.length (a ++ w, false) = (a, w, false) := by
  unfold tak
  rw [if_neg (by simp)]
  simp
theorem beN_oct {n : Int} (h : oddI n = false) : (beN (oct4 n) : Int) = n := by
  have h1 := oddI_no h
  unfold oct4 beN
  simp only [List.foldl_cons, List.foldl_nil, UInt8.toNat_ofNat']
  omega
theorem num_put {n : Int} (h : oddI n = false) (w : List UInt8) : numR (oct4 n ++ w, false) = (n.toNat, w, false) := by
  have e : tak 4 (oct4 n ++ w, false) = (oct4 n, w, false) := tak_app (oct4 n) w
  unfold numR
  rw [e]
  have := beN_oct h
  simp only; congr 1; omega
theorem num_putL {k : Nat} (h : k ≤ 1000000000) (w : List UInt8) : numR (oct4 k ++ w, false) = (k, w, false) := num_put (n := (k : Int)) (oddI_F (by omega)) w
theorem text_put {t : List UInt8} (h : t.length ≤ 1000000000) (w : List UInt8) : textR (textO t ++ w, false) = (t, w, false) := by
  unfold textR textO
  rw [List.append_assoc, num_putL h]
  exact tak_app t w
theorem runs_put : ∀ (Q : Runs) (w : List UInt8), (∀ r ∈ Q, oddI r.1 = false ∧ oddI r.2 = false) → runsR Q.length (runsO Q ++ w, false) = (Q, w, false)
  | [], w, _ => rfl
  | r :: Q, w, h => by
    have h1 := h r (by simp)
    have e : runsO (r :: Q) ++ w = oct4 r.1 ++ (oct4 r.2 ++ (runsO Q ++ w)) := by simp [runsO]
    have i1 := oddI_no h1.1
    have i2 := oddI_no h1.2
    rw [e]
    simp only [List.length_cons, runsR, Bool.false_eq_true, if_false]
    rw [num_put h1.1]
    simp only
    rw [num_put h1.2]
    simp only
    rw [runs_put Q w (fun r hr => h r (by simp [hr]))]
    simp only [Int.toNat_of_nonneg i1.1, Int.toNat_of_nonneg i2.1]
theorem norm_raw {l : LT} (h : Near l) : normB (rawOf l).1 (rawOf l).2 = true := by
  unfold normB rawOf
  simp only [decide_eq_true_eq]
  have := orig_rle (os := l.map (·.2)) (fun o ho => by
    obtain ⟨c, hc, rfl⟩ := List.mem_map.1 ho
    exact h c hc)
  rw [List.length_map] at this ⊢
  rw [this]
theorem str_put {l : LT} (h : Near l) (hl : l.length ≤ 1000000000) (w : List UInt8) : strR (strO l ++ w, false) = (rawOf l, w, false) := by
  have he := near_even h hl
  have hq : (rle (l.map (·.2))).length ≤ l.length := by have := rle_len (l.map (·.2)); rwa [List.length_map] at this
  have ht : (txt l).length = l.length := txt_length l
  have e : strO l ++ w = textO (txt l) ++ (oct4 (rle (l.map (·.2))).length ++ (runsO (rle (l.map (·.2))) ++ w)) := by unfold strO; simp
  have hn := norm_raw h
  rw [e]
  unfold strR
  simp only
  rw [text_put (by omega)]
  simp only
  rw [num_putL (by omega)]
  simp only
  rw [runs_put _ _ he]
  simp only
  rw [if_neg (by
    intro hc
    rcases hc with hc | hc
    · cases hc
    · have : normB (txt l) (rle (l.map (·.2))) = true := hn
      rw [this] at hc; cases hc)]
  rfl
theorem hook_put {h : Int × Bool × Int} (h1 : oddI h.1 = false) (h2 : oddI h.2.2 = false) (w : List UInt8) : hookR (numsO (hookNs h) ++ w, false) = (h, w, false) := by
  obtain ⟨ev, cp, nm⟩ := h
  have e : numsO (hookNs (ev, cp, nm)) ++ w = oct4 ev ++ (oct4 (capI cp) ++ (oct4 nm ++ w)) := by simp [numsO, hookNs]
  have hc : oddI (capI cp) = false := by cases cp <;> rfl
  have i1 := oddI_no h1
  have i2 := oddI_no h2
  simp only at h1 h2 i1 i2
  rw [e]
  unfold hookR
  simp only
  rw [num_put h1]
  simp only
  rw [num_put hc]
  simp only
  rw [num_put h2]
  simp only [Int.toNat_of_nonneg i1.1, Int.toNat_of_nonneg i2.1]
  cases cp <;> rfl
theorem hooks_put : ∀ (hs : List (Int × Bool × Int)) (w : List UInt8), (hs.any fun h => oddI h.1 || oddI h.2.2) = false → hooksR hs.length (hooksO hs ++ w, false) = (hs, w, false)
  | [], w, _ => rfl
  | h :: hs, w, k => by
    rw [List.any_cons, Bool.or_eq_false_iff] at k
    have k1 := Bool.or_eq_false_iff.1 k.1
    have e : hooksO (h :: hs) ++ w = numsO (hookNs h) ++ (hooksO hs ++ w) := by simp [hooksO]
    rw [e]
    simp only [List.length_cons, hooksR, Bool.false_eq_true, if_false]
    rw [hook_put k1.1 k1.2]
    simp only
    rw [hooks_put hs w k.2]

/-- A patch whose strings' runs are as they must be. -/
def normP (p : Pat) : Pat := { p with tag := rawOf (labR p.tag), name := rawOf (labR p.name), value := rawOf (labR p.value), text := rawOf (labR p.text) }

theorem pat_put {p : Pat} (hp : PTiny p) (hk : kindOk p = true) (ho : patOdd p = false) (w : List UInt8) : patR (patO p ++ w, false) = (normP p, w, false) := by
  unfold patOdd at ho
  rw [Bool.or_eq_false_iff] at ho
  have h5 := ho.1
  simp only [five, List.any_cons, List.any_nil, Bool.or_false, Bool.or_eq_false_iff] at h5
  have hkk : 1 ≤ p.op ∧ p.op ≤ 7 := by unfold kindOk at hk; simpa using hk
  have e : patO p ++ w = opO p.op ++ (oct4 p.node ++ (oct4 p.parent ++ (oct4 p.at_ ++ (oct4 p.kind ++ (oct4 p.slot ++ (textO p.key ++ (strO (labR p.tag) ++ (strO (labR p.name) ++ (strO (labR p.value) ++ (strO (labR p.text) ++ (oct4 p.hooks.length ++ (hooksO p.hooks ++ w)))))))))))) := by
    simp [patO, numsO, five, strsO, four]
  have t1 := hp.str p.tag (by simp [four])
  have t2 := hp.str p.name (by simp [four])
  have t3 := hp.str p.value (by simp [four])
  have t4 := hp.str p.text (by simp [four])
  have hkey := hp.key
  have hhk := hp.hooks
  have s1 := fun w => str_put (l := labR p.tag) (lab_near _ _) (by unfold labR; rw [lab_length]; omega) w
  have s2 := fun w => str_put (l := labR p.name) (lab_near _ _) (by unfold labR; rw [lab_length]; omega) w
  have s3 := fun w => str_put (l := labR p.value) (lab_near _ _) (by unfold labR; rw [lab_length]; omega) w
  have s4 := fun w => str_put (l := labR p.text) (lab_near _ _) (by unfold labR; rw [lab_length]; omega) w
  have ht : tak 1 (opO p.op ++ (oct4 p.node ++ (oct4 p.parent ++ (oct4 p.at_ ++ (oct4 p.kind ++ (oct4 p.slot ++ (textO p.key ++ (strO (labR p.tag) ++ (strO (labR p.name) ++ (strO (labR p.value) ++ (strO (labR p.text) ++ (oct4 p.hooks.length ++ (hooksO p.hooks ++ w)))))))))))), false) = (opO p.op, _, false) := tak_app (opO p.op) _
  have hop : opB (opO p.op) = p.op := by
    show ((UInt8.ofNat (p.op % 256).toNat).toNat : Int) = p.op
    rw [UInt8.toNat_ofNat']; omega
  rw [e]
  unfold patR
  simp only
  rw [ht]
  simp only
  rw [num_put h5.1]
  simp only
  rw [num_put h5.2.1]
  simp only
  rw [num_put h5.2.2.1]
  simp only
  rw [num_put h5.2.2.2.1]
  simp only
  rw [num_put h5.2.2.2.2]
  simp only
  rw [text_put (by omega)]
  simp only
  rw [s1]
  simp only
  rw [s2]
  simp only
  rw [s3]
  simp only
  rw [s4]
  simp only
  rw [num_putL (by omega)]
  simp only
  rw [hooks_put _ _ ho.2]
  simp only [hop]
  have i1 := (oddI_no h5.1).1
  have i2 := (oddI_no h5.2.1).1
  have i3 := (oddI_no h5.2.2.1).1
  have i4 := (oddI_no h5.2.2.2.1).1
  have i5 := (oddI_no h5.2.2.2.2).1
  simp only [Int.toNat_of_nonneg i1, Int.toNat_of_nonneg i2, Int.toNat_of_nonneg i3, Int.toNat_of_nonneg i4, Int.toNat_of_nonneg i5]
  have d : (false || decide (p.op < 1) || decide (7 < p.op)) = false := by simp; omega
  rw [d]
  rfl
end Go.Proofs.VL

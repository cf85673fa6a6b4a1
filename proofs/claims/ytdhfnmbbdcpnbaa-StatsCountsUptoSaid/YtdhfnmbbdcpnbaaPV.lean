/- Contracts of functions of the program, for what calls them, and the law that its name tells. -/
import Derived.Test.YtdhfnmbbdcpnbaaAR
namespace Go.Proofs.VL
open Go Go.RowKit
set_option linter.unusedSimpArgs false
set_option linter.unusedVariables false

/-! ### views -/
inductive Vw where
  | mk (kind : Int) (tag : List UInt8 × Runs) (key : List UInt8) (attrs : List ((List UInt8 × Runs) × (List UInt8 × Runs))) (hooks : List (Int × Bool × Int)) (kids : List Vw) (text : List UInt8 × Runs) (slot : Int)

namespace Vw
def kind : Vw → Int | .mk k _ _ _ _ _ _ _ => k
def tag : Vw → List UInt8 × Runs | .mk _ t _ _ _ _ _ _ => t
def key : Vw → List UInt8 | .mk _ _ k _ _ _ _ _ => k
def attrs : Vw → List ((List UInt8 × Runs) × (List UInt8 × Runs)) | .mk _ _ _ a _ _ _ _ => a
def hooks : Vw → List (Int × Bool × Int) | .mk _ _ _ _ h _ _ _ => h
def kids : Vw → List Vw | .mk _ _ _ _ _ k _ _ => k
def text : Vw → List UInt8 × Runs | .mk _ _ _ _ _ _ t _ => t
def slot : Vw → Int | .mk _ _ _ _ _ _ _ s => s
end Vw

mutual
def vCells : Vw → List V
  | .mk k t ky a h kids tx s => [.int .i64 k, .str t.1, .sl 2 (rws t.2), .str ky, .sl 4 (aRows a), .sl 3 (hRows h), .sl 10 (vRows kids), .str tx.1, .sl 2 (rws tx.2), .int .i64 s]
def vRows : List Vw → List (List V)
  | [] => []
  | v :: l => vCells v :: vRows l
end

theorem vRows_map : ∀ l : List Vw, vRows l = l.map vCells
  | [] => rfl
  | v :: l => by rw [vRows, vRows_map l]; rfl
theorem vRows_length (l : List Vw) : (vRows l).length = l.length := by rw [vRows_map]; simp
theorem vRows_get (l : List Vw) (i : Nat) : (vRows l)[i]? = (l[i]?).map vCells := by rw [vRows_map]; simp
theorem vc_len (v : Vw) : (vCells v).length = 10 := by cases v; rfl
theorem vc_kind (v : Vw) : (vCells v)[0]? = some (.int .i64 v.kind) := by cases v; rfl
theorem vc_tag (v : Vw) : List.take 2 (List.drop 1 (vCells v)) = [.str v.tag.1, .sl 2 (rws v.tag.2)] := by cases v; rfl
theorem vc_key (v : Vw) : (vCells v)[3]? = some (.str v.key) := by cases v; rfl
theorem vc_attrs (v : Vw) : (vCells v)[4]? = some (.sl 4 (aRows v.attrs)) := by cases v; rfl
theorem vc_hooks (v : Vw) : (vCells v)[5]? = some (.sl 3 (hRows v.hooks)) := by cases v; rfl
theorem vc_kids (v : Vw) : (vCells v)[6]? = some (.sl 10 (vRows v.kids)) := by cases v; rfl
theorem vc_text (v : Vw) : List.take 2 (List.drop 7 (vCells v)) = [.str v.text.1, .sl 2 (rws v.text.2)] := by cases v; rfl
theorem vc_slot (v : Vw) : (vCells v)[9]? = some (.int .i64 v.slot) := by cases v; rfl
theorem vc_take (v : Vw) : List.take 10 (vCells v) = vCells v := by cases v; rfl
theorem vc_free (v : Vw) : (vCells v).all idFree = true := by cases v; rfl
theorem vc_cell (v : Vw) : (vCells v).all VO.evW.isCell = true := by cases v; rfl
theorem vc_put (v : Vw) : putCells [.int .i64 0, .str [], .nils, .str [], .nils, .nils, .nils, .str [], .nils, .int .i64 0] 0 (vCells v) = vCells v := by cases v; rfl
theorem VCp : (((∀ v : Vw, (vCells v).length = 10) ∧ (∀ v : Vw, (vCells v)[0]? = some (.int .i64 v.kind)) ∧ (∀ v : Vw, List.take 2 (List.drop 1 (vCells v)) = [.str v.tag.1, .sl 2 (rws v.tag.2)])) ∧ ((∀ v : Vw, (vCells v)[3]? = some (.str v.key)) ∧ (∀ v : Vw, (vCells v)[4]? = some (.sl 4 (aRows v.attrs))) ∧ (∀ v : Vw, (vCells v)[5]? = some (.sl 3 (hRows v.hooks))))) ∧ (((∀ v : Vw, (vCells v)[6]? = some (.sl 10 (vRows v.kids))) ∧ (∀ v : Vw, List.take 2 (List.drop 7 (vCells v)) = [.str v.text.1, .sl 2 (rws v.text.2)]) ∧ (∀ v : Vw, (vCells v)[9]? = some (.int .i64 v.slot))) ∧ ((∀ v : Vw, List.take 10 (vCells v) = vCells v) ∧ (∀ v : Vw, (vCells v).all idFree = true) ∧ (∀ v : Vw, (vCells v).all VO.evW.isCell = true) ∧ (∀ v : Vw, putCells [.int .i64 0, .str [], .nils, .str [], .nils, .nils, .nils, .str [], .nils, .int .i64 0] 0 (vCells v) = vCells v))) :=
  ⟨⟨⟨vc_len, vc_kind, vc_tag⟩, vc_key, vc_attrs, vc_hooks⟩, ⟨vc_kids, vc_text, vc_slot⟩, vc_take, vc_free, vc_cell, vc_put⟩

/-! ### what may be shown -/
/-- What stands in a view. -/
def innerV (v : Vw) : List Vw := if v.kind = 3 ∨ v.kind = 2 then [] else v.kids

theorem sizeOf_mem {l : List Vw} {v : Vw} (h : v ∈ l) : SizeOf.sizeOf v < SizeOf.sizeOf l := by
  induction l with
  | nil => cases h
  | cons x l ih =>
    rcases List.mem_cons.1 h with rfl | h
    · simp; omega
    · have := ih h; simp; omega
theorem innerV_lt {l : List Vw} {v : Vw} (h : v ∈ l) : SizeOf.sizeOf (innerV v) < SizeOf.sizeOf l := by
  have h1 := sizeOf_mem h
  have h2 : SizeOf.sizeOf (innerV v) < SizeOf.sizeOf v ∨ innerV v = [] := by
    unfold innerV
    split
    · exact .inr rfl
    · left
      cases v
      simp [Vw.kids]; omega
  rcases h2 with h2 | h2
  · omega
  · rw [h2]
    cases l with
    | nil => cases h
    | cons x l => simp; have : 0 < SizeOf.sizeOf x := by { cases x; simp; omega }; omega

mutual
def depthV1 : Vw → Nat
  | .mk k _ _ _ _ kids _ _ => (if k = 3 ∨ k = 2 then 0 else depthV kids) + (if k = 1 ∨ k = 3 then 1 else 0)
def depthV : List Vw → Nat
  | [] => 0
  | v :: l => max (depthV1 v) (depthV l)
end
mutual
def sizeV1 : Vw → Nat
  | .mk k _ _ _ _ kids _ _ => 1 + (if k = 3 ∨ k = 2 then 0 else sizeV kids)
def sizeV : List Vw → Nat
  | [] => 0
  | v :: l => sizeV1 v + sizeV l
end
mutual
def slotsV1 : Vw → List Int
  | .mk k _ _ _ _ kids _ s => (if k = 3 then [s] else []) ++ (if k = 3 ∨ k = 2 then [] else slotsV kids)
def slotsV : List Vw → List Int
  | [] => []
  | v :: l => slotsV1 v ++ slotsV l
end
/-- Does a key that is not empty stand there twice? (behind some) -/
def twiceK (met : List (List UInt8)) : List Vw → Bool
  | [] => false
  | v :: l => (decide (v.key ∈ met) && decide (v.key ≠ [])) || twiceK (met ++ [v.key]) l
mutual
def apartV1 : Vw → Bool
  | .mk k _ _ _ _ kids _ _ => if k = 3 ∨ k = 2 then true else (!twiceK [] kids && apartVs kids)
def apartVs : List Vw → Bool
  | [] => true
  | v :: l => apartV1 v && apartVs l
end
def apartV (l : List Vw) : Bool := !twiceK [] l && apartVs l
mutual
def someV1 (p : Vw → Bool) : Vw → Bool
  | .mk k t ky a h kids tx s => p (.mk k t ky a h kids tx s) || (if k = 3 ∨ k = 2 then false else someV p kids)
def someV (p : Vw → Bool) : List Vw → Bool
  | [] => false
  | v :: l => someV1 p v || someV p l
end
def oddS (s : List UInt8 × Runs) : Bool := decide (4096 < s.1.length)
def longV (v : Vw) : Bool := oddS v.tag || oddS v.text || decide (32 < v.key.length) || v.attrs.any fun a => oddS a.1 || oddS a.2
def manyV (v : Vw) : Bool := decide (8 < v.attrs.length) || decide (8 < v.hooks.length)

mutual
def cntV1 : Vw → Nat
  | .mk _ _ _ a _ kids _ _ => 1 + a.length + cntV kids
def cntV : List Vw → Nat
  | [] => 0
  | v :: l => cntV1 v + cntV l
end
theorem cnt_len : ∀ l : List Vw, l.length ≤ cntV l
  | [] => Nat.le_refl _
  | v :: l => by
    have := cnt_len l
    cases v
    simp only [List.length_cons, cntV, cntV1]; omega
theorem cnt_mem : ∀ {l : List Vw} {v : Vw}, v ∈ l → cntV1 v ≤ cntV l
  | x :: l, v, h => by
    rw [cntV]
    rcases List.mem_cons.1 h with rfl | h
    · omega
    · have := cnt_mem h; omega
theorem cnt_inner (v : Vw) : cntV (innerV v) + v.attrs.length + 1 ≤ cntV1 v := by
  cases v with
  | mk k t ky a h kids tx s =>
    show cntV (if k = 3 ∨ k = 2 then [] else kids) + a.length + 1 ≤ 1 + a.length + cntV kids
    split
    · simp only [cntV]; omega
    · omega
theorem depthV1_eq (v : Vw) : depthV1 v = depthV (innerV v) + (if v.kind = 1 ∨ v.kind = 3 then 1 else 0) := by
  cases v with
  | mk k t ky a h kids tx s =>
    show (if k = 3 ∨ k = 2 then 0 else depthV kids) + (if k = 1 ∨ k = 3 then 1 else 0) = depthV (if k = 3 ∨ k = 2 then [] else kids) + (if k = 1 ∨ k = 3 then 1 else 0)
    by_cases hk : k = 3 ∨ k = 2
    · rw [if_pos hk, if_pos hk]; rfl
    · rw [if_neg hk, if_neg hk]
theorem sizeV1_eq (v : Vw) : sizeV1 v = 1 + sizeV (innerV v) := by
  cases v with
  | mk k t ky a h kids tx s =>
    show 1 + (if k = 3 ∨ k = 2 then 0 else sizeV kids) = 1 + sizeV (if k = 3 ∨ k = 2 then [] else kids)
    by_cases hk : k = 3 ∨ k = 2
    · rw [if_pos hk, if_pos hk]; rfl
    · rw [if_neg hk, if_neg hk]
theorem slotsV1_eq (v : Vw) : slotsV1 v = (if v.kind = 3 then [v.slot] else []) ++ slotsV (innerV v) := by
  cases v with
  | mk k t ky a h kids tx s =>
    show (if k = 3 then [s] else []) ++ (if k = 3 ∨ k = 2 then [] else slotsV kids) = (if k = 3 then [s] else []) ++ slotsV (if k = 3 ∨ k = 2 then [] else kids)
    by_cases hk : k = 3 ∨ k = 2
    · rw [if_pos hk, if_pos hk]; rfl
    · rw [if_neg hk, if_neg hk]
theorem apartV1_eq (v : Vw) : apartV1 v = apartV (innerV v) := by
  cases v with
  | mk k t ky a h kids tx s =>
    show (if k = 3 ∨ k = 2 then true else (!twiceK [] kids && apartVs kids)) = apartV (if k = 3 ∨ k = 2 then [] else kids)
    by_cases hk : k = 3 ∨ k = 2
    · rw [if_pos hk, if_pos hk]; rfl
    · rw [if_neg hk, if_neg hk]; rfl
theorem someV1_eq (p : Vw → Bool) (v : Vw) : someV1 p v = (p v || someV p (innerV v)) := by
  cases v with
  | mk k t ky a h kids tx s =>
    show (p _ || (if k = 3 ∨ k = 2 then false else someV p kids)) = (p _ || someV p (if k = 3 ∨ k = 2 then [] else kids))
    by_cases hk : k = 3 ∨ k = 2
    · rw [if_pos hk, if_pos hk]; rfl
    · rw [if_neg hk, if_neg hk]
end Go.Proofs.VL

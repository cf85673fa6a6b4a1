/- Contracts of functions of the program, for what calls them, and the law that its name tells. -/
import Derived.Test.YtdhfnmbbdcpnbaaV3
import Derived.Test.YtdhfnmbbdcpnbaaPV
import Derived.KernelRfl
import Derived.Test.YtdhfnmbbdcpnbaaRows
namespace Go.Proofs.VL
open Go Go.RowKit Go.WideShapes Go.ChangeShapes Go.ChangeAt
set_option maxRecDepth 100000
set_option linter.unusedSimpArgs false
set_option linter.unusedVariables false

theorem lo : laidOutB Try.prog = true := by kernel_rfl
theorem mr : mapsRowed Try.prog = true := by kernel_rfl
theorem slb : slicesB Try.prog = true := by kernel_rfl
theorem own : ownKnob Try.prog.godebug = none := by kernel_rfl
theorem und_int : Try.prog.underlying 3 = some (.int .i64) := by kernel_rfl
theorem und_string : Try.prog.underlying 9 = some .string := by kernel_rfl
theorem und_bool : Try.prog.underlying 4 = some .bool := by kernel_rfl

theorem arg_one {t : TypeId} (h : aggB Try.prog t = false) (x : V) : argV Try.prog t [x] = x := by unfold argV; rw [h]; rfl
theorem arg_int (x : V) : argV Try.prog 3 [x] = x := arg_one (by kernel_rfl) x
theorem arg_string (x : V) : argV Try.prog 9 [x] = x := arg_one (by kernel_rfl) x

mutual
theorem bulk_eq {H : Type} : (d : DataW H) → Go.Proofs.Ytdhfnmbbdcpnbaa.Rows.uptoBulk d = bulkD d
  | .lit l => by cases l <;> simp [Go.Proofs.Ytdhfnmbbdcpnbaa.Rows.uptoBulk, bulkD]
  | .nil => by simp [Go.Proofs.Ytdhfnmbbdcpnbaa.Rows.uptoBulk, bulkD]
  | .ptr d => by simp [Go.Proofs.Ytdhfnmbbdcpnbaa.Rows.uptoBulk, bulkD, bulk_eq d]
  | .slice a b => by simp [Go.Proofs.Ytdhfnmbbdcpnbaa.Rows.uptoBulk, bulkD, bulkL_eq a, bulkL_eq b]
  | .agg a => by simp [Go.Proofs.Ytdhfnmbbdcpnbaa.Rows.uptoBulk, bulkD, bulkL_eq a]
  | .iface _ d => by simp [Go.Proofs.Ytdhfnmbbdcpnbaa.Rows.uptoBulk, bulkD, bulk_eq d]
  | .map e => by simp [Go.Proofs.Ytdhfnmbbdcpnbaa.Rows.uptoBulk, bulkD, bulkE_eq e]
  | .held _ => by simp [Go.Proofs.Ytdhfnmbbdcpnbaa.Rows.uptoBulk, bulkD]
theorem bulkL_eq {H : Type} : (l : List (DataW H)) → Go.Proofs.Ytdhfnmbbdcpnbaa.Rows.uptoBulkAll l = bulkL l
  | [] => rfl
  | d :: l => by simp [Go.Proofs.Ytdhfnmbbdcpnbaa.Rows.uptoBulkAll, bulkL, bulk_eq d, bulkL_eq l]
theorem bulkE_eq {H : Type} : (l : List (Lit × DataW H)) → Go.Proofs.Ytdhfnmbbdcpnbaa.Rows.uptoBulkEntries l = bulkE l
  | [] => rfl
  | d :: l => by simp [Go.Proofs.Ytdhfnmbbdcpnbaa.Rows.uptoBulkEntries, bulkE, bulkP_eq d, bulkE_eq l]
theorem bulkP_eq {H : Type} : (x : Lit × DataW H) → Go.Proofs.Ytdhfnmbbdcpnbaa.Rows.uptoBulkEntry x = bulkP x
  | (l, d) => by cases l <;> simp [Go.Proofs.Ytdhfnmbbdcpnbaa.Rows.uptoBulkEntry, bulkP, bulk_eq d]
end

theorem small_bulk {H : Type} {ds gs : List (DataW H)} (hg : gs = []) (hk : Go.Proofs.Ytdhfnmbbdcpnbaa.Rows.uptoSmall H (ds ++ gs) = true) : bulkL ds ≤ 1048576 := by
  subst hg
  have h := of_decide_eq_true hk
  rw [List.append_nil, bulkL_eq] at h
  exact h

/-- The rows of a slice of structs, each read by a word of its own. -/
theorem ty_rowz {P : Program} {t : TypeId} {α : Type} (g : α → List V) (m : α → Nat → Prop) (h1 : ∀ xs b, Ty P t xs b → 1 ≤ b ∧ ∃ a, xs = g a ∧ m a b) : ∀ (rows : List (List V)) (bs : List Nat), rows.length = bs.length → (∀ (i : Nat) r b, rows[i]? = some r → bs[i]? = some b → Ty P t r b) →
    ∃ as' : List α, rows = as'.map g ∧ as'.length ≤ bs.sum ∧ ∀ a ∈ as', ∃ b, b ≤ bs.sum ∧ m a b
  | [], bs, _, _ => ⟨[], rfl, Nat.zero_le _, fun a h => by simp at h⟩
  | r :: rows, [], hl, _ => by simp at hl
  | r :: rows, b :: bs, hl, hg => by
    obtain ⟨hb, a, rfl, hm⟩ := h1 r b (hg 0 r b rfl rfl)
    obtain ⟨as', rfl, q1, q2⟩ := ty_rowz g m h1 rows bs (by simpa using hl) (fun i r b x y => hg (i + 1) r b (by simpa using x) (by simpa using y))
    refine ⟨a :: as', rfl, by simp; omega, ?_⟩
    intro c hc
    rcases List.mem_cons.1 hc with rfl | hc
    · exact ⟨b, by simp, hm⟩
    · obtain ⟨b', h2, h3⟩ := q2 c hc
      exact ⟨b', by simp; omega, h3⟩


theorem und_errno : Try.prog.underlying 34 = some (.int .i64) := by kernel_rfl
theorem cells_answer : Try.prog.cellsOf 278 = 2 := by kernel_rfl
theorem cells_call : Try.prog.cellsOf 280 = 4 := by kernel_rfl
theorem cells_outcome : Try.prog.cellsOf 38 = 4 := by kernel_rfl
structure Oc where
  code : Int
  p : Int
  ra : List (List V)
  rc : List (List V)
def oCells (o : Oc) : List V := [.int .i64 o.code, .int .i64 o.p, .sl 2 o.ra, .sl 4 o.rc]
def oRows (l : List Oc) : List (List V) := l.map oCells
theorem ty_outcome {xs : List V} {b : Nat} (h : Ty Try.prog 38 xs b) : 1 ≤ b ∧ ∃ o : Oc, xs = oCells o ∧ o.ra.length ≤ b ∧ o.rc.length ≤ b := by
  obtain ⟨xss, bs, rfl, h1, h2, h3, rfl⟩ := h.structI Try.underlying38
  match xss, bs, h1, h2 with
  | [x0, x1, x2, x3], [b0, b1, b2, b3], _, _ =>
    obtain ⟨n0, rfl, _, rfl⟩ := (h3 0 _ _ _ rfl rfl rfl).intI und_errno
    obtain ⟨n1, rfl, _, rfl⟩ := (h3 1 _ _ _ rfl rfl rfl).intI und_int
    obtain ⟨r2, c2, rfl, g1, g2, rfl⟩ := (h3 2 _ _ _ rfl rfl rfl).sliceI Try.underlying35
    obtain ⟨as2, e2, q1, _⟩ := ty_rowz (t := 278) (fun r : List V => r) (fun _ _ => True) (fun xs b h => by
      obtain ⟨xss, bs, rfl, _, _, _, rfl⟩ := h.structI Try.underlying278
      exact ⟨by omega, _, rfl, trivial⟩) r2 c2 g1 g2
    obtain ⟨r3, c3, rfl, g3, g4, rfl⟩ := (h3 3 _ _ _ rfl rfl rfl).sliceI Try.underlying36
    obtain ⟨as3, e3, q2, _⟩ := ty_rowz (t := 280) (fun r : List V => r) (fun _ _ => True) (fun xs b h => by
      obtain ⟨xss, bs, rfl, _, _, _, rfl⟩ := h.structI Try.underlying280
      exact ⟨by omega, _, rfl, trivial⟩) r3 c3 g3 g4
    rw [List.map_id'] at e2 e3
    subst e2; subst e3
    simp only [List.sum_cons, List.sum_nil]
    exact ⟨by omega, ⟨n0, n1, _, _⟩, by rw [cells_answer, cells_call]; rfl, by simp only; omega, by simp only; omega⟩
theorem ty_outcomes {xs : List V} {b : Nat} (h : Ty Try.prog 30 xs b) : ∃ o : List Oc, xs = [.sl 4 (oRows o)] ∧ o.length ≤ b ∧ ∀ x ∈ o, x.ra.length ≤ b ∧ x.rc.length ≤ b := by
  obtain ⟨rows, bs, rfl, h1, h2, rfl⟩ := h.sliceI Try.underlying30
  obtain ⟨o, rfl, q1, q2⟩ := ty_rowz oCells (fun o b => o.ra.length ≤ b ∧ o.rc.length ≤ b) (fun xs b h => ty_outcome h) rows bs h1 h2
  refine ⟨o, by rw [cells_outcome]; rfl, by omega, fun x hx => ?_⟩
  obtain ⟨b', h1, h2, h3⟩ := q2 x hx
  exact ⟨by omega, by omega⟩
theorem arg_outcome (xs : List V) : argV Try.prog 38 xs = .agg xs := if_pos (by kernel_rfl)
end Go.Proofs.VL

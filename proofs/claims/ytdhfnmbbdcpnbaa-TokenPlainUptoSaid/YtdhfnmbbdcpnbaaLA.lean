/- Contracts of functions of the program, for what calls them, and the law that its name tells. -/
import Derived.Test.YtdhfnmbbdcpnbaaV3
import Derived.Test.YtdhfnmbbdcpnbaaSD
import Derived.KernelRfl
import Derived.Test.YtdhfnmbbdcpnbaaRows

namespace Go.Proofs.VL
open Go Go.RowKit Go.WideShapes Go.ChangeShapes Go.ChangeAt
set_option maxRecDepth 100000
set_option linter.unusedSimpArgs false
set_option linter.unusedVariables false

theorem lo : laidOutB Try.prog = true := by kernel_rfl
theorem mr : mapsRowed Try.prog = true := by kernel_rfl
theorem slb : slicesB Try.prog = true := by kernel_rfl
theorem own : ownKnob Try.prog.godebug = none := by kernel_rfl
theorem cells_run : Try.prog.cellsOf 116 = 2 := by kernel_rfl
theorem cells_str : Try.prog.cellsOf 66 = 2 := by kernel_rfl
theorem und_int : Try.prog.underlying 3 = some (.int .i64) := by kernel_rfl
theorem und_string : Try.prog.underlying 9 = some .string := by kernel_rfl
theorem und_bool : Try.prog.underlying 4 = some .bool := by kernel_rfl

/-- The parts of a struct of two fields. -/
theorem Ty.two {P : Program} {t : TypeId} {f0 f1 : Field} {xs : List V} {b : Nat} (h : Ty P t xs b) (hu : P.underlying t = some (.struct #[f0, f1])) : ∃ x0 x1 b0 b1, xs = x0 ++ x1 ∧ Ty P f0.type x0 b0 ∧ Ty P f1.type x1 b1 ∧ b = b0 + b1 + 1 := by
  obtain ⟨xss, bs, rfl, h1, h2, h3, rfl⟩ := h.structI hu
  match xss, bs, h1, h2 with
  | [x0, x1], [b0, b1], _, _ =>
    exact ⟨x0, x1, b0, b1, by simp, h3 0 _ _ _ rfl rfl rfl, h3 1 _ _ _ rfl rfl rfl, by simp⟩

theorem len_le_sum : ∀ {bs : List Nat}, (∀ (i b : Nat), bs[i]? = some b → 1 ≤ b) → bs.length ≤ bs.sum
  | [], _ => Nat.le_refl _
  | b :: bs, h => by
    have h1 := h 0 b rfl
    have h2 := len_le_sum (bs := bs) (fun i b hb => h (i + 1) b (by simpa using hb))
    simp only [List.length_cons, List.sum_cons]; omega

theorem mem_le_sum : ∀ {bs : List Nat} {b : Nat}, b ∈ bs → b ≤ bs.sum
  | b' :: bs, b, h => by
    rcases List.mem_cons.1 h with rfl | h
    · simp
    · have := mem_le_sum h; simp only [List.sum_cons]; omega

theorem ty_run {xs : List V} {b : Nat} (h : Ty Try.prog 116 xs b) : ∃ n o, xs = [.int .i64 n, .int .i64 o] ∧ b = 3 := by
  obtain ⟨x0, x1, b0, b1, rfl, h0, h1, rfl⟩ := h.two Try.underlying116
  obtain ⟨n, rfl, _, rfl⟩ := h0.intI und_int
  obtain ⟨o, rfl, _, rfl⟩ := h1.intI und_int
  exact ⟨n, o, rfl, rfl⟩

theorem ty_runs {xs : List V} {b : Nat} (h : Ty Try.prog 64 xs b) : ∃ rs : Runs, xs = [.sl 2 (rowsOf rs)] ∧ rs.length + 1 ≤ b := by
  obtain ⟨rows, bs, rfl, h1, h2, rfl⟩ := h.sliceI Try.underlying64
  have : ∀ (rows : List (List V)) (bs : List Nat), rows.length = bs.length → (∀ (i : Nat) r b, rows[i]? = some r → bs[i]? = some b → Ty Try.prog 116 r b) → ∃ rs : Runs, rows = rowsOf rs ∧ rs.length ≤ bs.sum := by
    intro rows
    induction rows with
    | nil => intro bs _ _; exact ⟨[], rfl, Nat.zero_le _⟩
    | cons r rows ih =>
      intro bs hl hg
      cases bs with
      | nil => simp at hl
      | cons b bs =>
        obtain ⟨n, o, rfl, hb⟩ := ty_run (hg 0 r b rfl rfl)
        obtain ⟨rs, rfl, hs⟩ := ih bs (by simpa using hl) (fun i r b a c => hg (i + 1) r b (by simpa using a) (by simpa using c))
        refine ⟨(n, o) :: rs, by simp [rowsOf], ?_⟩
        simp only [List.length_cons, List.sum_cons]; omega
  obtain ⟨rs, rfl, hs⟩ := this rows bs h1 h2
  exact ⟨rs, by rw [cells_run], by omega⟩

theorem ty_str {xs : List V} {b : Nat} (h : Ty Try.prog 66 xs b) : ∃ t rs, xs = [.str t, .sl 2 (rowsOf rs)] ∧ t.length + rs.length + 1 ≤ b := by
  obtain ⟨x0, x1, b0, b1, rfl, h0, h1, rfl⟩ := h.two Try.underlying66
  obtain ⟨t, rfl, rfl⟩ := h0.strI und_string
  obtain ⟨rs, rfl, hr⟩ := ty_runs h1
  exact ⟨t, rs, rfl, by omega⟩

theorem ty_strs {xs : List V} {b : Nat} (h : Ty Try.prog 102 xs b) : ∃ ss : List Raw, xs = [.sl 2 (rawRows ss)] ∧ ss.length ≤ b ∧ (catT ss).length ≤ b ∧ ∀ s ∈ ss, s.1.length + s.2.length ≤ b := by
  obtain ⟨rows, bs, rfl, h1, h2, rfl⟩ := h.sliceI Try.underlying102
  have : ∀ (rows : List (List V)) (bs : List Nat), rows.length = bs.length → (∀ (i : Nat) r b, rows[i]? = some r → bs[i]? = some b → Ty Try.prog 66 r b) → ∃ ss : List Raw, rows = rawRows ss ∧ ss.length ≤ bs.sum ∧ (catT ss).length ≤ bs.sum ∧ ∀ s ∈ ss, s.1.length + s.2.length ≤ bs.sum := by
    intro rows
    induction rows with
    | nil => intro bs _ _; exact ⟨[], rfl, Nat.zero_le _, Nat.zero_le _, fun s h => by simp at h⟩
    | cons r rows ih =>
      intro bs hl hg
      cases bs with
      | nil => simp at hl
      | cons b bs =>
        obtain ⟨t, rs, rfl, hb⟩ := ty_str (hg 0 r b rfl rfl)
        obtain ⟨ss, rfl, g1, g2, g3⟩ := ih bs (by simpa using hl) (fun i r b a c => hg (i + 1) r b (by simpa using a) (by simpa using c))
        refine ⟨(t, rs) :: ss, by simp [rawRows], by simp; omega, ?_, ?_⟩
        · simp only [catT, List.flatMap_cons, List.length_append, List.sum_cons] at g2 ⊢; omega
        · intro s hs
          simp only [List.sum_cons]
          rcases List.mem_cons.1 hs with rfl | hs
          · simp only; omega
          · have := g3 s hs; omega
  obtain ⟨ss, rfl, g1, g2, g3⟩ := this rows bs h1 h2
  exact ⟨ss, by rw [cells_str], by omega, by omega, fun s hs => by have := g3 s hs; omega⟩

theorem arg_str (xs : List V) : argV Try.prog 66 xs = .agg xs := if_pos (by kernel_rfl)
theorem arg_one {t : TypeId} (h : aggB Try.prog t = false) (x : V) : argV Try.prog t [x] = x := by unfold argV; rw [h]; rfl
theorem arg_strs (x : V) : argV Try.prog 102 [x] = x := arg_one (by kernel_rfl) x
theorem arg_int (x : V) : argV Try.prog 3 [x] = x := arg_one (by kernel_rfl) x
theorem arg_string (x : V) : argV Try.prog 9 [x] = x := arg_one (by kernel_rfl) x

mutual
theorem bulk_eq {H : Type} : (d : DataW H) → Go.Proofs.Ytdhfnmbbdcpnbaa.Rows.uptoBulk d = bulkD d
  | .lit l => by cases l <;> simp [Go.Proofs.Ytdhfnmbbdcpnbaa.Rows.uptoBulk, bulkD]
  | .nil => by simp [Go.Proofs.Ytdhfnmbbdcpnbaa.Rows.uptoBulk, bulkD]
  | .ptr d => by simp [Go.Proofs.Ytdhfnmbbdcpnbaa.Rows.uptoBulk, bulkD, bulk_eq d]
  | .slice a b => by simp [Go.Proofs.Ytdhfnmbbdcpnbaa.Rows.uptoBulk, bulkD, bulkL_eq a, bulkL_eq b]
  | .agg a => by simp [Go.Proofs.Ytdhfnmbbdcpnbaa.Rows.uptoBulk, bulkD, bulkL_eq a]
  | .iface _ d => by simp [Go.Proofs.Ytdhfnmbbdcpnbaa.Rows.uptoBulk, bulkD, bulk_eq d]
  | .map e => by simp [Go.Proofs.Ytdhfnmbbdcpnbaa.Rows.uptoBulk, bulkD, bulkE_eq e]
  | .held _ => by simp [Go.Proofs.Ytdhfnmbbdcpnbaa.Rows.uptoBulk, bulkD]
theorem bulkL_eq {H : Type} : (l : List (DataW H)) → Go.Proofs.Ytdhfnmbbdcpnbaa.Rows.uptoBulkAll l = bulkL l
  | [] => rfl
  | d :: l => by simp [Go.Proofs.Ytdhfnmbbdcpnbaa.Rows.uptoBulkAll, bulkL, bulk_eq d, bulkL_eq l]
theorem bulkE_eq {H : Type} : (l : List (Lit × DataW H)) → Go.Proofs.Ytdhfnmbbdcpnbaa.Rows.uptoBulkEntries l = bulkE l
  | [] => rfl
  | d :: l => by simp [Go.Proofs.Ytdhfnmbbdcpnbaa.Rows.uptoBulkEntries, bulkE, bulkP_eq d, bulkE_eq l]
theorem bulkP_eq {H : Type} : (x : Lit × DataW H) → Go.Proofs.Ytdhfnmbbdcpnbaa.Rows.uptoBulkEntry x = bulkP x
  | (l, d) => by cases l <;> simp [Go.Proofs.Ytdhfnmbbdcpnbaa.Rows.uptoBulkEntry, bulkP, bulk_eq d]
end

theorem small_bulk {H : Type} {ds gs : List (DataW H)} (hg : gs = []) (hk : Go.Proofs.Ytdhfnmbbdcpnbaa.Rows.uptoSmall H (ds ++ gs) = true) : bulkL ds ≤ 1048576 := by
  subst hg
  have h := of_decide_eq_true hk
  rw [List.append_nil, bulkL_eq] at h
  exact h
end Go.Proofs.VL

/- Contracts of functions of the program, for what calls them, and the law that its name tells. -/
import Derived.Test.YthlmgkfipbphmaaGreatV3
import Derived.Test.YthlmgkfipbphmaaGreatPV
import Derived.KernelRfl
import Derived.Test.YthlmgkfipbphmaaGreatRows
namespace Go.Proofs.VL
open Go Go.RowKit Go.WideShapes Go.ChangeShapes Go.ChangeAt
set_option maxRecDepth 100000
set_option linter.unusedSimpArgs false
set_option linter.unusedVariables false

theorem lo : laidOutB Tryz.prog = true := by kernel_rfl
theorem mr : mapsRowed Tryz.prog = true := by kernel_rfl
theorem slb : slicesB Tryz.prog = true := by kernel_rfl
theorem own : ownKnob Tryz.prog.godebug = none := by kernel_rfl
theorem cells_run : Tryz.prog.cellsOf 188 = 2 := by kernel_rfl
theorem cells_str : Tryz.prog.cellsOf 34 = 2 := by kernel_rfl
theorem und_int : Tryz.prog.underlying 3 = some (.int .i64) := by kernel_rfl
theorem und_string : Tryz.prog.underlying 9 = some .string := by kernel_rfl
theorem und_bool : Tryz.prog.underlying 4 = some .bool := by kernel_rfl

/-- The parts of a struct of two fields. -/
theorem Ty.two {P : Program} {t : TypeId} {f0 f1 : Field} {xs : List V} {b : Nat} (h : Ty P t xs b) (hu : P.underlying t = some (.struct #[f0, f1])) : ∃ x0 x1 b0 b1, xs = x0 ++ x1 ∧ Ty P f0.type x0 b0 ∧ Ty P f1.type x1 b1 ∧ b = b0 + b1 + 1 := by
  obtain ⟨xss, bs, rfl, h1, h2, h3, rfl⟩ := h.structI hu
  match xss, bs, h1, h2 with
  | [x0, x1], [b0, b1], _, _ =>
    exact ⟨x0, x1, b0, b1, by simp, h3 0 _ _ _ rfl rfl rfl, h3 1 _ _ _ rfl rfl rfl, by simp⟩

theorem len_le_sum : ∀ {bs : List Nat}, (∀ (i b : Nat), bs[i]? = some b → 1 ≤ b) → bs.length ≤ bs.sum
  | [], _ => Nat.le_refl _
  | b :: bs, h => by
    have h1 := h 0 b rfl
    have h2 := len_le_sum (bs := bs) (fun i b hb => h (i + 1) b (by simpa using hb))
    simp only [List.length_cons, List.sum_cons]; omega

theorem mem_le_sum : ∀ {bs : List Nat} {b : Nat}, b ∈ bs → b ≤ bs.sum
  | b' :: bs, b, h => by
    rcases List.mem_cons.1 h with rfl | h
    · simp
    · have := mem_le_sum h; simp only [List.sum_cons]; omega

theorem ty_run {xs : List V} {b : Nat} (h : Ty Tryz.prog 188 xs b) : ∃ n o, xs = [.int .i64 n, .int .i64 o] ∧ b = 3 := by
  obtain ⟨x0, x1, b0, b1, rfl, h0, h1, rfl⟩ := h.two Tryz.underlying188
  obtain ⟨n, rfl, _, rfl⟩ := h0.intI und_int
  obtain ⟨o, rfl, _, rfl⟩ := h1.intI und_int
  exact ⟨n, o, rfl, rfl⟩

theorem ty_runs {xs : List V} {b : Nat} (h : Ty Tryz.prog 32 xs b) : ∃ rs : Runs, xs = [.sl 2 (rws rs)] ∧ rs.length + 1 ≤ b := by
  obtain ⟨rows, bs, rfl, h1, h2, rfl⟩ := h.sliceI Tryz.underlying32
  have : ∀ (rows : List (List V)) (bs : List Nat), rows.length = bs.length → (∀ (i : Nat) r b, rows[i]? = some r → bs[i]? = some b → Ty Tryz.prog 188 r b) → ∃ rs : Runs, rows = rws rs ∧ rs.length ≤ bs.sum := by
    intro rows
    induction rows with
    | nil => intro bs _ _; exact ⟨[], rfl, Nat.zero_le _⟩
    | cons r rows ih =>
      intro bs hl hg
      cases bs with
      | nil => simp at hl
      | cons b bs =>
        obtain ⟨n, o, rfl, hb⟩ := ty_run (hg 0 r b rfl rfl)
        obtain ⟨rs, rfl, hs⟩ := ih bs (by simpa using hl) (fun i r b a c => hg (i + 1) r b (by simpa using a) (by simpa using c))
        refine ⟨(n, o) :: rs, by simp [rws], ?_⟩
        simp only [List.length_cons, List.sum_cons]; omega
  obtain ⟨rs, rfl, hs⟩ := this rows bs h1 h2
  exact ⟨rs, by rw [cells_run], by omega⟩

theorem ty_str {xs : List V} {b : Nat} (h : Ty Tryz.prog 34 xs b) : ∃ t rs, xs = [.str t, .sl 2 (rws rs)] ∧ t.length + rs.length + 1 ≤ b := by
  obtain ⟨x0, x1, b0, b1, rfl, h0, h1, rfl⟩ := h.two Tryz.underlying34
  obtain ⟨t, rfl, rfl⟩ := h0.strI und_string
  obtain ⟨rs, rfl, hr⟩ := ty_runs h1
  exact ⟨t, rs, rfl, by omega⟩

theorem arg_str (xs : List V) : argV Tryz.prog 34 xs = .agg xs := if_pos (by kernel_rfl)
theorem arg_one {t : TypeId} (h : aggB Tryz.prog t = false) (x : V) : argV Tryz.prog t [x] = x := by unfold argV; rw [h]; rfl
theorem arg_int (x : V) : argV Tryz.prog 3 [x] = x := arg_one (by kernel_rfl) x
theorem arg_string (x : V) : argV Tryz.prog 9 [x] = x := arg_one (by kernel_rfl) x

mutual
theorem bulk_eq {H : Type} : (d : DataW H) → Go.Proofs.YthlmgkfipbphmaaGreat.Rows.uptoBulk d = bulkD d
  | .lit l => by cases l <;> simp [Go.Proofs.YthlmgkfipbphmaaGreat.Rows.uptoBulk, bulkD]
  | .nil => by simp [Go.Proofs.YthlmgkfipbphmaaGreat.Rows.uptoBulk, bulkD]
  | .ptr d => by simp [Go.Proofs.YthlmgkfipbphmaaGreat.Rows.uptoBulk, bulkD, bulk_eq d]
  | .slice a b => by simp [Go.Proofs.YthlmgkfipbphmaaGreat.Rows.uptoBulk, bulkD, bulkL_eq a, bulkL_eq b]
  | .agg a => by simp [Go.Proofs.YthlmgkfipbphmaaGreat.Rows.uptoBulk, bulkD, bulkL_eq a]
  | .iface _ d => by simp [Go.Proofs.YthlmgkfipbphmaaGreat.Rows.uptoBulk, bulkD, bulk_eq d]
  | .map e => by simp [Go.Proofs.YthlmgkfipbphmaaGreat.Rows.uptoBulk, bulkD, bulkE_eq e]
  | .held _ => by simp [Go.Proofs.YthlmgkfipbphmaaGreat.Rows.uptoBulk, bulkD]
theorem bulkL_eq {H : Type} : (l : List (DataW H)) → Go.Proofs.YthlmgkfipbphmaaGreat.Rows.uptoBulkAll l = bulkL l
  | [] => rfl
  | d :: l => by simp [Go.Proofs.YthlmgkfipbphmaaGreat.Rows.uptoBulkAll, bulkL, bulk_eq d, bulkL_eq l]
theorem bulkE_eq {H : Type} : (l : List (Lit × DataW H)) → Go.Proofs.YthlmgkfipbphmaaGreat.Rows.uptoBulkEntries l = bulkE l
  | [] => rfl
  | d :: l => by simp [Go.Proofs.YthlmgkfipbphmaaGreat.Rows.uptoBulkEntries, bulkE, bulkP_eq d, bulkE_eq l]
theorem bulkP_eq {H : Type} : (x : Lit × DataW H) → Go.Proofs.YthlmgkfipbphmaaGreat.Rows.uptoBulkEntry x = bulkP x
  | (l, d) => by cases l <;> simp [Go.Proofs.YthlmgkfipbphmaaGreat.Rows.uptoBulkEntry, bulkP, bulk_eq d]
end

theorem small_bulk {H : Type} {ds gs : List (DataW H)} (hg : gs = []) (hk : Go.Proofs.YthlmgkfipbphmaaGreat.Rows.uptoSmall H (ds ++ gs) = true) : bulkL ds ≤ 1048576 := by
  subst hg
  have h := of_decide_eq_true hk
  rw [List.append_nil, bulkL_eq] at h
  exact h
theorem cellsA : Tryz.prog.cellsOf 36 = 4 := by kernel_rfl
theorem cellsH : Tryz.prog.cellsOf 163 = 3 := by kernel_rfl
theorem cellsI : Tryz.prog.cellsOf 3 = 1 := by kernel_rfl
def I64w (n : Int) : Prop := -9223372036854775808 ≤ n ∧ n ≤ 9223372036854775807
theorem wf64 {n : Int} (h : (Lit.int .i64 n).wf = true) : I64w n := by
  have h' : (decide (IntKind.i64.min ≤ n) && decide (n ≤ IntKind.i64.max)) = true := h
  rw [Bool.and_eq_true, decide_eq_true_eq, decide_eq_true_eq] at h'
  exact h'
/-- The rows of a slice, with a measure of each. -/
theorem rows_sum {P : Program} {t : TypeId} {α : Type} (g : α → List V) (f : α → Nat) (m : α → Prop) (h1 : ∀ xs b, Ty P t xs b → ∃ a, xs = g a ∧ f a + 1 ≤ b ∧ m a) : ∀ (rows : List (List V)) (bs : List Nat), rows.length = bs.length → (∀ (i : Nat) r b, rows[i]? = some r → bs[i]? = some b → Ty P t r b) →
    ∃ as' : List α, rows = as'.map g ∧ as'.length + (as'.map f).sum ≤ bs.sum ∧ ∀ a ∈ as', m a
  | [], bs, _, _ => ⟨[], rfl, by simp, fun a h => by simp at h⟩
  | r :: rows, [], hl, _ => by simp at hl
  | r :: rows, b :: bs, hl, hg => by
    obtain ⟨a, rfl, hb, hm⟩ := h1 r b (hg 0 r b rfl rfl)
    obtain ⟨as', rfl, q1, q2⟩ := rows_sum g f m h1 rows bs (by simpa using hl) (fun i r b x y => hg (i + 1) r b (by simpa using x) (by simpa using y))
    refine ⟨a :: as', rfl, by simp; omega, ?_⟩
    intro c hc
    rcases List.mem_cons.1 hc with rfl | hc
    · exact hm
    · exact q2 c hc
theorem sum_mem {α : Type} (f : α → Nat) : ∀ (l : List α) (a : α), a ∈ l → f a ≤ (l.map f).sum
  | x :: l, a, h => by
    rw [List.map_cons, List.sum_cons]
    rcases List.mem_cons.1 h with rfl | h
    · omega
    · have := sum_mem f l a h; omega
theorem ty_hook {xs : List V} {b : Nat} (h : Ty Tryz.prog 163 xs b) : ∃ q : Int × Bool × Int, xs = [.int .i64 q.1, .bool q.2.1, .int .i64 q.2.2] ∧ 0 + 1 ≤ b ∧ I64w q.1 ∧ I64w q.2.2 := by
  obtain ⟨xss, bs, rfl, h1, h2, h3, rfl⟩ := h.structI Tryz.underlying163
  match xss, bs, h1, h2 with
  | [x0, x1, x2], [b0, b1, b2], _, _ =>
    obtain ⟨n, rfl, w0, rfl⟩ := (h3 0 _ _ _ rfl rfl rfl).intI und_int
    obtain ⟨c, rfl, rfl⟩ := (h3 1 _ _ _ rfl rfl rfl).boolI und_bool
    obtain ⟨o, rfl, w2, rfl⟩ := (h3 2 _ _ _ rfl rfl rfl).intI und_int
    exact ⟨⟨n, c, o⟩, rfl, by simp only [List.sum_cons, List.sum_nil]; omega, wf64 w0, wf64 w2⟩
theorem ty_hooks {xs : List V} {b : Nat} (h : Ty Tryz.prog 37 xs b) : ∃ hs, xs = [.sl 3 (hRows hs)] ∧ hs.length + 1 ≤ b ∧ ∀ h ∈ hs, I64w h.1 ∧ I64w h.2.2 := by
  obtain ⟨rows, bs, rfl, h1, h2, rfl⟩ := h.sliceI Tryz.underlying37
  obtain ⟨hs, rfl, q1, q2⟩ := rows_sum (fun q : Int × Bool × Int => [.int .i64 q.1, .bool q.2.1, .int .i64 q.2.2]) (fun _ => 0) (fun h => I64w h.1 ∧ I64w h.2.2) (fun xs b h => ty_hook h) rows bs h1 h2
  exact ⟨hs, by rw [cellsH]; rfl, by omega, q2⟩
theorem ty_int {xs : List V} {b : Nat} (h : Ty Tryz.prog 3 xs b) : ∃ n : Int, xs = [.int .i64 n] ∧ 0 + 1 ≤ b ∧ I64w n := by
  obtain ⟨n, rfl, w0, rfl⟩ := h.intI und_int
  exact ⟨n, rfl, by omega, wf64 w0⟩
theorem ty_ints {xs : List V} {b : Nat} (h : Ty Tryz.prog 44 xs b) : ∃ l, xs = [.sl 1 (iRows l)] ∧ l.length + 1 ≤ b ∧ ∀ n ∈ l, I64w n := by
  obtain ⟨rows, bs, rfl, h1, h2, rfl⟩ := h.sliceI Tryz.underlying44
  obtain ⟨l, rfl, q1, q2⟩ := rows_sum (fun n : Int => [V.int .i64 n]) (fun _ => 0) I64w (fun xs b h => ty_int h) rows bs h1 h2
  exact ⟨l, by rw [cellsI]; rfl, by omega, q2⟩
abbrev Rw := List UInt8 × Runs
def rawW (s : Rw) : Nat := s.1.length + s.2.length
theorem ty_attr {xs : List V} {b : Nat} (h : Ty Tryz.prog 36 xs b) : ∃ a : Rw × Rw, xs = [.str a.1.1, .sl 2 (rws a.1.2), .str a.2.1, .sl 2 (rws a.2.2)] ∧ (rawW a.1 + rawW a.2) + 1 ≤ b ∧ True := by
  obtain ⟨x0, x1, b0, b1, rfl, h0, h1, rfl⟩ := h.two Tryz.underlying36
  obtain ⟨t, rs, rfl, q0⟩ := ty_str h0
  obtain ⟨t', rs', rfl, q1⟩ := ty_str h1
  exact ⟨((t, rs), (t', rs')), rfl, by simp only [rawW]; omega, trivial⟩
theorem ty_attrs {xs : List V} {b : Nat} (h : Ty Tryz.prog 65 xs b) : ∃ l : List (Rw × Rw), xs = [.sl 4 (aRows l)] ∧ l.length + (l.map fun a => rawW a.1 + rawW a.2).sum + 1 ≤ b := by
  obtain ⟨rows, bs, rfl, h1, h2, rfl⟩ := h.sliceI Tryz.underlying65
  obtain ⟨l, rfl, q1, q2⟩ := rows_sum (fun a : Rw × Rw => [.str a.1.1, .sl 2 (rws a.1.2), .str a.2.1, .sl 2 (rws a.2.2)]) (fun a => rawW a.1 + rawW a.2) (fun _ => True) (fun xs b h => ty_attr h) rows bs h1 h2
  exact ⟨l, by rw [cellsA]; rfl, by omega⟩

theorem cellsV : Tryz.prog.cellsOf 67 = 10 := by kernel_rfl
/-- What a view's cells are. -/
theorem ty_view : ∀ (b : Nat) (xs : List V), Ty Tryz.prog 67 xs b → ∃ v : Vw, xs = vCells v ∧ cntV1 v + 1 ≤ b := by
  intro b
  induction b using Nat.strongRecOn with
  | _ b IH =>
    intro xs h
    obtain ⟨xss, bs, rfl, h1, h2, h3, rfl⟩ := h.structI Tryz.underlying67
    match xss, bs, h1, h2 with
    | [x0, x1, x2, x3, x4, x5, x6, x7], [b0, b1, b2, b3, b4, b5, b6, b7], _, _ =>
      obtain ⟨n0, rfl, w0, rfl⟩ := (h3 0 _ _ _ rfl rfl rfl).intI und_int
      obtain ⟨t1, r1, rfl, q1⟩ := ty_str (h3 1 _ _ _ rfl rfl rfl)
      obtain ⟨k2, rfl, rfl⟩ := (h3 2 _ _ _ rfl rfl rfl).strI und_string
      obtain ⟨l3, rfl, q3⟩ := ty_attrs (h3 3 _ _ _ rfl rfl rfl)
      obtain ⟨l4, rfl, q4, w4⟩ := ty_hooks (h3 4 _ _ _ rfl rfl rfl)
      obtain ⟨rows, cs, rfl, g1, g2, rfl⟩ := (h3 5 _ _ _ rfl rfl rfl).sliceI Tryz.underlying22
      obtain ⟨t6, r6, rfl, q6⟩ := ty_str (h3 6 _ _ _ rfl rfl rfl)
      obtain ⟨n7, rfl, w7, rfl⟩ := (h3 7 _ _ _ rfl rfl rfl).intI und_int
      simp only [List.sum_cons, List.sum_nil] at IH ⊢
      have kids : ∀ (rows : List (List V)) (ds : List Nat), rows.length = ds.length → ds.sum ≤ cs.sum → (∀ (i : Nat) r b, rows[i]? = some r → ds[i]? = some b → Ty Tryz.prog 67 r b) → ∃ l : List Vw, rows = vRows l ∧ cntV l ≤ ds.sum := by
        intro rows
        induction rows with
        | nil => intro ds _ _ _; exact ⟨[], rfl, Nat.zero_le _⟩
        | cons r rows ih =>
          intro ds hl hs hg
          cases ds with
          | nil => simp at hl
          | cons d ds =>
            simp only [List.sum_cons] at hs ⊢
            obtain ⟨v, rfl, hv⟩ := IH d (by omega) r (hg 0 r d rfl rfl)
            obtain ⟨l, rfl, hq⟩ := ih ds (by simpa using hl) (by omega) (fun i r b a c => hg (i + 1) r b (by simpa using a) (by simpa using c))
            exact ⟨v :: l, rfl, by rw [cntV]; omega⟩
      obtain ⟨l5, rfl, q5⟩ := kids rows cs g1 (Nat.le_refl _) g2
      refine ⟨.mk n0 (t1, r1) k2 l3 l4 l5 (t6, r6) n7, ?_, ?_⟩
      · rw [cellsV]; rfl
      · rw [cntV1]; omega
theorem ty_views {xs : List V} {b : Nat} (h : Ty Tryz.prog 22 xs b) : ∃ l : List Vw, xs = [.sl 10 (vRows l)] ∧ cntV l ≤ b := by
  obtain ⟨rows, bs, rfl, h1, h2, rfl⟩ := h.sliceI Tryz.underlying22
  have kids : ∀ (rows : List (List V)) (ds : List Nat), rows.length = ds.length → (∀ (i : Nat) r b, rows[i]? = some r → ds[i]? = some b → Ty Tryz.prog 67 r b) → ∃ l : List Vw, rows = vRows l ∧ cntV l ≤ ds.sum := by
    intro rows
    induction rows with
    | nil => intro ds _ _; exact ⟨[], rfl, Nat.zero_le _⟩
    | cons r rows ih =>
      intro ds hl hg
      cases ds with
      | nil => simp at hl
      | cons d ds =>
        obtain ⟨v, rfl, hv⟩ := ty_view d r (hg 0 r d rfl rfl)
        obtain ⟨l, rfl, hq⟩ := ih ds (by simpa using hl) (fun i r b a c => hg (i + 1) r b (by simpa using a) (by simpa using c))
        exact ⟨v :: l, rfl, by rw [cntV, List.sum_cons]; omega⟩
  obtain ⟨l, rfl, hq⟩ := kids rows bs h1 h2
  exact ⟨l, by rw [cellsV], by omega⟩
end Go.Proofs.VL

/- Contracts of functions of the program, for what calls them, and the law that its name tells. -/
import Derived.Test.YtdiddnapamjojaaLA
import Derived.Test.YtdiddnapamjojaaRE
namespace Go.Proofs.VL
open Go Go.RowKit Go.WideShapes Go.ChangeShapes Go.ChangeAt
set_option maxRecDepth 100000
set_option linter.unusedSimpArgs false
set_option linter.unusedVariables false

/-- The rows of a slice of structs, each read by a word of its own. -/
theorem ty_rowz {P : Program} {t : TypeId} {α : Type} (g : α → List V) (m : α → Nat → Prop) (h1 : ∀ xs b, Ty P t xs b → 1 ≤ b ∧ ∃ a, xs = g a ∧ m a b) : ∀ (rows : List (List V)) (bs : List Nat), rows.length = bs.length → (∀ (i : Nat) r b, rows[i]? = some r → bs[i]? = some b → Ty P t r b) →
    ∃ as' : List α, rows = as'.map g ∧ as'.length ≤ bs.sum ∧ ∀ a ∈ as', ∃ b, b ≤ bs.sum ∧ m a b
  | [], bs, _, _ => ⟨[], rfl, Nat.zero_le _, fun a h => by simp at h⟩
  | r :: rows, [], hl, _ => by simp at hl
  | r :: rows, b :: bs, hl, hg => by
    obtain ⟨hb, a, rfl, hm⟩ := h1 r b (hg 0 r b rfl rfl)
    obtain ⟨as', rfl, q1, q2⟩ := ty_rowz g m h1 rows bs (by simpa using hl) (fun i r b x y => hg (i + 1) r b (by simpa using x) (by simpa using y))
    refine ⟨a :: as', rfl, by simp; omega, ?_⟩
    intro c hc
    rcases List.mem_cons.1 hc with rfl | hc
    · exact ⟨b, by simp, hm⟩
    · obtain ⟨b', h2, h3⟩ := q2 c hc
      exact ⟨b', by simp; omega, h3⟩

theorem cells_call : Try.prog.cellsOf 123 = 4 := by kernel_rfl
theorem cells_answer : Try.prog.cellsOf 120 = 2 := by kernel_rfl
theorem cells_outcome : Try.prog.cellsOf 61 = 4 := by kernel_rfl
theorem cells_step : Try.prog.cellsOf 68 = 14 := by kernel_rfl
theorem cells_command : Try.prog.cellsOf 133 = 5 := by kernel_rfl
theorem ty_call {xs : List V} {b : Nat} (h : Ty Try.prog 123 xs b) : 1 ≤ b ∧ ∃ c : Cal, xs = kaCells c ∧ True := by
  obtain ⟨xss, bs, rfl, h1, h2, h3, rfl⟩ := h.structI Try.underlying123
  match xss, bs, h1, h2 with
  | [x0, x1, x2, x3], [b0, b1, b2, b3], _, _ =>
    obtain ⟨n0, rfl, _, rfl⟩ := (h3 0 _ _ _ rfl rfl rfl).intI und_int
    obtain ⟨n1, rfl, _, rfl⟩ := (h3 1 _ _ _ rfl rfl rfl).intI und_int
    obtain ⟨n2, rfl, _, rfl⟩ := (h3 2 _ _ _ rfl rfl rfl).intI und_int
    obtain ⟨n3, rfl, _, rfl⟩ := (h3 3 _ _ _ rfl rfl rfl).intI und_int
    exact ⟨by omega, ⟨n0, n1, n2, n3⟩, rfl, trivial⟩
theorem und_errno : Try.prog.underlying 57 = some (.int .i64) := by kernel_rfl
theorem ty_answer {xs : List V} {b : Nat} (h : Ty Try.prog 120 xs b) : 1 ≤ b ∧ ∃ r : Int × Int, xs = [.int .i64 r.1, .int .i64 r.2] ∧ True := by
  obtain ⟨xss, bs, rfl, h1, h2, h3, rfl⟩ := h.structI Try.underlying120
  match xss, bs, h1, h2 with
  | [x0, x1], [b0, b1], _, _ =>
    obtain ⟨n0, rfl, _, rfl⟩ := (h3 0 _ _ _ rfl rfl rfl).intI und_errno
    obtain ⟨n1, rfl, _, rfl⟩ := (h3 1 _ _ _ rfl rfl rfl).intI und_int
    exact ⟨by omega, ⟨n0, n1⟩, rfl, trivial⟩
theorem ty_outcome {xs : List V} {b : Nat} (h : Ty Try.prog 61 xs b) : 1 ≤ b ∧ ∃ o : Oc, xs = oCells o ∧ o.ans.length ≤ b ∧ o.calls.length ≤ b := by
  obtain ⟨xss, bs, rfl, h1, h2, h3, rfl⟩ := h.structI Try.underlying61
  match xss, bs, h1, h2 with
  | [x0, x1, x2, x3], [b0, b1, b2, b3], _, _ =>
    obtain ⟨n0, rfl, _, rfl⟩ := (h3 0 _ _ _ rfl rfl rfl).intI und_errno
    obtain ⟨n1, rfl, _, rfl⟩ := (h3 1 _ _ _ rfl rfl rfl).intI und_int
    obtain ⟨r2, c2, rfl, g1, g2, rfl⟩ := (h3 2 _ _ _ rfl rfl rfl).sliceI Try.underlying58
    obtain ⟨as2, rfl, q1, _⟩ := ty_rowz (fun r : Int × Int => [V.int .i64 r.1, V.int .i64 r.2]) (fun _ _ => True) (fun xs b h => ty_answer h) r2 c2 g1 g2
    obtain ⟨r3, c3, rfl, g3, g4, rfl⟩ := (h3 3 _ _ _ rfl rfl rfl).sliceI Try.underlying59
    obtain ⟨as3, rfl, q2, _⟩ := ty_rowz kaCells (fun _ _ => True) (fun xs b h => ty_call h) r3 c3 g3 g4
    simp only [List.sum_cons, List.sum_nil]
    exact ⟨by omega, ⟨n0, n1, as2, as3⟩, by rw [cells_answer, cells_call]; rfl, by simp only; omega, by simp only; omega⟩
theorem ty_outcomes {xs : List V} {b : Nat} (h : Ty Try.prog 54 xs b) : ∃ o : List Oc, xs = [.sl 4 (oRows o)] ∧ o.length ≤ b ∧ ∀ x ∈ o, x.ans.length ≤ b ∧ x.calls.length ≤ b := by
  obtain ⟨rows, bs, rfl, h1, h2, rfl⟩ := h.sliceI Try.underlying54
  obtain ⟨o, rfl, q1, q2⟩ := ty_rowz oCells (fun o b => o.ans.length ≤ b ∧ o.calls.length ≤ b) (fun xs b h => ty_outcome h) rows bs h1 h2
  refine ⟨o, by rw [cells_outcome]; rfl, by omega, fun x hx => ?_⟩
  obtain ⟨b', h1, h2, h3⟩ := q2 x hx
  exact ⟨by omega, by omega⟩
theorem ty_commands {xs : List V} {b : Nat} (h : Ty Try.prog 55 xs b) : ∃ c : List (List V), xs = [.sl 5 c] ∧ c.length ≤ b := by
  obtain ⟨rows, bs, rfl, h1, h2, rfl⟩ := h.sliceI Try.underlying55
  refine ⟨rows, by rw [cells_command], ?_⟩
  have hb : ∀ (rows : List (List V)) (bs : List Nat), rows.length = bs.length → (∀ (i : Nat) r b, rows[i]? = some r → bs[i]? = some b → 1 ≤ b) → rows.length ≤ bs.sum := by
    intro rows
    induction rows with
    | nil => intro bs _ _; exact Nat.zero_le _
    | cons r rows ih =>
      intro bs hl hg
      match bs, hl with
      | b :: bs, hl =>
        have h1 := hg 0 r b rfl rfl
        have h2 := ih bs (by simpa using hl) (fun i r b x y => hg (i + 1) r b (by simpa using x) (by simpa using y))
        simp only [List.length_cons, List.sum_cons]
        omega
  have := hb rows bs h1 (fun i r b x y => by
    obtain ⟨_, _, _, _, _, _, rfl⟩ := (h2 i r b x y).structI Try.underlying133
    omega)
  omega
theorem ty_viewz {xs : List V} {b : Nat} (h : Ty Try.prog 66 xs b) : ∃ v0 v1 v2 v3 v4 v5 v6 v7 v8 v9 : V, xs = [v0, v1, v2, v3, v4, v5, v6, v7, v8, v9] := by
  obtain ⟨xss, bs, rfl, h1, h2, h3, rfl⟩ := h.structI Try.underlying66
  match xss, bs, h1, h2 with
  | [x0, x1, x2, x3, x4, x5, x6, x7], [b0, b1, b2, b3, b4, b5, b6, b7], _, _ =>
    obtain ⟨n0, rfl, _, rfl⟩ := (h3 0 _ _ _ rfl rfl rfl).intI und_int
    obtain ⟨t1, r1, rfl, _⟩ := ty_str (h3 1 _ _ _ rfl rfl rfl)
    obtain ⟨k2, rfl, rfl⟩ := (h3 2 _ _ _ rfl rfl rfl).strI und_string
    obtain ⟨r3, c3, rfl, _, _, rfl⟩ := (h3 3 _ _ _ rfl rfl rfl).sliceI Try.underlying63
    obtain ⟨r4, c4, rfl, _, _, rfl⟩ := (h3 4 _ _ _ rfl rfl rfl).sliceI Try.underlying37
    obtain ⟨r5, c5, rfl, _, _, rfl⟩ := (h3 5 _ _ _ rfl rfl rfl).sliceI Try.underlying64
    obtain ⟨t6, r6, rfl, _⟩ := ty_str (h3 6 _ _ _ rfl rfl rfl)
    obtain ⟨n7, rfl, _, rfl⟩ := (h3 7 _ _ _ rfl rfl rfl).intI und_int
    exact ⟨_, _, _, _, _, _, _, _, _, _, rfl⟩
theorem ty_step {xs : List V} {b : Nat} (h : Ty Try.prog 68 xs b) : 1 ≤ b ∧ ∃ s : Stp, xs = sCells s ∧ s.cmds.length ≤ b := by
  obtain ⟨xss, bs, rfl, h1, h2, h3, rfl⟩ := h.structI Try.underlying68
  match xss, bs, h1, h2 with
  | [x0, x1, x2, x3, x4], [b0, b1, b2, b3, b4], _, _ =>
    obtain ⟨n0, rfl, _, rfl⟩ := (h3 0 _ _ _ rfl rfl rfl).intI und_int
    obtain ⟨n1, rfl, _, rfl⟩ := (h3 1 _ _ _ rfl rfl rfl).intI und_int
    obtain ⟨n2, rfl, _, rfl⟩ := (h3 2 _ _ _ rfl rfl rfl).intI und_int
    obtain ⟨v0, v1, v2, v3, v4, v5, v6, v7, v8, v9, rfl⟩ := ty_viewz (h3 3 _ _ _ rfl rfl rfl)
    obtain ⟨c, rfl, hc⟩ := ty_commands (h3 4 _ _ _ rfl rfl rfl)
    simp only [List.sum_cons, List.sum_nil]
    exact ⟨by omega, ⟨n0, n1, n2, v0, v1, v2, v3, v4, v5, v6, v7, v8, v9, c⟩, rfl, by simp only; omega⟩
theorem ty_steps {xs : List V} {b : Nat} (h : Ty Try.prog 53 xs b) : ∃ l : List Stp, xs = [.sl 14 (sRows l)] ∧ l.length ≤ b ∧ ∀ s ∈ l, s.cmds.length ≤ b := by
  obtain ⟨rows, bs, rfl, h1, h2, rfl⟩ := h.sliceI Try.underlying53
  obtain ⟨l, rfl, q1, q2⟩ := ty_rowz sCells (fun s b => s.cmds.length ≤ b) (fun xs b h => ty_step h) rows bs h1 h2
  refine ⟨l, by rw [cells_step]; rfl, by omega, fun s hs => ?_⟩
  obtain ⟨b', h1, h2⟩ := q2 s hs
  omega
theorem arg_steps (x : V) : argV Try.prog 53 [x] = x := arg_one (by kernel_rfl) x
theorem arg_outcomes (x : V) : argV Try.prog 54 [x] = x := arg_one (by kernel_rfl) x
theorem arg_commands (x : V) : argV Try.prog 55 [x] = x := arg_one (by kernel_rfl) x
end Go.Proofs.VL

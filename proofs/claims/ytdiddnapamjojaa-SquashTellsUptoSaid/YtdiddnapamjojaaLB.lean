/- Contracts of functions of the program, for what calls them, and the law that its name tells. -/
import Derived.Test.YtdiddnapamjojaaLA
import Derived.Test.YtdiddnapamjojaaTO
namespace Go.Proofs.VL
open Go Go.RowKit Go.WideShapes Go.ChangeShapes Go.ChangeAt
set_option maxRecDepth 100000
set_option linter.unusedSimpArgs false
set_option linter.unusedVariables false

theorem cells_patch : Try.prog.cellsOf 39 = 16 := by kernel_rfl
theorem cells_hook : Try.prog.cellsOf 151 = 3 := by kernel_rfl

/-- The rows of a slice of structs, each read by a word of its own. -/
theorem ty_rows {P : Program} {t : TypeId} {α : Type} (g : α → List V) (m : α → Nat → Prop) (h1 : ∀ xs b, Ty P t xs b → 1 ≤ b ∧ ∃ a, xs = g a ∧ m a b) : ∀ (rows : List (List V)) (bs : List Nat), rows.length = bs.length → (∀ (i : Nat) r b, rows[i]? = some r → bs[i]? = some b → Ty P t r b) →
    ∃ as' : List α, rows = as'.map g ∧ as'.length ≤ bs.sum ∧ ∀ a ∈ as', ∃ b, b ≤ bs.sum ∧ m a b
  | [], bs, _, _ => ⟨[], rfl, Nat.zero_le _, fun a h => by simp at h⟩
  | r :: rows, [], hl, _ => by simp at hl
  | r :: rows, b :: bs, hl, hg => by
    obtain ⟨hb, a, rfl, hm⟩ := h1 r b (hg 0 r b rfl rfl)
    obtain ⟨as', rfl, q1, q2⟩ := ty_rows g m h1 rows bs (by simpa using hl) (fun i r b x y => hg (i + 1) r b (by simpa using x) (by simpa using y))
    refine ⟨a :: as', rfl, by simp; omega, ?_⟩
    intro c hc
    rcases List.mem_cons.1 hc with rfl | hc
    · exact ⟨b, by simp, hm⟩
    · obtain ⟨b', h2, h3⟩ := q2 c hc
      exact ⟨b', by simp; omega, h3⟩

theorem ty_hook {xs : List V} {b : Nat} (h : Ty Try.prog 151 xs b) : 1 ≤ b ∧ ∃ q : Int × Bool × Int, xs = [.int .i64 q.1, .bool q.2.1, .int .i64 q.2.2] ∧ True := by
  obtain ⟨xss, bs, rfl, h1, h2, h3, rfl⟩ := h.structI Try.underlying151
  match xss, bs, h1, h2 with
  | [x0, x1, x2], [b0, b1, b2], _, _ =>
    obtain ⟨n, rfl, _, rfl⟩ := (h3 0 _ _ _ rfl rfl rfl).intI und_int
    obtain ⟨c, rfl, rfl⟩ := (h3 1 _ _ _ rfl rfl rfl).boolI und_bool
    obtain ⟨o, rfl, _, rfl⟩ := (h3 2 _ _ _ rfl rfl rfl).intI und_int
    exact ⟨by omega, ⟨n, c, o⟩, rfl, trivial⟩

theorem ty_hooks {xs : List V} {b : Nat} (h : Ty Try.prog 37 xs b) : ∃ hs, xs = [.sl 3 (hRows hs)] ∧ hs.length + 1 ≤ b := by
  obtain ⟨rows, bs, rfl, h1, h2, rfl⟩ := h.sliceI Try.underlying37
  obtain ⟨hs, rfl, q1, _⟩ := ty_rows (fun q : Int × Bool × Int => [.int .i64 q.1, .bool q.2.1, .int .i64 q.2.2]) (fun _ _ => True) (fun xs b h => ty_hook h) rows bs h1 h2
  exact ⟨hs, by rw [cells_hook]; rfl, by omega⟩

theorem ty_attr {xs : List V} {b : Nat} (h : Ty Try.prog 36 xs b) : ∃ t rs t' rs', xs = [.str t, .sl 2 (rowsOf rs), .str t', .sl 2 (rowsOf rs')] ∧ t.length + rs.length + t'.length + rs'.length + 1 ≤ b := by
  obtain ⟨x0, x1, b0, b1, rfl, h0, h1, rfl⟩ := h.two Try.underlying36
  obtain ⟨t, rs, rfl, q0⟩ := ty_str h0
  obtain ⟨t', rs', rfl, q1⟩ := ty_str h1
  exact ⟨t, rs, t', rs', rfl, by omega⟩

theorem ty_pat {xs : List V} {b : Nat} (h : Ty Try.prog 39 xs b) : 1 ≤ b ∧ ∃ p : Pat, xs = pCells p ∧ (b ≤ 1000000000 → PSmall p) ∧
    p.tag.1.length + p.tag.2.length + p.key.length + p.name.1.length + p.name.2.length + p.value.1.length + p.value.2.length + p.hooks.length + p.text.1.length + p.text.2.length ≤ b := by
  obtain ⟨xss, bs, rfl, h1, h2, h3, rfl⟩ := h.structI Try.underlying39
  match xss, bs, h1, h2 with
  | [x0, x1, x2, x3, x4, x5, x6, x7, x8, x9, x10], [b0, b1, b2, b3, b4, b5, b6, b7, b8, b9, b10], _, _ =>
    obtain ⟨n0, rfl, _, rfl⟩ := (h3 0 _ _ _ rfl rfl rfl).intI und_int
    obtain ⟨n1, rfl, _, rfl⟩ := (h3 1 _ _ _ rfl rfl rfl).intI und_int
    obtain ⟨n2, rfl, _, rfl⟩ := (h3 2 _ _ _ rfl rfl rfl).intI und_int
    obtain ⟨n3, rfl, _, rfl⟩ := (h3 3 _ _ _ rfl rfl rfl).intI und_int
    obtain ⟨n4, rfl, _, rfl⟩ := (h3 4 _ _ _ rfl rfl rfl).intI und_int
    obtain ⟨t5, r5, rfl, q5⟩ := ty_str (h3 5 _ _ _ rfl rfl rfl)
    obtain ⟨k6, rfl, rfl⟩ := (h3 6 _ _ _ rfl rfl rfl).strI und_string
    obtain ⟨n7, rfl, _, rfl⟩ := (h3 7 _ _ _ rfl rfl rfl).intI und_int
    obtain ⟨t8, r8, t8', r8', rfl, q8⟩ := ty_attr (h3 8 _ _ _ rfl rfl rfl)
    obtain ⟨hs, rfl, q9⟩ := ty_hooks (h3 9 _ _ _ rfl rfl rfl)
    obtain ⟨t10, r10, rfl, q10⟩ := ty_str (h3 10 _ _ _ rfl rfl rfl)
    simp only [List.sum_cons, List.sum_nil]
    refine ⟨by omega, ⟨n0, n1, n2, n3, n4, (t5, r5), k6, n7, (t8, r8), (t8', r8'), hs, (t10, r10)⟩, rfl, ?_, by simp only; omega⟩
    intro hb
    exact ⟨by simp only; omega, by simp only; omega, by simp only; omega, by simp only; omega, by simp only; omega⟩

theorem ty_pats {xs : List V} {b : Nat} (h : Ty Try.prog 33 xs b) : ∃ ps, xs = [.sl 16 (pRows ps)] ∧ ps.length ≤ b ∧
    ∀ p ∈ ps, (b ≤ 1000000000 → PSmall p) ∧ p.tag.1.length + p.tag.2.length + p.key.length + p.name.1.length + p.name.2.length + p.value.1.length + p.value.2.length + p.hooks.length + p.text.1.length + p.text.2.length ≤ b := by
  obtain ⟨rows, bs, rfl, h1, h2, rfl⟩ := h.sliceI Try.underlying33
  obtain ⟨ps, rfl, q1, q2⟩ := ty_rows pCells (fun p b => (b ≤ 1000000000 → PSmall p) ∧ p.tag.1.length + p.tag.2.length + p.key.length + p.name.1.length + p.name.2.length + p.value.1.length + p.value.2.length + p.hooks.length + p.text.1.length + p.text.2.length ≤ b) (fun xs b h => ty_pat h) rows bs h1 h2
  refine ⟨ps, by rw [cells_patch]; rfl, by omega, fun p hp => ?_⟩
  obtain ⟨b', h1, h2, h3⟩ := q2 p hp
  exact ⟨fun hb => h2 (by omega), by omega⟩

theorem arg_pats (x : V) : argV Try.prog 33 [x] = x := arg_one (by kernel_rfl) x
end Go.Proofs.VL

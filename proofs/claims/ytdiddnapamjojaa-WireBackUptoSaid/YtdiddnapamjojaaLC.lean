/- Contracts of functions of the program, for what calls them, and the law that its name tells. -/
import Derived.Test.YtdiddnapamjojaaLA
import Derived.Test.YtdiddnapamjojaaUB
namespace Go.Proofs.VL
open Go Go.RowKit Go.WideShapes Go.ChangeShapes Go.ChangeAt
set_option maxRecDepth 100000
set_option linter.unusedSimpArgs false
set_option linter.unusedVariables false

theorem cellsP : Try.prog.cellsOf 39 = 16 := by kernel_rfl
theorem cellsH : Try.prog.cellsOf 151 = 3 := by kernel_rfl

theorem wf64 {n : Int} (h : (Lit.int .i64 n).wf = true) : I64 n := by
  have h' : (decide (IntKind.i64.min ≤ n) && decide (n ≤ IntKind.i64.max)) = true := h
  rw [Bool.and_eq_true, decide_eq_true_eq, decide_eq_true_eq] at h'
  exact h'

/-- The rows of a slice of structs, with a measure of each. -/
theorem rows_sum {P : Program} {t : TypeId} {α : Type} (g : α → List V) (f : α → Nat) (m : α → Prop) (h1 : ∀ xs b, Ty P t xs b → ∃ a, xs = g a ∧ f a + 1 ≤ b ∧ m a) : ∀ (rows : List (List V)) (bs : List Nat), rows.length = bs.length → (∀ (i : Nat) r b, rows[i]? = some r → bs[i]? = some b → Ty P t r b) →
    ∃ as' : List α, rows = as'.map g ∧ as'.length + (as'.map f).sum ≤ bs.sum ∧ ∀ a ∈ as', m a
  | [], bs, _, _ => ⟨[], rfl, by simp, fun a h => by simp at h⟩
  | r :: rows, [], hl, _ => by simp at hl
  | r :: rows, b :: bs, hl, hg => by
    obtain ⟨a, rfl, hb, hm⟩ := h1 r b (hg 0 r b rfl rfl)
    obtain ⟨as', rfl, q1, q2⟩ := rows_sum g f m h1 rows bs (by simpa using hl) (fun i r b x y => hg (i + 1) r b (by simpa using x) (by simpa using y))
    refine ⟨a :: as', rfl, by simp; omega, ?_⟩
    intro c hc
    rcases List.mem_cons.1 hc with rfl | hc
    · exact hm
    · exact q2 c hc

theorem ty_hook' {xs : List V} {b : Nat} (h : Ty Try.prog 151 xs b) : ∃ q : Int × Bool × Int, xs = [.int .i64 q.1, .bool q.2.1, .int .i64 q.2.2] ∧ 0 + 1 ≤ b ∧ I64 q.1 ∧ I64 q.2.2 := by
  obtain ⟨xss, bs, rfl, h1, h2, h3, rfl⟩ := h.structI Try.underlying151
  match xss, bs, h1, h2 with
  | [x0, x1, x2], [b0, b1, b2], _, _ =>
    obtain ⟨n, rfl, w0, rfl⟩ := (h3 0 _ _ _ rfl rfl rfl).intI und_int
    obtain ⟨c, rfl, rfl⟩ := (h3 1 _ _ _ rfl rfl rfl).boolI und_bool
    obtain ⟨o, rfl, w2, rfl⟩ := (h3 2 _ _ _ rfl rfl rfl).intI und_int
    exact ⟨⟨n, c, o⟩, rfl, by simp only [List.sum_cons, List.sum_nil]; omega, wf64 w0, wf64 w2⟩

theorem ty_hooks' {xs : List V} {b : Nat} (h : Ty Try.prog 37 xs b) : ∃ hs, xs = [.sl 3 (hRows hs)] ∧ hs.length + 1 ≤ b ∧ ∀ h ∈ hs, I64 h.1 ∧ I64 h.2.2 := by
  obtain ⟨rows, bs, rfl, h1, h2, rfl⟩ := h.sliceI Try.underlying37
  obtain ⟨hs, rfl, q1, q2⟩ := rows_sum (fun q : Int × Bool × Int => [.int .i64 q.1, .bool q.2.1, .int .i64 q.2.2]) (fun _ => 0) (fun h => I64 h.1 ∧ I64 h.2.2) (fun xs b h => ty_hook' h) rows bs h1 h2
  exact ⟨hs, by rw [cellsH]; rfl, by omega, q2⟩

theorem ty_attr' {xs : List V} {b : Nat} (h : Ty Try.prog 36 xs b) : ∃ t rs t' rs', xs = [.str t, .sl 2 (rowsOf rs), .str t', .sl 2 (rowsOf rs')] ∧ t.length + rs.length + t'.length + rs'.length + 1 ≤ b := by
  obtain ⟨x0, x1, b0, b1, rfl, h0, h1, rfl⟩ := h.two Try.underlying36
  obtain ⟨t, rs, rfl, q0⟩ := ty_str h0
  obtain ⟨t', rs', rfl, q1⟩ := ty_str h1
  exact ⟨t, rs, t', rs', rfl, by omega⟩

/-- A patch's size. -/
def pW (p : Pat) : Nat := p.tag.1.length + p.tag.2.length + p.key.length + p.name.1.length + p.name.2.length + p.value.1.length + p.value.2.length + p.hooks.length + p.text.1.length + p.text.2.length

theorem ty_pat' {xs : List V} {b : Nat} (h : Ty Try.prog 39 xs b) : ∃ p : Pat, xs = pCells p ∧ pW p + 1 ≤ b ∧ PWide p := by
  obtain ⟨xss, bs, rfl, h1, h2, h3, rfl⟩ := h.structI Try.underlying39
  match xss, bs, h1, h2 with
  | [x0, x1, x2, x3, x4, x5, x6, x7, x8, x9, x10], [b0, b1, b2, b3, b4, b5, b6, b7, b8, b9, b10], _, _ =>
    obtain ⟨n0, rfl, _, rfl⟩ := (h3 0 _ _ _ rfl rfl rfl).intI und_int
    obtain ⟨n1, rfl, w1, rfl⟩ := (h3 1 _ _ _ rfl rfl rfl).intI und_int
    obtain ⟨n2, rfl, w2, rfl⟩ := (h3 2 _ _ _ rfl rfl rfl).intI und_int
    obtain ⟨n3, rfl, w3, rfl⟩ := (h3 3 _ _ _ rfl rfl rfl).intI und_int
    obtain ⟨n4, rfl, w4, rfl⟩ := (h3 4 _ _ _ rfl rfl rfl).intI und_int
    obtain ⟨t5, r5, rfl, q5⟩ := ty_str (h3 5 _ _ _ rfl rfl rfl)
    obtain ⟨k6, rfl, rfl⟩ := (h3 6 _ _ _ rfl rfl rfl).strI und_string
    obtain ⟨n7, rfl, w7, rfl⟩ := (h3 7 _ _ _ rfl rfl rfl).intI und_int
    obtain ⟨t8, r8, t8', r8', rfl, q8⟩ := ty_attr' (h3 8 _ _ _ rfl rfl rfl)
    obtain ⟨hs, rfl, q9, w9⟩ := ty_hooks' (h3 9 _ _ _ rfl rfl rfl)
    obtain ⟨t10, r10, rfl, q10⟩ := ty_str (h3 10 _ _ _ rfl rfl rfl)
    simp only [List.sum_cons, List.sum_nil]
    refine ⟨⟨n0, n1, n2, n3, n4, (t5, r5), k6, n7, (t8, r8), (t8', r8'), hs, (t10, r10)⟩, rfl, by simp only [pW]; omega, ?_, w9⟩
    intro n hn
    simp only [five, List.mem_cons, List.not_mem_nil, or_false] at hn
    rcases hn with rfl | rfl | rfl | rfl | rfl
    · exact wf64 w1
    · exact wf64 w2
    · exact wf64 w3
    · exact wf64 w4
    · exact wf64 w7

theorem patO_len (p : Pat) : (patO p).length ≤ 61 + 12 * pW p := by
  unfold patO
  simp only [List.length_append, numsO_len, textO_len, hooksO_len, oct4_len]
  have h1 := strO_len (labR p.tag)
  have h2 := strO_len (labR p.name)
  have h3 := strO_len (labR p.value)
  have h4 := strO_len (labR p.text)
  have e : strsO (four p) = strO (labR p.tag) ++ (strO (labR p.name) ++ (strO (labR p.value) ++ (strO (labR p.text) ++ []))) := rfl
  have l1 : (labR p.tag).length = p.tag.1.length := lab_length _ _
  have l2 : (labR p.name).length = p.name.1.length := lab_length _ _
  have l3 : (labR p.value).length = p.value.1.length := lab_length _ _
  have l4 : (labR p.text).length = p.text.1.length := lab_length _ _
  rw [e]
  simp only [List.length_append, List.length_nil, opO, five, List.length_cons, pW]
  omega
theorem patsO_le : ∀ ps : List Pat, (patsO ps).length ≤ 61 * ps.length + 12 * (ps.map pW).sum
  | [] => Nat.le_refl _
  | p :: ps => by
    have h1 := patsO_le ps
    have h2 := patO_len p
    unfold patsO at h1 ⊢
    rw [List.flatMap_cons, List.length_append, List.map_cons, List.sum_cons, List.length_cons]
    omega
theorem sum_mem {α : Type} (f : α → Nat) : ∀ (l : List α) (a : α), a ∈ l → f a ≤ (l.map f).sum
  | x :: l, a, h => by
    rw [List.map_cons, List.sum_cons]
    rcases List.mem_cons.1 h with rfl | h
    · omega
    · have := sum_mem f l a h; omega
theorem tiny_of {p : Pat} (h : pW p ≤ 10000000) : PTiny p := by
  unfold pW at h
  refine ⟨by omega, ?_, by omega⟩
  intro s hs
  simp only [four, List.mem_cons, List.not_mem_nil, or_false] at hs
  rcases hs with rfl | rfl | rfl | rfl <;> omega

theorem ty_pats' {xs : List V} {b : Nat} (h : Ty Try.prog 33 xs b) : ∃ ps, xs = [.sl 16 (pRows ps)] ∧ ps.length + (ps.map pW).sum ≤ b ∧ ∀ p ∈ ps, PWide p := by
  obtain ⟨rows, bs, rfl, h1, h2, rfl⟩ := h.sliceI Try.underlying33
  obtain ⟨ps, rfl, q1, q2⟩ := rows_sum pCells pW PWide (fun xs b h => ty_pat' h) rows bs h1 h2
  exact ⟨ps, by rw [cellsP]; rfl, by omega, q2⟩

theorem arg_pats' (x : V) : argV Try.prog 33 [x] = x := arg_one (by kernel_rfl) x
end Go.Proofs.VL

/- Contracts of functions of the program, for what calls them, and the law that its name tells. -/
import Derived.Test.YthlmgkfipbphmaaLA
import Derived.Test.YthlmgkfipbphmaaAH
namespace Go.Proofs.VL
open Go Go.RowKit Go.WideShapes Go.ChangeShapes Go.ChangeAt
set_option maxRecDepth 100000
set_option linter.unusedSimpArgs false
set_option linter.unusedVariables false

theorem cellsA : Try.prog.cellsOf 41 = 4 := by kernel_rfl
theorem cellsH : Try.prog.cellsOf 111 = 3 := by kernel_rfl
theorem cellsI : Try.prog.cellsOf 3 = 1 := by kernel_rfl
def I64w (n : Int) : Prop := -9223372036854775808 ≤ n ∧ n ≤ 9223372036854775807
theorem wf64 {n : Int} (h : (Lit.int .i64 n).wf = true) : I64w n := by
  have h' : (decide (IntKind.i64.min ≤ n) && decide (n ≤ IntKind.i64.max)) = true := h
  rw [Bool.and_eq_true, decide_eq_true_eq, decide_eq_true_eq] at h'
  exact h'
/-- The rows of a slice, with a measure of each. -/
theorem rows_sum {P : Program} {t : TypeId} {α : Type} (g : α → List V) (f : α → Nat) (m : α → Prop) (h1 : ∀ xs b, Ty P t xs b → ∃ a, xs = g a ∧ f a + 1 ≤ b ∧ m a) : ∀ (rows : List (List V)) (bs : List Nat), rows.length = bs.length → (∀ (i : Nat) r b, rows[i]? = some r → bs[i]? = some b → Ty P t r b) →
    ∃ as' : List α, rows = as'.map g ∧ as'.length + (as'.map f).sum ≤ bs.sum ∧ ∀ a ∈ as', m a
  | [], bs, _, _ => ⟨[], rfl, by simp, fun a h => by simp at h⟩
  | r :: rows, [], hl, _ => by simp at hl
  | r :: rows, b :: bs, hl, hg => by
    obtain ⟨a, rfl, hb, hm⟩ := h1 r b (hg 0 r b rfl rfl)
    obtain ⟨as', rfl, q1, q2⟩ := rows_sum g f m h1 rows bs (by simpa using hl) (fun i r b x y => hg (i + 1) r b (by simpa using x) (by simpa using y))
    refine ⟨a :: as', rfl, by simp; omega, ?_⟩
    intro c hc
    rcases List.mem_cons.1 hc with rfl | hc
    · exact hm
    · exact q2 c hc
theorem sum_mem {α : Type} (f : α → Nat) : ∀ (l : List α) (a : α), a ∈ l → f a ≤ (l.map f).sum
  | x :: l, a, h => by
    rw [List.map_cons, List.sum_cons]
    rcases List.mem_cons.1 h with rfl | h
    · omega
    · have := sum_mem f l a h; omega
theorem ty_hook {xs : List V} {b : Nat} (h : Ty Try.prog 111 xs b) : ∃ q : Int × Bool × Int, xs = [.int .i64 q.1, .bool q.2.1, .int .i64 q.2.2] ∧ 0 + 1 ≤ b ∧ I64w q.1 ∧ I64w q.2.2 := by
  obtain ⟨xss, bs, rfl, h1, h2, h3, rfl⟩ := h.structI Try.underlying111
  match xss, bs, h1, h2 with
  | [x0, x1, x2], [b0, b1, b2], _, _ =>
    obtain ⟨n, rfl, w0, rfl⟩ := (h3 0 _ _ _ rfl rfl rfl).intI und_int
    obtain ⟨c, rfl, rfl⟩ := (h3 1 _ _ _ rfl rfl rfl).boolI und_bool
    obtain ⟨o, rfl, w2, rfl⟩ := (h3 2 _ _ _ rfl rfl rfl).intI und_int
    exact ⟨⟨n, c, o⟩, rfl, by simp only [List.sum_cons, List.sum_nil]; omega, wf64 w0, wf64 w2⟩
theorem ty_hooks {xs : List V} {b : Nat} (h : Ty Try.prog 34 xs b) : ∃ hs, xs = [.sl 3 (hRows hs)] ∧ hs.length + 1 ≤ b ∧ ∀ h ∈ hs, I64w h.1 ∧ I64w h.2.2 := by
  obtain ⟨rows, bs, rfl, h1, h2, rfl⟩ := h.sliceI Try.underlying34
  obtain ⟨hs, rfl, q1, q2⟩ := rows_sum (fun q : Int × Bool × Int => [.int .i64 q.1, .bool q.2.1, .int .i64 q.2.2]) (fun _ => 0) (fun h => I64w h.1 ∧ I64w h.2.2) (fun xs b h => ty_hook h) rows bs h1 h2
  exact ⟨hs, by rw [cellsH]; rfl, by omega, q2⟩
theorem ty_int {xs : List V} {b : Nat} (h : Ty Try.prog 3 xs b) : ∃ n : Int, xs = [.int .i64 n] ∧ 0 + 1 ≤ b ∧ I64w n := by
  obtain ⟨n, rfl, w0, rfl⟩ := h.intI und_int
  exact ⟨n, rfl, by omega, wf64 w0⟩
theorem ty_ints {xs : List V} {b : Nat} (h : Ty Try.prog 35 xs b) : ∃ l, xs = [.sl 1 (iRows l)] ∧ l.length + 1 ≤ b ∧ ∀ n ∈ l, I64w n := by
  obtain ⟨rows, bs, rfl, h1, h2, rfl⟩ := h.sliceI Try.underlying35
  obtain ⟨l, rfl, q1, q2⟩ := rows_sum (fun n : Int => [V.int .i64 n]) (fun _ => 0) I64w (fun xs b h => ty_int h) rows bs h1 h2
  exact ⟨l, by rw [cellsI]; rfl, by omega, q2⟩
abbrev Rw := List UInt8 × Runs
def rawW (s : Rw) : Nat := s.1.length + s.2.length
theorem ty_attr {xs : List V} {b : Nat} (h : Ty Try.prog 41 xs b) : ∃ a : Rw × Rw, xs = [.str a.1.1, .sl 2 (rws a.1.2), .str a.2.1, .sl 2 (rws a.2.2)] ∧ (rawW a.1 + rawW a.2) + 1 ≤ b ∧ True := by
  obtain ⟨x0, x1, b0, b1, rfl, h0, h1, rfl⟩ := h.two Try.underlying41
  obtain ⟨t, rs, rfl, q0⟩ := ty_str h0
  obtain ⟨t', rs', rfl, q1⟩ := ty_str h1
  exact ⟨((t, rs), (t', rs')), rfl, by simp only [rawW]; omega, trivial⟩
theorem ty_attrs {xs : List V} {b : Nat} (h : Ty Try.prog 33 xs b) : ∃ l : List (Rw × Rw), xs = [.sl 4 (aRows l)] ∧ l.length + (l.map fun a => rawW a.1 + rawW a.2).sum + 1 ≤ b := by
  obtain ⟨rows, bs, rfl, h1, h2, rfl⟩ := h.sliceI Try.underlying33
  obtain ⟨l, rfl, q1, q2⟩ := rows_sum (fun a : Rw × Rw => [.str a.1.1, .sl 2 (rws a.1.2), .str a.2.1, .sl 2 (rws a.2.2)]) (fun a => rawW a.1 + rawW a.2) (fun _ => True) (fun xs b h => ty_attr h) rows bs h1 h2
  exact ⟨l, by rw [cellsA]; rfl, by omega⟩
theorem ty_node {xs : List V} {b : Nat} (h : Ty Try.prog 37 xs b) : ∃ n : Nd, xs = nCells n ∧ n.ok b ∧ I64w n.id := by
  obtain ⟨xss, bs, rfl, h1, h2, h3, rfl⟩ := h.structI Try.underlying37
  match xss, bs, h1, h2 with
  | [x0, x1, x2, x3, x4, x5, x6, x7, x8, x9, x10], [b0, b1, b2, b3, b4, b5, b6, b7, b8, b9, b10], _, _ =>
    obtain ⟨n0, rfl, w0, rfl⟩ := (h3 0 _ _ _ rfl rfl rfl).intI und_int
    obtain ⟨n1, rfl, w1, rfl⟩ := (h3 1 _ _ _ rfl rfl rfl).intI und_int
    obtain ⟨n2, rfl, w2, rfl⟩ := (h3 2 _ _ _ rfl rfl rfl).intI und_int
    obtain ⟨n3, rfl, w3, rfl⟩ := (h3 3 _ _ _ rfl rfl rfl).intI und_int
    obtain ⟨t4, r4, rfl, q4⟩ := ty_str (h3 4 _ _ _ rfl rfl rfl)
    obtain ⟨k5, rfl, rfl⟩ := (h3 5 _ _ _ rfl rfl rfl).strI und_string
    obtain ⟨n6, rfl, w6, rfl⟩ := (h3 6 _ _ _ rfl rfl rfl).intI und_int
    obtain ⟨l7, rfl, q7⟩ := ty_attrs (h3 7 _ _ _ rfl rfl rfl)
    obtain ⟨l8, rfl, q8, w8⟩ := ty_hooks (h3 8 _ _ _ rfl rfl rfl)
    obtain ⟨l9, rfl, q9, w9⟩ := ty_ints (h3 9 _ _ _ rfl rfl rfl)
    obtain ⟨t10, r10, rfl, q10⟩ := ty_str (h3 10 _ _ _ rfl rfl rfl)
    simp only [List.sum_cons, List.sum_nil]
    refine ⟨⟨n0, n1, n2, n3, (t4, r4), k5, n6, l7, l8, l9, (t10, r10)⟩, rfl, ⟨⟨by simp only; omega, by simp only; omega⟩, ⟨by simp only; omega, by simp only; omega⟩, by simp only; omega, by simp only; omega, by simp only; omega, ?_⟩, wf64 w0⟩
    intro a ha
    have := sum_mem (fun a : Rw × Rw => rawW a.1 + rawW a.2) l7 a ha
    have e1 : rawW a.1 = a.1.1.length + a.1.2.length := rfl
    have e2 : rawW a.2 = a.2.1.length + a.2.2.length := rfl
    have this : rawW a.1 + rawW a.2 ≤ (l7.map fun a => rawW a.1 + rawW a.2).sum := this
    exact ⟨⟨by omega, by omega⟩, ⟨by omega, by omega⟩⟩
theorem arg_node (xs : List V) : argV Try.prog 37 xs = .agg xs := if_pos (by kernel_rfl)
end Go.Proofs.VL

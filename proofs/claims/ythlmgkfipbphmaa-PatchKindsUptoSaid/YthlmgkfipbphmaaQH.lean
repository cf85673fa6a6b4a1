/- Contracts of functions of the program, for what calls them, and the law that its name tells. -/
import Derived.Test.YthlmgkfipbphmaaLD
import Derived.Test.YthlmgkfipbphmaaQG
namespace Go.Proofs.VL
open Go Go.RowKit Go.WideShapes Go.ChangeShapes Go.ChangeAt
set_option maxRecDepth 100000
set_option linter.unusedSimpArgs false
set_option linter.unusedVariables false

theorem cells_patch : Try.prog.cellsOf 59 = 16 := by kernel_rfl
theorem ty_pat {xs : List V} {b : Nat} (h : Ty Try.prog 59 xs b) : ∃ p : Pat, xs = pCells p ∧ 0 + 1 ≤ b ∧ (rawOk b p.tag ∧ (rawOk b p.name ∧ rawOk b p.value) ∧ p.hooks.length ≤ b) := by
  obtain ⟨xss, bs, rfl, h1, h2, h3, rfl⟩ := h.structI Try.underlying59
  match xss, bs, h1, h2 with
  | [x0, x1, x2, x3, x4, x5, x6, x7, x8, x9, x10], [b0, b1, b2, b3, b4, b5, b6, b7, b8, b9, b10], _, _ =>
    obtain ⟨n0, rfl, _, rfl⟩ := (h3 0 _ _ _ rfl rfl rfl).intI und_int
    obtain ⟨n1, rfl, _, rfl⟩ := (h3 1 _ _ _ rfl rfl rfl).intI und_int
    obtain ⟨n2, rfl, _, rfl⟩ := (h3 2 _ _ _ rfl rfl rfl).intI und_int
    obtain ⟨n3, rfl, _, rfl⟩ := (h3 3 _ _ _ rfl rfl rfl).intI und_int
    obtain ⟨n4, rfl, _, rfl⟩ := (h3 4 _ _ _ rfl rfl rfl).intI und_int
    obtain ⟨t5, r5, rfl, q5⟩ := ty_str (h3 5 _ _ _ rfl rfl rfl)
    obtain ⟨k6, rfl, rfl⟩ := (h3 6 _ _ _ rfl rfl rfl).strI und_string
    obtain ⟨n7, rfl, _, rfl⟩ := (h3 7 _ _ _ rfl rfl rfl).intI und_int
    obtain ⟨a8, rfl, q8, _⟩ := ty_attr (h3 8 _ _ _ rfl rfl rfl)
    obtain ⟨hs, rfl, q9, _⟩ := ty_hooks (h3 9 _ _ _ rfl rfl rfl)
    obtain ⟨t10, r10, rfl, q10⟩ := ty_str (h3 10 _ _ _ rfl rfl rfl)
    simp only [List.sum_cons, List.sum_nil]
    have e1 : rawW a8.1 = a8.1.1.length + a8.1.2.length := rfl
    have e2 : rawW a8.2 = a8.2.1.length + a8.2.2.length := rfl
    refine ⟨⟨n0, n1, n2, n3, n4, (t5, r5), k6, n7, a8.1, a8.2, hs, (t10, r10)⟩, rfl, by omega, ⟨by simp only; omega, by simp only; omega⟩, ⟨⟨by simp only; omega, by simp only; omega⟩, ⟨by simp only; omega, by simp only; omega⟩⟩, by simp only; omega⟩
theorem ty_pats {xs : List V} {b : Nat} (h : Ty Try.prog 57 xs b) : ∃ ps, xs = [.sl 16 (pRows ps)] ∧ ps.length ≤ b := by
  obtain ⟨rows, bs, rfl, h1, h2, rfl⟩ := h.sliceI Try.underlying57
  obtain ⟨ps, rfl, q1, q2⟩ := rows_sum pCells (fun _ => 0) (fun _ => True) (fun xs b h => by
    obtain ⟨p, h1, h2, _⟩ := ty_pat h
    exact ⟨p, h1, h2, trivial⟩) rows bs h1 h2
  exact ⟨ps, by rw [cells_patch]; rfl, by omega⟩
theorem arg_pat (xs : List V) : argV Try.prog 59 xs = .agg xs := if_pos (by kernel_rfl)
end Go.Proofs.VL

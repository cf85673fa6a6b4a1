/- CommitNobody, in its second form: for all arguments of bulk at most 1048576 together, the law's call returns true and leaves its arguments as they were. No other condition. -/
import Derived.Test.YthlmgkfipbphmaaGreatKA
import Derived.Test.YthlmgkfipbphmaaGreatLZ
namespace Go.Proofs.YthlmgkfipbphmaaGreat.fnCommitNobody
open Go Go.RowKit Go.WideShapes Go.ChangeShapes Go.ChangeAt Go.Proofs.VL
set_option maxRecDepth 100000
set_option linter.unusedSimpArgs false
set_option linter.unusedVariables false

theorem law {H : Type} {ds : List (DataW H)} (hb : bulkL ds ≤ 1048576) (xss : List (List V)) (bs : List Nat) (hx : xss.length = Tryz.f4.params.size) (hbs : bs.length = Tryz.f4.params.size) (hs : bs.sum ≤ bulkL ds)
    (ht : ∀ (i : Nat) t xs b, Tryz.f4.params.toList[i]? = some t → xss[i]? = some xs → bs[i]? = some b → Ty Tryz.prog t xs b) : VFn Tryz.prog 4 (List.zipWith (argV Tryz.prog) Tryz.f4.params.toList xss) (.bool true) := by
  rw [Tryz.params4] at hx hbs ht ⊢
  match xss, bs, hx, hbs with
  | [x0], [b0], _, _ =>
    obtain ⟨l, rfl, h0⟩ := ty_views (ht 0 _ _ _ rfl rfl rfl)
    simp at hs
    show VFn Tryz.prog 4 [argV Tryz.prog 22 _] _
    rw [arg_one (by kernel_rfl)]
    exact commitNobody l (by omega)

theorem contract (H : Type) (enc : TypeId × Value → H) (W : World) (base : Nat) (args : Array Value) (ds gs : List (DataW H)) (before : List MemPlace)
    (hval : ∀ (j : Nat) t v, Tryz.f4.params[j]? = some t → args[j]? = some v → Value.okWide Tryz.prog W .any base t v)
    (hW : DataW.Whole enc Tryz.prog Tryz.f4.params.toList Rows.commitNobodySpec.vars false W args.toList ds gs before) (hk : Rows.uptoSmall H (ds ++ gs) = true) :
    Calls Tryz.prog 4 args W fun e W' => ∃ v, e = .returned v ∧ Rows.commitNobodySpec.post enc Tryz.prog Tryz.f4 false true false false W args v W' := by
  refine law_contract lo mr slb (by intro t ht; rw [Tryz.params4] at ht; simp at ht; first | (subst ht; exact ⟨by kernel_rfl, of_decide_eq_true (by kernel_rfl)⟩) | (rcases ht with rfl <;> exact ⟨by kernel_rfl, of_decide_eq_true (by kernel_rfl)⟩)) rfl (by kernel_rfl) und_bool hval hW ?_ ?_
  · intro hg hl
    subst hg
    rw [Tryz.params4] at hl
    match ds, hl with
    | [d0], _ => exact ⟨rfl, rfl, rfl⟩
  · intro hg xss bs h1 h2 h3 h4
    exact law (small_bulk hg hk) xss bs h1 h2 h3 h4

theorem lifted (os : Os) (started : os.Started) (H : Type) (enc : TypeId × Value → H) (F : Stop.Interp) :
    ReturnsInHanded {} Tryz.checked os 4 .any ((Rows.OpenSpec.upto Rows.commitNobodySpec).pre6 enc Tryz.prog Tryz.f4 Rows.commitNobodyUptoRow.domain false) (((Rows.OpenSpec.upto Rows.commitNobodySpec).at F).post enc Tryz.prog Tryz.f4 false true false false) := by
  refine returnsInHanded_of_cond (C := Tryz.checked) (s := Rows.OpenSpec.upto Rows.commitNobodySpec) (k := Rows.uptoSmall) rfl own started (by kernel_rfl) Tryz.func4
    (OpenSpec.witness (enc := enc) (C := Tryz.checked) (s := Rows.OpenSpec.upto Rows.commitNobodySpec) (k := Rows.uptoSmall) rfl false ⟨#[], #[.slice none 0 0], []⟩ 8 (by kernel_rfl) (by kernel_rfl) (by kernel_rfl)
      (x := ([.nil], [], [])) (by kernel_rfl) rfl (by kernel_rfl)) ?_
  intro W base args ds gs before hval hW _ hk _
  exact contract H enc W base args ds gs before hval hW hk

theorem holds : Rows.CommitNobodyUptoSaid :=
  OpenClaim.holds_of_cond 4 Tryz.f4 rfl rfl rfl rfl rfl rfl rfl ⟨rfl, rfl, rfl, rfl, rfl⟩ rfl rfl rfl rfl rfl (by kernel_rfl) Tryz.func4 (by kernel_rfl)
    (of_decide_eq_true (by kernel_rfl)) (by unfold Func.isWrapper; first | (rw [if_pos (by decide +kernel)]; kernel_rfl) | (rw [if_neg (by decide +kernel)]; exact ⟨rfl, rfl⟩))
    (fun os started H enc _ F => lifted os started H enc F)
end Go.Proofs.YthlmgkfipbphmaaGreat.fnCommitNobody

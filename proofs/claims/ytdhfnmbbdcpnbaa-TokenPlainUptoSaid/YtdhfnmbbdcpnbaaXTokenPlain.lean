/- TokenPlain, in its second form: for all arguments of bulk at most 1048576 together, the law's call returns true and leaves its arguments as they were. No other condition. -/
import Derived.Test.YtdhfnmbbdcpnbaaLA
import Derived.Test.YtdhfnmbbdcpnbaaPL
namespace Go.Proofs.Ytdhfnmbbdcpnbaa.fnTokenPlain
open Go Go.RowKit Go.WideShapes Go.ChangeShapes Go.ChangeAt Go.Proofs.VL
set_option maxRecDepth 100000
set_option linter.unusedSimpArgs false
set_option linter.unusedVariables false

theorem law {H : Type} {ds : List (DataW H)} (hb : bulkL ds ≤ 1048576) (xss : List (List V)) (bs : List Nat) (hx : xss.length = Try.f7.params.size) (hbs : bs.length = Try.f7.params.size) (hs : bs.sum ≤ bulkL ds)
    (ht : ∀ (i : Nat) t xs b, Try.f7.params.toList[i]? = some t → xss[i]? = some xs → bs[i]? = some b → Ty Try.prog t xs b) : VFn Try.prog 7 (List.zipWith (argV Try.prog) Try.f7.params.toList xss) (.bool true) := by
  rw [Try.params7] at hx hbs ht ⊢
  match xss, bs, hx, hbs with
  | [x0, x1], [b0, b1], _, _ =>
    obtain ⟨t, rs, rfl, h0⟩ := ty_str (ht 0 _ _ _ rfl rfl rfl)
    obtain ⟨x, rfl, rfl⟩ := (ht 1 _ _ _ rfl rfl rfl).strI und_string
    simp at hs
    show VFn Try.prog 7 [argV Try.prog 66 _, argV Try.prog 9 _] _
    rw [arg_str, arg_string]
    exact tokenPlain t rs x (by omega) (by omega)

theorem contract (H : Type) (enc : TypeId × Value → H) (W : World) (base : Nat) (args : Array Value) (ds gs : List (DataW H)) (before : List MemPlace)
    (hval : ∀ (j : Nat) t v, Try.f7.params[j]? = some t → args[j]? = some v → Value.okWide Try.prog W .any base t v)
    (hW : DataW.Whole enc Try.prog Try.f7.params.toList Rows.tokenPlainSpec.vars false W args.toList ds gs before) (hk : Rows.uptoSmall H (ds ++ gs) = true) :
    Calls Try.prog 7 args W fun e W' => ∃ v, e = .returned v ∧ Rows.tokenPlainSpec.post enc Try.prog Try.f7 false true false false W args v W' := by
  refine law_contract lo mr slb (by intro t ht; rw [Try.params7] at ht; simp at ht; first | (subst ht; exact ⟨by kernel_rfl, of_decide_eq_true (by kernel_rfl)⟩) | (rcases ht with rfl | rfl <;> exact ⟨by kernel_rfl, of_decide_eq_true (by kernel_rfl)⟩)) rfl (by kernel_rfl) und_bool hval hW ?_ ?_
  · intro hg hl
    subst hg
    rw [Try.params7] at hl
    match ds, hl with
    | [d0, d1], _ => exact ⟨rfl, rfl, rfl⟩
  · intro hg xss bs h1 h2 h3 h4
    exact law (small_bulk hg hk) xss bs h1 h2 h3 h4

theorem lifted (os : Os) (started : os.Started) (H : Type) (enc : TypeId × Value → H) (F : Stop.Interp) :
    ReturnsInHanded {} Try.checked os 7 .any ((Rows.OpenSpec.upto Rows.tokenPlainSpec).pre6 enc Try.prog Try.f7 Rows.tokenPlainUptoRow.domain false) (((Rows.OpenSpec.upto Rows.tokenPlainSpec).at F).post enc Try.prog Try.f7 false true false false) := by
  refine returnsInHanded_of_cond (C := Try.checked) (s := Rows.OpenSpec.upto Rows.tokenPlainSpec) (k := Rows.uptoSmall) rfl own started (by kernel_rfl) Try.func7
    (OpenSpec.witness (enc := enc) (C := Try.checked) (s := Rows.OpenSpec.upto Rows.tokenPlainSpec) (k := Rows.uptoSmall) rfl false ⟨#[], #[.agg #[.string .empty, .slice none 0 0], .string .empty], []⟩ 8 (by kernel_rfl) (by kernel_rfl) (by kernel_rfl)
      (x := ([.agg [.lit (.string []), .nil], .lit (.string [])], [], [])) (by kernel_rfl) rfl (by kernel_rfl)) ?_
  intro W base args ds gs before hval hW _ hk _
  exact contract H enc W base args ds gs before hval hW hk

theorem holds : Rows.TokenPlainUptoSaid :=
  OpenClaim.holds_of_cond 7 Try.f7 rfl rfl rfl rfl rfl rfl rfl ⟨rfl, rfl, rfl, rfl, rfl⟩ rfl rfl rfl rfl rfl (by kernel_rfl) Try.func7 (by kernel_rfl)
    (of_decide_eq_true (by kernel_rfl)) (by unfold Func.isWrapper; first | (rw [if_pos (by decide +kernel)]; kernel_rfl) | (rw [if_neg (by decide +kernel)]; exact ⟨rfl, rfl⟩))
    (fun os started H enc _ F => lifted os started H enc F)
end Go.Proofs.Ytdhfnmbbdcpnbaa.fnTokenPlain

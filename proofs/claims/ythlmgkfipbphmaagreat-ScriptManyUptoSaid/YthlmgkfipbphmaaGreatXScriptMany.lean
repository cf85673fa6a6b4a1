/- ScriptMany, in its second form: for all arguments of bulk at most 1048576 together, the law's call returns true and leaves its arguments as they were. No other condition. -/
import Derived.Test.YthlmgkfipbphmaaGreatKG
import Derived.Test.YthlmgkfipbphmaaGreatLZ
namespace Go.Proofs.YthlmgkfipbphmaaGreat.fnScriptMany
open Go Go.RowKit Go.WideShapes Go.ChangeShapes Go.ChangeAt Go.Proofs.VL
set_option maxRecDepth 100000
set_option linter.unusedSimpArgs false
set_option linter.unusedVariables false

theorem law {H : Type} {ds : List (DataW H)} (hb : bulkL ds ≤ 1048576) (xss : List (List V)) (bs : List Nat) (hx : xss.length = Tryz.f6.params.size) (hbs : bs.length = Tryz.f6.params.size) (hs : bs.sum ≤ bulkL ds)
    (ht : ∀ (i : Nat) t xs b, Tryz.f6.params.toList[i]? = some t → xss[i]? = some xs → bs[i]? = some b → Ty Tryz.prog t xs b) : VFn Tryz.prog 6 (List.zipWith (argV Tryz.prog) Tryz.f6.params.toList xss) (.bool true) := by
  rw [Tryz.params6] at hx hbs ht ⊢
  match xss, bs, hx, hbs with
  | [x0, x1], [b0, b1], _, _ =>
    obtain ⟨o, rfl, h2, h3⟩ := ty_int (ht 0 _ _ _ rfl rfl rfl)
    obtain ⟨p, rfl, h4, h5⟩ := ty_int (ht 1 _ _ _ rfl rfl rfl)
    show VFn Tryz.prog 6 [argV Tryz.prog 3 _, argV Tryz.prog 3 _] _
    rw [arg_int, arg_int]
    exact scriptMany o p

theorem contract (H : Type) (enc : TypeId × Value → H) (W : World) (base : Nat) (args : Array Value) (ds gs : List (DataW H)) (before : List MemPlace)
    (hval : ∀ (j : Nat) t v, Tryz.f6.params[j]? = some t → args[j]? = some v → Value.okWide Tryz.prog W .any base t v)
    (hW : DataW.Whole enc Tryz.prog Tryz.f6.params.toList Rows.scriptManySpec.vars false W args.toList ds gs before) (hk : Rows.uptoSmall H (ds ++ gs) = true) :
    Calls Tryz.prog 6 args W fun e W' => ∃ v, e = .returned v ∧ Rows.scriptManySpec.post enc Tryz.prog Tryz.f6 false true false false W args v W' := by
  refine law_contract lo mr slb (by intro t ht; rw [Tryz.params6] at ht; simp at ht; first | (subst ht; exact ⟨by kernel_rfl, of_decide_eq_true (by kernel_rfl)⟩) | (rcases ht with rfl | rfl <;> exact ⟨by kernel_rfl, of_decide_eq_true (by kernel_rfl)⟩)) rfl (by kernel_rfl) und_bool hval hW ?_ ?_
  · intro hg hl
    subst hg
    rw [Tryz.params6] at hl
    match ds, hl with
    | [d0, d1], _ => exact ⟨rfl, rfl, rfl⟩
  · intro hg xss bs h1 h2 h3 h4
    exact law (small_bulk hg hk) xss bs h1 h2 h3 h4

theorem lifted (os : Os) (started : os.Started) (H : Type) (enc : TypeId × Value → H) (F : Stop.Interp) :
    ReturnsInHanded {} Tryz.checked os 6 .any ((Rows.OpenSpec.upto Rows.scriptManySpec).pre6 enc Tryz.prog Tryz.f6 Rows.scriptManyUptoRow.domain false) (((Rows.OpenSpec.upto Rows.scriptManySpec).at F).post enc Tryz.prog Tryz.f6 false true false false) := by
  refine returnsInHanded_of_cond (C := Tryz.checked) (s := Rows.OpenSpec.upto Rows.scriptManySpec) (k := Rows.uptoSmall) rfl own started (by kernel_rfl) Tryz.func6
    (OpenSpec.witness (enc := enc) (C := Tryz.checked) (s := Rows.OpenSpec.upto Rows.scriptManySpec) (k := Rows.uptoSmall) rfl false ⟨#[], #[.int .i64 0, .int .i64 0], []⟩ 8 (by kernel_rfl) (by kernel_rfl) (by kernel_rfl)
      (x := ([.lit (.int .i64 0), .lit (.int .i64 0)], [], [])) (by kernel_rfl) rfl (by kernel_rfl)) ?_
  intro W base args ds gs before hval hW _ hk _
  exact contract H enc W base args ds gs before hval hW hk

theorem holds : Rows.ScriptManyUptoSaid :=
  OpenClaim.holds_of_cond 6 Tryz.f6 rfl rfl rfl rfl rfl rfl rfl ⟨rfl, rfl, rfl, rfl, rfl⟩ rfl rfl rfl rfl rfl (by kernel_rfl) Tryz.func6 (by kernel_rfl)
    (of_decide_eq_true (by kernel_rfl)) (by unfold Func.isWrapper; first | (rw [if_pos (by decide +kernel)]; kernel_rfl) | (rw [if_neg (by decide +kernel)]; exact ⟨rfl, rfl⟩))
    (fun os started H enc _ F => lifted os started H enc F)
end Go.Proofs.YthlmgkfipbphmaaGreat.fnScriptMany

/- StatsCommon, in its second form: for all arguments of bulk at most 1048576 together, the law's call returns true and leaves its arguments as they were. No other condition. -/
import Derived.Test.YtdhfnmbbdcpnbaaLS
import Derived.Test.YtdhfnmbbdcpnbaaFC
namespace Go.Proofs.Ytdhfnmbbdcpnbaa.fnStatsCommon
open Go Go.RowKit Go.WideShapes Go.ChangeShapes Go.ChangeAt Go.Proofs.VL
set_option maxRecDepth 100000
set_option linter.unusedSimpArgs false
set_option linter.unusedVariables false

theorem law {H : Type} {ds : List (DataW H)} (hb : bulkL ds ≤ 1048576) (xss : List (List V)) (bs : List Nat) (hx : xss.length = Try.f3.params.size) (hbs : bs.length = Try.f3.params.size) (hs : bs.sum ≤ bulkL ds)
    (ht : ∀ (i : Nat) t xs b, Try.f3.params.toList[i]? = some t → xss[i]? = some xs → bs[i]? = some b → Ty Try.prog t xs b) : VFn Try.prog 3 (List.zipWith (argV Try.prog) Try.f3.params.toList xss) (.bool true) := by
  rw [Try.params3] at hx hbs ht ⊢
  match xss, bs, hx, hbs with
  | [x0], [b0], _, _ =>
    obtain ⟨n, rfl, h1, _⟩ := (ht 0 _ _ _ rfl rfl rfl).intI (show Try.prog.underlying 5 = some (.int .u8) by kernel_rfl)
    show VFn Try.prog 3 [argV Try.prog 5 _] _
    rw [arg_one (by kernel_rfl)]
    obtain ⟨m, rfl, hm⟩ : ∃ m : Nat, n = (m : Int) ∧ m < 256 := by
      have hmin : IntKind.u8.min = 0 := rfl
      have hmax : IntKind.u8.max = 255 := rfl
      simp only [Lit.wf, Bool.and_eq_true, decide_eq_true_eq] at h1
      exact ⟨n.toNat, by omega, by omega⟩
    exact statsCommon m hm

theorem contract (H : Type) (enc : TypeId × Value → H) (W : World) (base : Nat) (args : Array Value) (ds gs : List (DataW H)) (before : List MemPlace)
    (hval : ∀ (j : Nat) t v, Try.f3.params[j]? = some t → args[j]? = some v → Value.okWide Try.prog W .any base t v)
    (hW : DataW.Whole enc Try.prog Try.f3.params.toList Rows.statsCommonSpec.vars false W args.toList ds gs before) (hk : Rows.uptoSmall H (ds ++ gs) = true) :
    Calls Try.prog 3 args W fun e W' => ∃ v, e = .returned v ∧ Rows.statsCommonSpec.post enc Try.prog Try.f3 false true false false W args v W' := by
  refine law_contract lo mr slb (by intro t ht; rw [Try.params3] at ht; simp at ht; first | (subst ht; exact ⟨by kernel_rfl, of_decide_eq_true (by kernel_rfl)⟩) | (rcases ht with rfl <;> exact ⟨by kernel_rfl, of_decide_eq_true (by kernel_rfl)⟩)) rfl (by kernel_rfl) und_bool hval hW ?_ ?_
  · intro hg hl
    subst hg
    rw [Try.params3] at hl
    match ds, hl with
    | [d0], _ => exact ⟨rfl, rfl, rfl⟩
  · intro hg xss bs h1 h2 h3 h4
    exact law (small_bulk hg hk) xss bs h1 h2 h3 h4

theorem lifted (os : Os) (started : os.Started) (H : Type) (enc : TypeId × Value → H) (F : Stop.Interp) :
    ReturnsInHanded {} Try.checked os 3 .any ((Rows.OpenSpec.upto Rows.statsCommonSpec).pre6 enc Try.prog Try.f3 Rows.statsCommonUptoRow.domain false) (((Rows.OpenSpec.upto Rows.statsCommonSpec).at F).post enc Try.prog Try.f3 false true false false) := by
  refine returnsInHanded_of_cond (C := Try.checked) (s := Rows.OpenSpec.upto Rows.statsCommonSpec) (k := Rows.uptoSmall) rfl own started (by kernel_rfl) Try.func3
    (OpenSpec.witness (enc := enc) (C := Try.checked) (s := Rows.OpenSpec.upto Rows.statsCommonSpec) (k := Rows.uptoSmall) rfl false ⟨#[], #[.int .u8 0], []⟩ 8 (by kernel_rfl) (by kernel_rfl) (by kernel_rfl)
      (x := ([.lit (.int .u8 0)], [], [])) (by kernel_rfl) rfl (by kernel_rfl)) ?_
  intro W base args ds gs before hval hW _ hk _
  exact contract H enc W base args ds gs before hval hW hk

theorem holds : Rows.StatsCommonUptoSaid :=
  OpenClaim.holds_of_cond 3 Try.f3 rfl rfl rfl rfl rfl rfl rfl ⟨rfl, rfl, rfl, rfl, rfl⟩ rfl rfl rfl rfl rfl (by kernel_rfl) Try.func3 (by kernel_rfl)
    (of_decide_eq_true (by kernel_rfl)) (by unfold Func.isWrapper; first | (rw [if_pos (by decide +kernel)]; kernel_rfl) | (rw [if_neg (by decide +kernel)]; exact ⟨rfl, rfl⟩))
    (fun os started H enc _ F => lifted os started H enc F)
end Go.Proofs.Ytdhfnmbbdcpnbaa.fnStatsCommon
